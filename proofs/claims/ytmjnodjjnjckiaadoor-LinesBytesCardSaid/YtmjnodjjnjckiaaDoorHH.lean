/- package spandrellaw30: blot. -/
import Derived.Test.YtmjnodjjnjckiaaDoorGG
import Derived.Test.YtmjnodjjnjckiaaDoorPLinesx3
namespace Go.Proofs.YtmjnodjjnjckiaaDoor
open Go.RowKit Go.Shelf Go.Proofs.YtmjnodjjnjckiaaDoorW.PrintWords PLines Go.Proofs.YtmjnodjjnjckiaaDoorW.PrintLast Go.Proofs.YtmjnodjjnjckiaaDoorW.PrintMore

set_option maxHeartbeats 8000000 in
set_option maxRecDepth 100000 in
theorem word_calls (a0 : ByteArray) (w : World) : Calls Tryd.prog 21 #[.string a0] w fun e w' => e = .returned (.agg #[.string a0, .slice none 0 0]) ∧ Below w.heap.size w w' := by
  have hu41 := Tryd.underlying41
  have HB := Aside0.mk (Below.refl w.heap.size w)
  go_enter Tryd.func21, Tryd.ntmps21
  go_wp2_with (first | ((with_reducible refine gate_dst (N := 2) rfl ?_); refine box_event ?hg (N := 2) ?hd (cs := #[.string (⟨#[]⟩ : ByteArray), .slice none 0 0]) (t := 41) ?hr ?_; (case hd => rfl); (case hg => rfl); (case hr => first | (go_simp; done) | (go_simp; rfl)); intro gb148 hg w2 hbox hb; have n0_ := Aside0.mk (below_step (by repeat (first | (with_reducible first | exact HB.out | apply below_alloc | apply pw_below_drewN | apply below_drew1) | exact HB.out)) hb); have n1_ := Aside0.mk (hbox); have n2_ := Aside0.mk ((by rw [hg]; exact (below_size (by repeat (first | (with_reducible first | exact HB.out | apply below_alloc | apply pw_below_drewN | apply below_drew1) | exact HB.out))) : w.heap.size ≤ gb148)); have n3_ := Aside0.mk ((by rw [hg]; exact (below_size (by repeat (first | (with_reducible first | exact HB.out | apply below_alloc | apply pw_below_drewN | apply below_drew1) | exact HB.out))) : w.heap.size ≤ gb148)); clear HB; have HB := n0_; have BK148 := n1_; have GW148 := n2_; have GE148 := n3_; clear n0_ n1_ n2_ n3_; clear hb hbox hg; have hcz3_0 : w2.cell? ⟨gb148, 0, none⟩ = some (.string (⟨#[]⟩ : ByteArray)) := (blk_cell BK148.out 0).trans rfl; have hcz3_1 : w2.cell? ⟨gb148, 1, none⟩ = some (.slice none 0 0) := (blk_cell BK148.out 1).trans rfl; have hfz3_0 := blk_frozen BK148.out 0; have hfz3_1 := blk_frozen BK148.out 1))
  refine bodyPost_ret (results_cell_row rfl _ _ gb148 41 #[.string a0, .slice none 0 0] (0, 0) _ rfl (by (with_reducible repeat (first | refine blk_drewN ?_ _ | refine blk_drew ?_ | refine blk_alloc ?_ _)); refine blk_put (cs := #[.string a0, .slice none 0 0]) ?_ 1 _ rfl; (with_reducible repeat (first | refine blk_drewN ?_ _ | refine blk_drew ?_ | refine blk_alloc ?_ _)); refine blk_put (cs := #[.string (⟨#[]⟩ : ByteArray), .slice none 0 0]) ?_ 0 _ rfl; (with_reducible repeat (first | refine blk_drewN ?_ _ | refine blk_drew ?_ | refine blk_alloc ?_ _)); exact BK148.out) Tryd.underlying41 rfl (by kernel_rfl)) rfl ?_
  exact ⟨rfl, by repeat (first | (with_reducible first | exact HB.out | apply below_alloc | apply pw_below_drewN | apply below_drew1 | refine below_set ?_ GE148.out) | exact HB.out)⟩
theorem at_R41 {w : World} {B : Nat} {ok : Nat → Prop} {v : Value} {l : List S41} (h : k41.R 41 w B ok v l) {i : Nat} (hi : i < l.length) :
    ∃ g cap cur v1, v = .slice (some ⟨g, 0, none⟩) l.length cap ∧ w.heap[g]? = some (.cells cur 41 (0, 0)) ∧ cur.size = cap * 2 ∧ l.length ≤ cap ∧ ok g ∧ cur[i * 2]? = some (.string (rd_T41 l (i : Int)).f0) ∧ cur[i * 2 + 1]? = some v1 ∧
      k41.R 41 w B (fun k => ok k ∧ some k ≠ v.ownBlock) v1 (rd_T41 l (i : Int)).f1 := by
  obtain ⟨hok, inner, hown, hrep⟩ := h
  rcases hown.2 with ⟨rfl, hl0⟩ | ⟨g, cap, cur, rfl, hBg, hg, hle, hcm, hsz, htk⟩
  · omega
  have hsize : k41.sz = 2 := rfl
  rw [hsize] at hsz htk
  have hx : l[i]? = some (rd_T41 l (i : Int)) := by unfold rd_T41; simp [List.getD, hi]
  have hm := hrep.2 i _ hx
  rw [hsize] at hm
  obtain ⟨v1, e1, hk⟩ := k41_openM hm
  obtain ⟨i0, i1⟩ := two_of e1
  rw [← htk, List.getElem?_take_of_lt (by omega), Array.getElem?_toList] at i0 i1
  exact ⟨g, cap, cur, v1, rfl, hg, hsz, hle, hok g rfl, i0, i1, hk⟩

theorem blots_set {w : World} {g i : Nat} {cur : Array Value} (hg : w.heap[g]? = some (.cells cur 41 (0, 0))) (hi : i * 2 + 1 < cur.size) :
    Blots w ((w.setCell ⟨g, i * 2, none⟩ (.string blotW)).setCell ⟨g, i * 2 + 1, none⟩ (.slice none 0 0)) := by
  have h1 := blk_set (blk_set hg (i * 2) (.string blotW)) (i * 2 + 1) (.slice none 0 0)
  refine ⟨by simp [World.setCell], fun k o ho => ?_⟩
  by_cases hk : k = g
  · subst hk
    rw [hg] at ho
    injection ho with ho
    subst ho
    refine .inr ⟨cur, _, rfl, h1, by simp, fun j hj => ?_⟩
    by_cases hji : j = i
    · subst hji
      refine .inr ⟨?_, ?_⟩
      · rw [Array.getElem?_setIfInBounds_ne (by omega), show 2 * j = j * 2 by omega, Array.getElem?_setIfInBounds_self_of_lt (by omega)]
      · rw [show 2 * j + 1 = j * 2 + 1 by omega, Array.getElem?_setIfInBounds_self_of_lt (by simp; omega)]
    · refine .inl ⟨?_, ?_⟩
      · rw [Array.getElem?_setIfInBounds_ne (by omega), Array.getElem?_setIfInBounds_ne (by omega)]
      · rw [Array.getElem?_setIfInBounds_ne (by omega), Array.getElem?_setIfInBounds_ne (by omega)]
  · exact .inl ((Below.heap_setCell _ _ _ k hk).trans ((Below.heap_setCell _ _ _ k hk).trans ho))

set_option maxHeartbeats 4000000 in
set_option maxRecDepth 100000 in
theorem blot_calls (B : Nat) (N : Nat) : ∀ (l : List S41) (ok : Nat → Prop) (v : Value) (W : World), cnL l ≤ N → k41.R 41 W B ok v l →
    Calls Tryd.prog 12 #[v] W fun e w' => e = .returned (.tuple #[]) ∧ Blots W w' ∧ Below 0 W w' ∧ ∀ k, k < W.heap.size → ¬ ok k → w'.heap[k]? = W.heap[k]? := by
  induction N using Nat.strongRecOn with
  | _ N ih =>
  intro l ok v W hN h
  have hlen : l.length ≤ 9223372036854775807 := by obtain ⟨A, c, _, _, hC⟩ := Kd.R_reads h; exact C_len hC
  obtain ⟨A, c, rfl⟩ := Kd.R_slice h
  have IH := Aside0.mk ih
  have HR := Aside0.mk h
  have HN := Aside0.mk hN
  have HLEN := Aside0.mk hlen
  clear ih h hN hlen
  go_enter Tryd.func12, Tryd.ntmps12
  go_wp2_with fail
  go_loopw [2] (fun v wr => ∃ i : Nat, v = .int .i64 i ∧ i ≤ l.length ∧ Blots W wr ∧ Below 0 W wr ∧ ∀ k, k < W.heap.size → ¬ ok k → wr.heap[k]? = W.heap[k]?) (fun v _ => l.length - idx v)
  case atStart => exact ⟨0, rfl, Nat.zero_le _, Blots.refl _, Below.refl _ _, fun _ _ _ => rfl⟩
  case round =>
    obtain ⟨i, rfl, hil, hbl, hb0, hk0⟩ := hrel
    have HI := Aside0.mk hil
    have HBL := Aside0.mk hbl
    have HB0 := Aside0.mk hb0
    have HK0 := Aside0.mk hk0
    clear hil hbl hb0 hk0
    by_cases hi : i < l.length
    · have hi0 : decide ((i : Int) < (l.length : Int)) = true := by simp; exact hi
      obtain ⟨l', hR', hl', hcn⟩ := blot_rows HBL.out N l ok _ HN.out HR.out
      obtain ⟨g, cap, cur, v1, e1, hg, hsz, hle, hokg, hq0, hq1, hkk⟩ := at_R41 hR' (i := i) (by rw [hl']; exact hi)
      rw [hl'] at e1 hle
      injection e1 with eA _ ec
      subst eA ec
      obtain ⟨x, hx⟩ : ∃ x, rd_T41 l' (i : Int) = x := ⟨_, rfl⟩
      have hxm : cnT x ≤ cnL l' := by rw [← hx]; exact cn_mem (rd_mem (by rw [hl']; exact hi))
      rw [cnT_eq] at hxm
      rw [hx] at hq0 hkk
      obtain ⟨A1, c1, rfl⟩ := Kd.R_slice hkk
      have hx1 : wr.cell? ⟨g, i * 2 + 1, none⟩ = some (.slice A1 x.f1.length c1) := by simp [World.cell?, hg, hq1]
      have HKID := Aside0.mk (IH.out (cnL x.f1) (by have := HN.out; omega) x.f1 _ _ wr (Nat.le_refl _) hkk)
      have HG := Aside0.mk hg
      have HQ0 := Aside0.mk hq0
      have HSZ := Aside0.mk hsz
      have HLE := Aside0.mk hle
      have HOKG := Aside0.mk hokg
      obtain ⟨ii, hii⟩ : ∃ ii : Int, (i : Int) = ii := ⟨_, rfl⟩
      have hx2 : wr.cell? ⟨g, ii.toNat * 2 + 1, none⟩ = some (.slice A1 x.f1.length c1) := by rw [← hii]; exact hx1
      rw [hii] at hi0 ⊢
      have p1 : (0 ≤ ii) = True := eq_true (by omega)
      have p2 : (ii < (l.length : Int)) = True := eq_true (by omega)
      have HII := Aside0.mk hi
      have HIJ := Aside0.mk hii
      clear hi hii hg hq0 hq1 hsz hle hokg hkk hR' hl' hcn hxm hx hx1
      have HQ1 := Aside0.mk hx2
      go_wp2_with fail
      refine HKID.out.mono ?_
      rintro e w5 ⟨rfl, hbl5, hb05, hk5⟩
      have hg5 : w5.heap[g]? = some (.cells cur 41 (0, 0)) := (hk5 g (size_of HG.out) (fun h => h.2 rfl)).trans HG.out
      have HBL5 := Aside0.mk hbl5
      have HB05 := Aside0.mk hb05
      have HK5 := Aside0.mk hk5
      have HG5 := Aside0.mk hg5
      clear hbl5 hb05 hk5 hg5 hx2
      go_wp2_with fail
      refine (word_calls blotW w5).mono ?_
      rintro e w6 ⟨rfl, hb6⟩
      have hg6 : w6.heap[g]? = some (.cells cur 41 (0, 0)) := (hb6.block g (size_of HG5.out)).trans HG5.out
      have hii2 : ii.toNat = i := by have := HIJ.out; omega
      have hcs : i * 2 + 1 < cur.size := by have h1 := HSZ.out; have h2 := HLE.out; have h3 := HII.out; omega
      obtain ⟨z0, hs0⟩ : ∃ z0, w6.cell? ⟨g, ii.toNat * 2, none⟩ = some z0 := ⟨_, by rw [hii2]; exact cell_blk hg6 _ _ (Array.getElem?_eq_getElem (by omega))⟩
      obtain ⟨z1, hs1⟩ : ∃ z1, w6.cell? ⟨g, ii.toNat * 2 + 1, none⟩ = some z1 := ⟨_, by rw [hii2]; exact cell_blk hg6 _ _ (Array.getElem?_eq_getElem hcs)⟩
      have hf0 : w6.frozen? ⟨g, ii.toNat * 2, none⟩ = false := frozen_blk hg6 _
      have hf1 : w6.frozen? ⟨g, ii.toNat * 2 + 1, none⟩ = false := frozen_blk hg6 _
      have HB6 := Aside0.mk hb6
      have HG6 := Aside0.mk hg6
      have HII2 := Aside0.mk hii2
      have HCS := Aside0.mk hcs
      clear hb6 hg6 hii2 hcs
      go_wp2_with fail
      go_roundw
      case rel =>
        refine ⟨i + 1, by rw [← HIJ.out, wrap_i (by have := HII.out; have := HLEN.out; omega)], HII.out, ?_, ?_, ?_⟩
        · rw [HII2.out]
          exact (HBL.out.trans (HBL5.out.trans (Blots.of_below HB6.out))).trans (blots_set HG6.out HCS.out)
        · exact ((HB0.out.trans (HB05.out.trans (HB6.out.mono (Nat.zero_le _)))).setCell (Nat.zero_le _) _).setCell (Nat.zero_le _) _
        · intro k hk hno
          have hkg : k ≠ g := fun e => hno (e ▸ HOKG.out)
          have hk1 : k < wr.heap.size := Nat.lt_of_lt_of_le hk HBL.out.1
          have hk2 : k < w5.heap.size := Nat.lt_of_lt_of_le hk1 HBL5.out.1
          exact (Below.heap_setCell _ _ _ k hkg).trans ((Below.heap_setCell _ _ _ k hkg).trans ((HB6.out.block k hk2).trans ((HK5.out k hk1 (fun h => hno h.1)).trans (HK0.out k hk hno))))
      case measure => rw [← HIJ.out, wrap_i (by have := HII.out; have := HLEN.out; omega)]; have := HII.out; simp [idx]; try omega
    · have hi0 : decide ((i : Int) < (l.length : Int)) = false := by simp; omega
      go_wp2_with fail
      go_end0
      exact ⟨rfl, HBL.out, HB0.out, HK0.out⟩
end Go.Proofs.YtmjnodjjnjckiaaDoor

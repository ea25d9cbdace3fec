/- package lines: Write's closure. -/
import Derived.Test.YtmjnodjjnjckiaaDoorN
import Derived.Test.YtmjnodjjnjckiaaDoorPLinesx1
import Derived.Tactics2
import Derived.Defers
import Derived.Recover
import Derived.Laws.Pointers
namespace Go.Proofs.YtmjnodjjnjckiaaDoor
open Go.RowKit Go.Shelf Go.Proofs.YtmjnodjjnjckiaaDoorW.PrintWords PLines Go.Proofs.YtmjnodjjnjckiaaDoorW.PrintLast Go.Proofs.YtmjnodjjnjckiaaDoorW.PrintMore

/-- From some fuel on, a result. -/
def Ev {α : Type} (F : Nat → Option α) (r : α) : Prop := ∃ k, ∀ k', k ≤ k' → F k' = some r
mutual
/-- How deep. -/
def deT : S41 → Nat
  | ⟨_, ks⟩ => deL ks + 1
def deL : List S41 → Nat
  | [] => 0
  | x :: xs => max (deT x) (deL xs)
end
mutual
/-- How much. -/
def wtT : S41 → Nat
  | ⟨w, ks⟩ => 1 + w.size + wtL ks
def wtL : List S41 → Nat
  | [] => 0
  | x :: xs => wtT x + wtL xs
end
theorem deT_eq (x : S41) : deT x = deL x.f1 + 1 := by cases x; rfl
theorem wtT_eq (x : S41) : wtT x = 1 + x.f0.size + wtL x.f1 := by cases x; rfl
theorem wt_len : ∀ l : List S41, l.length ≤ wtL l
  | [] => by simp [wtL]
  | x :: xs => by have := wt_len xs; simp only [List.length_cons, wtL, wtT_eq]; omega
theorem wt_mem : ∀ {l : List S41} {x : S41}, x ∈ l → wtT x ≤ wtL l
  | y :: ys, x, h => by
    rcases List.mem_cons.1 h with rfl | h
    · simp [wtL]
    · have := wt_mem h; simp [wtL]; omega
theorem wt_drop : ∀ (l : List S41) (i : Nat), wtL (l.drop i) ≤ wtL l
  | [], i => by simp
  | x :: xs, 0 => by simp
  | x :: xs, i + 1 => by have := wt_drop xs i; simp only [List.drop_succ_cons, wtL]; omega
theorem de_wt (n : Nat) : ∀ l : List S41, SizeOf.sizeOf l ≤ n → deL l ≤ wtL l := by
  induction n with
  | zero => intro l h; cases l <;> simp at h
  | succ n ih =>
    intro l
    induction l with
    | nil => intro _; simp [deL]
    | cons x xs ihl =>
      intro h
      have h1 := size41 (List.mem_cons_self (a := x) (l := xs))
      have h2 := ih x.f1 (by omega)
      have h3 := ihl (by simp at h; omega)
      simp only [deL, wtL, deT_eq, wtT_eq]
      omega
theorem sm_wt (n : Nat) : ∀ l : List S41, SizeOf.sizeOf l ≤ n → wtL l ≤ 1000000000000 → smL l := by
  induction n with
  | zero => intro l h; cases l <;> simp at h
  | succ n ih =>
    intro l
    induction l with
    | nil => intro _ _; trivial
    | cons x xs ihl =>
      intro h hw
      have h1 := size41 (List.mem_cons_self (a := x) (l := xs))
      simp only [wtL, wtT_eq] at hw
      refine ⟨?_, ihl (by simp at h; omega) (by omega)⟩
      rw [smT_eq]
      exact ⟨by omega, ih x.f1 (by omega) (by omega)⟩
theorem de_mem : ∀ {l : List S41} {x : S41}, x ∈ l → deT x ≤ deL l
  | y :: ys, x, h => by
    rcases List.mem_cons.1 h with rfl | h
    · simp only [deL]; omega
    · have := de_mem h; simp only [deL]; omega
theorem drop_rd {l : List S41} {i : Nat} (h : i < l.length) : l.drop i = rd_T41 l (i : Int) :: l.drop (i + 1) := by
  rw [List.drop_eq_getElem_cons h]
  congr 1
  simp [rd_T41, List.getD, h]

theorem deep_loop {l : List S41} (hw : wtL l ≤ 1000000000000) (hf : ∀ x ∈ l, Ev (fun k => lines_Deep.f k x.f0 x.f1) ((deT x : Nat) : Int)) : ∀ (j i acc : Nat), i + j = l.length → acc ≤ 1000000000000 →
    Ev (fun k => lines_Deep.l0 k (acc : Int) l (l.length : Int) (i : Int)) ((max acc (deL (l.drop i)) + 1 : Nat) : Int)
  | 0, i, acc, h, ha => by
    refine ⟨1, fun k hk => ?_⟩
    obtain ⟨k, rfl⟩ : ∃ k', k = k' + 1 := ⟨k - 1, by omega⟩
    simp only [lines_Deep.l0]
    rw [if_neg (by omega), wrap_i (by omega), List.drop_of_length_le (by omega)]
    simp [deL]
  | j + 1, i, acc, h, ha => by
    have hi : i < l.length := by omega
    have hlen := wt_len l
    have hm := rd_mem hi
    have hd : deT (rd_T41 l (i : Int)) ≤ 1000000000000 := by
      have h1 := wt_mem hm
      rw [deT_eq]
      rw [wtT_eq] at h1
      have h2 := de_wt _ (rd_T41 l (i : Int)).f1 (Nat.le_refl _)
      omega
    obtain ⟨k1, h1⟩ := hf _ hm
    dsimp only at h1
    obtain ⟨k2, h2⟩ := deep_loop hw hf j (i + 1) (max acc (deT (rd_T41 l (i : Int)))) (by omega) (by omega)
    dsimp only at h2
    refine ⟨max k1 k2 + 1, fun k hk => ?_⟩
    obtain ⟨k, rfl⟩ : ∃ k', k = k' + 1 := ⟨k - 1, by omega⟩
    simp only [lines_Deep.l0]
    rw [if_pos (by omega), if_pos (by omega), if_pos (by omega), h1 k (by omega), Option.bind_some, wrap_i (by omega)]
    have hmx : mx (acc : Int) ((deT (rd_T41 l (i : Int)) : Nat) : Int) = ((max acc (deT (rd_T41 l (i : Int))) : Nat) : Int) := by unfold mx; split <;> omega
    rw [hmx, h2 k (by omega), drop_rd hi]
    simp only [deL]
    congr 2
    omega
theorem deep_f (n : Nat) : ∀ l : List S41, SizeOf.sizeOf l ≤ n → wtL l ≤ 1000000000000 → ∀ a, Ev (fun k => lines_Deep.f k a l) ((deL l + 1 : Nat) : Int) := by
  induction n with
  | zero => intro l h; cases l <;> simp at h
  | succ n ih =>
    intro l h hw a
    have hf : ∀ x ∈ l, Ev (fun k => lines_Deep.f k x.f0 x.f1) ((deT x : Nat) : Int) := fun x hx => by
      rw [deT_eq]
      have h1 := wt_mem hx
      rw [wtT_eq] at h1
      exact ih x.f1 (by have := size41 hx; omega) (by omega) _
    obtain ⟨k, hk⟩ := deep_loop hw hf l.length 0 0 (by omega) (by omega)
    refine ⟨k + 1, fun k' hk' => ?_⟩
    obtain ⟨k', rfl⟩ : ∃ k'', k' = k'' + 1 := ⟨k' - 1, by omega⟩
    have := hk k' (by omega)
    simpa [lines_Deep.f] using this
/-- Deep, at a tree that lies in memory. -/
theorem deep_calls {x : S41} {A : Option Addr} {c : Nat} {w : World} (hr : Kd.C k41 w A x.f1.length x.f1) (hc : x.f1.length ≤ c) (hw : wtT x ≤ 1000000000000) :
    Calls Tryd.prog 18 #[.agg #[.string x.f0, .slice A x.f1.length c]] w fun e w' => e = .returned (.int .i64 ((deT x : Nat) : Int)) ∧ Below w.heap.size w w' := by
  rw [wtT_eq] at hw
  obtain ⟨k, hk⟩ := deep_f _ x.f1 (Nat.le_refl _) (by omega) x.f0
  rw [deT_eq]
  exact lines_Deep.calls k x.f0 A c x.f1 _ w hr hc (hk k (Nat.le_refl _))

/-- The text that Write tells, or the error's number. -/
def writeOut (l : List S41) : Except Int (List UInt8) :=
  if okL l = true then (if ∀ x ∈ l, deT x ≤ 400 then (if (outL l).length ≤ 262144 then .ok (outL l) else .error 3) else .error 3) else .error 4

theorem wr_new (w : World) : WrAt w.heap.size w.heap.size [] (w.alloc (.cells #[.pointer none, .slice none 0 0] 77)) := by
  have hb : (w.alloc (.cells #[.pointer none, .slice none 0 0] 77)).heap[w.heap.size]? = some (.cells #[.pointer none, .slice none 0 0] 77 (0, 0)) := World.alloc_heap_new w _
  exact ⟨.inl ⟨Nat.le_refl _, .slice none 0 0, hb, own_nil _ _ _ _, by simp [Value.ownBlock]⟩, fun _ => hb⟩

set_option maxHeartbeats 4000000 in
set_option maxRecDepth 100000 in
theorem write1 (Bt : Nat) (A : Option Addr) (c : Nat) (l : List S41) (W : World) (hbox : W.heap[Bt]? = some (.cells #[.slice A l.length c] 23 (0, 0))) (hr : Kd.C k41 W A l.length l) (hc : l.length ≤ c) (hw : wtL l ≤ 1000000000000) :
    Calls Tryd.prog 35 #[.pointer (some ⟨Bt, 0, none⟩)] W fun e W' => Below W.heap.size W W' ∧
      ((∃ t, writeOut l = .ok t ∧ e = .returned (.string ⟨t.toArray⟩)) ∨ (∃ k, writeOut l = .error k ∧ e = .panicked (thrown k))) := by
  have hc0 : W.cell? ⟨Bt, 0, none⟩ = some (.slice A l.length c) := cell_blk hbox 0 _ rfl
  have hBt := size_of hbox
  have HBOX := Aside0.mk hbox
  have HR := Aside0.mk hr
  have HC := Aside0.mk hc
  have HW := Aside0.mk hw
  have HL := Aside0.mk (C_len hr)
  have HRT := Aside0.mk (right_calls _ A c l W hr hc (Nat.le_refl _))
  clear hbox hr hc hw
  cases hok : okL l with
  | false =>
    go_enter Tryd.func35, Tryd.ntmps35
    go_wp2_with fail
    refine HRT.out.mono ?_
    rintro e w1 ⟨hb1, (⟨h, _⟩ | ⟨_, rfl⟩)⟩
    · rw [hok] at h; cases h
    · exact ⟨rfl, hb1, .inr ⟨4, by unfold writeOut; rw [hok]; rfl, rfl⟩⟩
  | true =>
    go_enter Tryd.func35, Tryd.ntmps35
    go_wp2_with fail
    refine HRT.out.mono ?_
    rintro e w1 ⟨hb1, (⟨_, rfl⟩ | ⟨h, _⟩)⟩
    case inr => rw [hok] at h; cases h
    have hc1 : w1.cell? ⟨Bt, 0, none⟩ = some (.slice A l.length c) := (hb1.cell hBt).trans hc0
    have HB1 := Aside0.mk hb1
    have HOK := Aside0.mk hok
    have HC0 := Aside0.mk hc0
    clear hb1 hok hc0
    go_wp2_with fail
    go_loopw [9] (fun v wr => ∃ i : Nat, v = .int .i64 i ∧ i ≤ l.length ∧ (∀ j, j < i → deT (rd_T41 l (j : Int)) ≤ 400) ∧ Below W.heap.size W wr) (fun v _ => l.length - idx v)
    case atStart => exact ⟨0, rfl, Nat.zero_le _, fun j hj => by omega, HB1.out⟩
    case round =>
      obtain ⟨i, rfl, hil, hde, hb⟩ := hrel
      have HI := Aside0.mk hil
      have HDE := Aside0.mk hde
      have HB := Aside0.mk hb
      clear hil hde hb
      by_cases hi : i < l.length
      · have hi0 : decide ((i : Int) < (l.length : Int)) = true := by simp; exact hi
        obtain ⟨ad, A1, c1, rfl, hx0, hx1, hl1, hk1⟩ := at_T41 HR.out (i : Int) (by omega) (by omega)
        obtain ⟨x, hx⟩ : ∃ x, rd_T41 l (i : Int) = x := ⟨_, rfl⟩
        rw [hx] at hx0 hx1 hl1 hk1
        replace hx0 := (HB.out.cell (World.block_lt_of_cell? W _ hx0)).trans hx0
        replace hx1 := (HB.out.cell (World.block_lt_of_cell? W _ hx1)).trans hx1
        have HX := Aside0.mk hx
        have HL1 := Aside0.mk hl1
        have HK1 := Aside0.mk hk1
        clear hx hl1 hk1
        obtain ⟨ii, hii⟩ : ∃ ii : Int, (i : Int) = ii := ⟨_, rfl⟩
        rw [hii] at hi0 hx0 hx1 ⊢
        have p1 : (0 ≤ ii) = True := eq_true (by omega)
        have p2 : (ii < (l.length : Int)) = True := eq_true (by omega)
        have HII := Aside0.mk hi
        have HIJ := Aside0.mk hii
        have hwx : wtT x ≤ 1000000000000 := by have h1 := wt_mem (rd_mem HII.out); rw [HX.out] at h1; have h2 := HW.out; omega
        have HWX := Aside0.mk hwx
        clear hi hii hwx
        obtain ⟨dd, hdd⟩ : ∃ dd : Int, ((deT x : Nat) : Int) = dd := ⟨_, rfl⟩
        have HDD := Aside0.mk hdd
        clear hdd
        cases hd4 : decide (dd ≤ 400) with
        | true =>
          have HD4 := Aside0.mk (of_decide_eq_true hd4)
          go_wp2_with (first | ((with_reducible refine gate_dst (N := 3) rfl ?_); refine box_event ?hg (N := 3) ?hd (cs := #[.string (⟨#[]⟩ : ByteArray), .slice none 0 0]) (t := 41) ?hr ?_; (case hd => rfl); (case hg => rfl); (case hr => first | (go_simp; done) | (go_simp; rfl)); intro gb hg w2 hbox hb; have HB2 := Aside0.mk hb; have HG := Aside0.mk hg; have BK := Aside0.mk hbox; have hcz0 : w2.cell? ⟨gb, 0, none⟩ = some (.string (⟨#[]⟩ : ByteArray)) := cell_blk hbox 0 _ rfl; have hcz1 : w2.cell? ⟨gb, 1, none⟩ = some (.slice none 0 0) := cell_blk hbox 1 _ rfl; have hfz0 := frozen_blk hbox 0; have hfz1 := frozen_blk hbox 1; clear hb hbox hg))
          refine (deep_calls (Kd.C_below HK1.out (HB.out.trans ((box_world HB2.out HG.out).mono HB.out.size))) HL1.out HWX.out).mono ?_
          rintro e w3 ⟨rfl, hb3⟩
          obtain ⟨_, hbw3⟩ := round_box HB.out HB2.out HG.out BK.out hb3
          have BW := Aside0.mk hbw3
          clear hb3 hbw3 hcz0 hcz1 hfz0 hfz1 hx0 hx1
          rw [HDD.out]
          go_wp2_with fail
          refine (must_ok _ _).mono ?_
          rintro e w4 ⟨rfl, rfl⟩
          go_wp2_with fail
          go_roundw
          case rel =>
            refine ⟨i + 1, by rw [← HIJ.out, wrap_i (by have := HII.out; have := HC.out; have := HL.out; omega)], HII.out, ?_, BW.out⟩
            intro j hj
            rcases Nat.lt_or_ge j i with h | h
            · exact HDE.out j h
            · obtain rfl : j = i := by omega
              rw [HX.out]
              have h1 := HDD.out
              have h2 := HD4.out
              omega
          case measure => rw [← HIJ.out, wrap_i (by have := HII.out; have := HC.out; have := HL.out; omega)]; have := HII.out; simp [idx]; try omega
        | false =>
          have HD4 := Aside0.mk (of_decide_eq_false hd4)
          go_wp2_with (first | ((with_reducible refine gate_dst (N := 3) rfl ?_); refine box_event ?hg (N := 3) ?hd (cs := #[.string (⟨#[]⟩ : ByteArray), .slice none 0 0]) (t := 41) ?hr ?_; (case hd => rfl); (case hg => rfl); (case hr => first | (go_simp; done) | (go_simp; rfl)); intro gb hg w2 hbox hb; have HB2 := Aside0.mk hb; have HG := Aside0.mk hg; have BK := Aside0.mk hbox; have hcz0 : w2.cell? ⟨gb, 0, none⟩ = some (.string (⟨#[]⟩ : ByteArray)) := cell_blk hbox 0 _ rfl; have hcz1 : w2.cell? ⟨gb, 1, none⟩ = some (.slice none 0 0) := cell_blk hbox 1 _ rfl; have hfz0 := frozen_blk hbox 0; have hfz1 := frozen_blk hbox 1; clear hb hbox hg))
          refine (deep_calls (Kd.C_below HK1.out (HB.out.trans ((box_world HB2.out HG.out).mono HB.out.size))) HL1.out HWX.out).mono ?_
          rintro e w3 ⟨rfl, hb3⟩
          obtain ⟨_, hbw3⟩ := round_box HB.out HB2.out HG.out BK.out hb3
          have BW := Aside0.mk hbw3
          clear hb3 hbw3 hcz0 hcz1 hfz0 hfz1 hx0 hx1
          rw [HDD.out]
          go_wp2_with fail
          refine (must_no _ _).mono ?_
          rintro e w4 ⟨rfl, rfl⟩
          refine ⟨rfl, BW.out, .inr ⟨3, ?_, rfl⟩⟩
          unfold writeOut
          rw [if_pos HOK.out, if_neg]
          intro hall
          have h0 := hall _ (rd_mem HII.out)
          rw [HX.out] at h0
          have h1 := HDD.out
          have h2 := HD4.out
          omega
      · have hi0 : decide ((i : Int) < (l.length : Int)) = false := by simp; omega
        obtain rfl : i = l.length := by have := HI.out; omega
        have hcr : wr.cell? ⟨Bt, 0, none⟩ = some (.slice A l.length c) := (HB.out.cell hBt).trans HC0.out
        have hcs : (wr.alloc (.cells #[.pointer none, .slice none 0 0] 77)).cell? ⟨Bt, 0, none⟩ = some (.slice A l.length c) := (World.cell?_alloc_past _ _ _ (Nat.lt_of_lt_of_le hBt HB.out.size)).trans hcr
        go_wp2_with fail
        have hrow := row_calls _ A c l wr.heap.size wr.heap.size [] wr (wr.alloc (.cells #[.pointer none, .slice none 0 0] 77)) (Kd.C_below HR.out HB.out) HC.out (Nat.le_refl _) (sm_wt _ l (Nat.le_refl _) HW.out) (wr_new wr) (by simp) (by simp) (Nat.le_refl _) (Nat.le_refl _) ((Below.refl _ _).alloc (Nat.le_refl _) _)
        have hbw : Below W.heap.size W (wr.alloc (.cells #[.pointer none, .slice none 0 0] 77)) := HB.out.trans (((Below.refl _ _).alloc (Nat.le_refl _) _).mono HB.out.size)
        have hall : ∀ x ∈ l, deT x ≤ 400 := by
          intro x hx
          obtain ⟨j, hj, rfl⟩ := List.getElem_of_mem hx
          have := HDE.out j hj
          simpa [rd_T41, List.getD, hj] using this
        have HALL := Aside0.mk hall
        have HBW := Aside0.mk hbw
        clear hall hbw
        refine hrow.mono ?_
        rintro e w4 (⟨hl, rfl, hwr, hk⟩ | ⟨hl, rfl, hk⟩)
        · rw [List.nil_append] at hl hwr
          have HB4 := Aside0.mk (HBW.out.trans (hk.below HBW.out.size HB.out.size HB.out.size))
          have HWO : Aside0 (writeOut l = .ok (outL l)) := ⟨by unfold writeOut; rw [if_pos HOK.out, if_pos HALL.out, if_pos hl]⟩
          have HWR := Aside0.mk hwr
          have HS := Aside0.mk HB.out.size
          clear hl hwr hk hrow hi hi0
          have ht : Calls Tryd.prog 38 #[.pointer (some ⟨wr.heap.size, 0, none⟩)] w4 fun e w' => e = .returned (.string ⟨(outL l).toArray⟩) ∧ Below wr.heap.size w4 w' := by
            by_cases hn : outL l = []
            · rw [hn]
              have h2 := HWR.out.2 hn
              exact builder_told_nil _ _ _ _ h2
            · exact builder_told _ _ _ _ HWR.out.1 hn
          have HTT := Aside0.mk ht
          clear ht
          go_wp2_with fail
          refine HTT.out.mono ?_
          rintro e w5 ⟨rfl, hb5⟩
          have HB5 := Aside0.mk (HB4.out.trans (hb5.mono HS.out))
          clear hb5
          go_wp2_with fail
          go_ret
          exact ⟨HB5.out, .inl ⟨_, HWO.out, rfl⟩⟩
        · rw [List.nil_append] at hl
          refine ⟨rfl, HBW.out.trans (hk.below HBW.out.size HB.out.size HB.out.size), .inr ⟨3, ?_, rfl⟩⟩
          unfold writeOut
          rw [if_pos HOK.out, if_pos HALL.out, if_neg (by omega)]
end Go.Proofs.YtmjnodjjnjckiaaDoor

/- package lines: tried at a string, Write. -/
namespace Go.Proofs.YtmjnodjjnjckiaaDoor
open Go.RowKit Go.Shelf Go.Proofs.YtmjnodjjnjckiaaDoorW.PrintWords PLines

theorem catchs_no (pe px : Addr) (W : World) :
    CallsD Tryd.prog 56 #[.pointer (some pe), .pointer (some px)] .returning W fun e u' w' => e = .returned (.tuple #[]) ∧ u' = .returning ∧ w' = W := by
  refine callsD_of_wpS Tryd.func56 rfl fun c₀ cs hu => ?_
  simp only [Tryd.ntmps56, List.size_toArray, List.length_cons, List.length_nil, Nat.reduceAdd, Nat.reduceSub, Array.replicate_succ, Array.replicate_zero, List.push_toArray, List.append_toArray, List.nil_append, List.cons_append]
  apply wpS_seq
  apply wpS_region
  simp [wpOpsS, go_sem, recoverD, hu, Exit.thenS]
  refine wpS_of_wp ?_
  go_wp2
  cases c₀
  simp_all [bodyPostS, results, Tryd.f56]
set_option maxRecDepth 100000 in
set_option maxHeartbeats 2000000 in
theorem catchs_yes (pe px : Addr) (k : Int) (v0 v1 : Value) (W : World) (h1 : W.cell? pe = some v0) (h2 : W.frozen? pe = false) (h3 : W.cell? px = some v1) (h4 : W.frozen? px = false) (hne : pe.block ≠ px.block) :
    CallsD Tryd.prog 56 #[.pointer (some pe), .pointer (some px)] (.panicking (thrown k)) W fun e u' w' =>
      e = .returned (.tuple #[]) ∧ u' = .panicking [{ v := .iface 24 (.int .i64 k), recovered := true }] ∧ w' = (W.setCell pe (.int .i64 k)).setCell px (.string ⟨#[]⟩) := by
  have hta := hta k
  have h3' : (W.setCell pe (.int .i64 k)).cell? px = some v1 := (World.cell?_of_block (Below.heap_setCell _ _ _ px.block (fun e => hne e.symm))).trans h3
  have h4' : (W.setCell pe (.int .i64 k)).frozen? px = false := (World.frozen?_of_block (Below.heap_setCell _ _ _ px.block (fun e => hne e.symm))).trans h4
  refine callsD_of_wpS Tryd.func56 rfl fun c₀ cs hu => ?_
  unfold thrown at hu
  simp only [Tryd.ntmps56, List.size_toArray, List.length_cons, List.length_nil, Nat.reduceAdd, Nat.reduceSub, Array.replicate_succ, Array.replicate_zero, List.push_toArray, List.append_toArray, List.nil_append, List.cons_append]
  apply wpS_seq
  apply wpS_region
  simp [wpOpsS, go_sem, recoverD, hu, Exit.thenS]
  refine wpS_of_wp ?_
  go_wp2
  cases c₀
  simp_all [bodyPostS, results, Tryd.f56]


/-- The text that Write tells; the error's number. -/
def writeT (l : List S41) : List UInt8 := match writeOut l with | .ok t => t | .error _ => []
def writeE (l : List S41) : Int := match writeOut l with | .ok _ => 0 | .error k => k

set_option maxRecDepth 100000 in
set_option maxHeartbeats 2000000 in
theorem tried_write (Bt : Nat) (A : Option Addr) (c : Nat) (l : List S41) (W : World) (hbox : W.heap[Bt]? = some (.cells #[.slice A l.length c] 23 (0, 0))) (hr : Kd.C k41 W A l.length l) (hc : l.length ≤ c) (hw : wtL l ≤ 1000000000000) :
    Calls Tryd.prog 34 #[.func (.func 35) #[] #[.pointer (some ⟨Bt, 0, none⟩)]] W fun e W' => Below W.heap.size W W' ∧ e = .returned (.tuple #[.string ⟨(writeT l).toArray⟩, .int .i64 (writeE l)]) := by
  have hmf : ∀ (fn : Fn) (first cap : Array Value) (w : World), (Instr.makeFunc fn first cap).run Tryd.prog w = .ok (.func fn first cap) w := fun _ _ _ _ => rfl
  have hlt := (Array.getElem?_eq_some_iff.1 hbox).1
  have hbox2 : ((W.alloc (.cells #[.string ⟨#[]⟩] 9)).alloc (.cells #[.int .i64 0] 24)).heap[Bt]? = some (.cells #[.slice A l.length c] 23 (0, 0)) := (Below.heap_alloc _ _ _ (by simp; omega)).trans ((Below.heap_alloc _ _ _ hlt).trans hbox)
  have hr2 : Kd.C k41 ((W.alloc (.cells #[.string ⟨#[]⟩] 9)).alloc (.cells #[.int .i64 0] 24)) A l.length l := Kd.C_below hr (((Below.refl _ W).alloc (Nat.le_refl _) _).alloc (by simp) _)
  have HR0 := Aside0.mk (write1 Bt A c l _ hbox2 hr2 hc hw)
  clear hbox hbox2 hr hr2 hc hw
  cases hx : writeOut l with
  | ok x =>
    have hR : Calls Tryd.prog 35 #[.pointer (some ⟨Bt, 0, none⟩)] ((W.alloc (.cells #[.string ⟨#[]⟩] 9)).alloc (.cells #[.int .i64 0] 24)) fun e W' => e = .returned (.string ⟨x.toArray⟩) ∧
        Below ((W.alloc (.cells #[.string ⟨#[]⟩] 9)).alloc (.cells #[.int .i64 0] 24)).heap.size ((W.alloc (.cells #[.string ⟨#[]⟩] 9)).alloc (.cells #[.int .i64 0] 24)) W' := by
      refine HR0.out.mono ?_
      rintro e W3 ⟨hb3, (⟨y, hy, rfl⟩ | ⟨k, hk, rfl⟩)⟩
      · rw [hx] at hy; injection hy with hy; subst hy; exact ⟨rfl, hb3⟩
      · rw [hx] at hk; cases hk
    have HR := Aside0.mk hR
    have hE : writeE l = 0 := by unfold writeE; rw [hx]
    have hF : writeT l = x := by unfold writeT; rw [hx]
    rw [hE, hF]
    clear hR HR0 hE hF
    go_enter_defers Tryd.func34, Tryd.ntmps34
    go_wp2_with (go_at_call 35; refine HR.out.mono ?_; rintro e W3 ⟨rfl, hb3⟩; obtain ⟨hc1, hf1, hc2, hf2, hbb⟩ := boxes hb3; have HBB := Aside0.mk hbb; clear hb3 hbb)
    refine leaves_cons (f := 56) (args := #[.pointer (some ⟨W.heap.size + 1, 0, none⟩), .pointer (some ⟨W.heap.size, 0, none⟩)]) (by simp) (by simp [go_sem]) ?_
    refine (catchs_no _ _ _).mono ?_
    rintro e u' w'' ⟨rfl, rfl, rfl⟩
    obtain ⟨e0, e1⟩ := cells2 (v1 := .string ⟨x.toArray⟩) (v2 := .int .i64 0) hc1 hc2 (by omega)
    refine ⟨.tuple #[.string ⟨x.toArray⟩, .int .i64 0], ?_, ?_, rfl⟩
    · simp [results, Tryd.f34, go_sem, e0, e1]
    · exact (HBB.out.setCell (Nat.le_refl _) _).setCell (by simp) _
  | error k =>
    have hR : Calls Tryd.prog 35 #[.pointer (some ⟨Bt, 0, none⟩)] ((W.alloc (.cells #[.string ⟨#[]⟩] 9)).alloc (.cells #[.int .i64 0] 24)) fun e W' => e = .panicked (thrown k) ∧
        Below ((W.alloc (.cells #[.string ⟨#[]⟩] 9)).alloc (.cells #[.int .i64 0] 24)).heap.size ((W.alloc (.cells #[.string ⟨#[]⟩] 9)).alloc (.cells #[.int .i64 0] 24)) W' := by
      refine HR0.out.mono ?_
      rintro e W3 ⟨hb3, (⟨y, hy, rfl⟩ | ⟨j, hj, rfl⟩)⟩
      · rw [hx] at hy; cases hy
      · rw [hx] at hj; injection hj with hj; subst hj; exact ⟨rfl, hb3⟩
    have HR := Aside0.mk hR
    have hE : writeE l = k := by unfold writeE; rw [hx]
    have hF : writeT l = [] := by unfold writeT; rw [hx]
    rw [hE, hF]
    clear hR HR0 hE hF
    go_enter_defers Tryd.func34, Tryd.ntmps34
    go_wp2_with (go_at_call 35; refine HR.out.mono ?_; rintro e W3 ⟨rfl, hb3⟩; obtain ⟨hc1, hf1, hc2, hf2, hbb⟩ := boxes hb3; have HBB := Aside0.mk hbb; clear hb3 hbb)
    refine leaves_cons (f := 56) (args := #[.pointer (some ⟨W.heap.size + 1, 0, none⟩), .pointer (some ⟨W.heap.size, 0, none⟩)]) (by simp) (by simp [go_sem]) ?_
    refine (catchs_yes _ _ k _ _ _ hc2 hf2 hc1 hf1 (by simp)).mono ?_
    rintro e u' w'' ⟨rfl, rfl, rfl⟩
    obtain ⟨e1, e0⟩ := cells2 (v1 := .int .i64 k) (v2 := .string ⟨#[]⟩) hc2 hc1 (by omega)
    refine ⟨.tuple #[.string ⟨#[]⟩, .int .i64 k], ?_, ?_, rfl⟩
    · simp [results, Tryd.f34, go_sem, e0, e1]
    · exact (HBB.out.setCell (by simp) _).setCell (Nat.le_refl _) _

theorem write_calls (A : Option Addr) (c : Nat) (l : List S41) (W : World) (hr : Kd.C k41 W A l.length l) (hc : l.length ≤ c) (hw : wtL l ≤ 1000000000000) :
    Calls Tryd.prog 16 #[.slice A l.length c] W fun e W' => e = .returned (.tuple #[.string ⟨(writeT l).toArray⟩, .int .i64 (writeE l)]) ∧ Below W.heap.size W W' := by
  have hmf : ∀ (fn : Fn) (first cap : Array Value) (w : World), (Instr.makeFunc fn first cap).run Tryd.prog w = .ok (.func fn first cap) w := fun _ _ _ _ => rfl
  have hbox : (W.alloc (.cells #[.slice A l.length c] 23)).heap[W.heap.size]? = some (.cells #[.slice A l.length c] 23 (0, 0)) := World.alloc_heap_new W _
  have hb1 : Below W.heap.size W (W.alloc (.cells #[.slice A l.length c] 23)) := (Below.refl _ _).alloc (Nat.le_refl _) _
  have HR := Aside0.mk (tried_write W.heap.size A c l _ hbox (Kd.C_below hr hb1) hc hw)
  have HB := Aside0.mk hb1
  clear hbox hr hc hw hb1
  go_enter Tryd.func16, Tryd.ntmps16
  go_wp2_with (go_at_call 34; refine HR.out.mono ?_; rintro e W3 ⟨hb3, rfl⟩; have HBB := Aside0.mk hb3; clear hb3)
  refine bodyPost_ret (results_tmp2 rfl _ _ _) rfl ?_
  exact ⟨rfl, HB.out.trans (HBB.out.mono (by simp))⟩
end Go.Proofs.YtmjnodjjnjckiaaDoor

/- package spandrellaw30: awake. -/
namespace Go.Proofs.YtmjnodjjnjckiaaDoor
open Go.RowKit Go.Shelf Go.Proofs.YtmjnodjjnjckiaaDoorW.PrintWords PLines

def awakeText : ByteArray := ⟨#[40, 97, 32, 98, 41, 59, 32, 99, 10, 40, 41]⟩
def awakeTree : List S41 := [⟨⟨#[]⟩, [⟨⟨#[97]⟩, []⟩, ⟨⟨#[98]⟩, []⟩]⟩, ⟨⟨#[]⟩, []⟩]
theorem awake_toks : toks awakeText.data.toList = [[40], [97], [98], [41], [40], [41]] := by
  simp [awakeText, toks_cons, toks_nil, isBlank, isSign, isEnd, endR]
theorem awake_read : readOut awakeText = .ok awakeTree := by
  unfold readOut
  rw [awake_toks]
  rfl

theorem awake_write : writeOut awakeTree = .ok [40, 97, 32, 98, 41, 32, 40, 41] := by
  unfold writeOut
  rw [if_pos (by decide), if_pos (by decide), if_pos (by decide)]
  rfl
theorem awake_mem {w : World} {base : Nat} {ok : Nat → Prop} {v : Value} (h : k41.R 41 w base ok v awakeTree) :
    ∃ g c A1 c1 A2 c2 ad1, v = .slice (some ⟨g, 0, none⟩) 2 c ∧ w.cell? ⟨g, 0, none⟩ = some (.string ⟨#[]⟩) ∧ w.cell? ⟨g, 1, none⟩ = some (.slice A1 2 c1) ∧ w.cell? ⟨g, 2, none⟩ = some (.string ⟨#[]⟩) ∧ w.cell? ⟨g, 3, none⟩ = some (.slice A2 0 c2) ∧
      A1 = some ad1 ∧ w.cell? ⟨ad1.block, ad1.off + 2, none⟩ = some (.string ⟨#[98]⟩) ∧ 2 ≤ c ∧ 2 ≤ c1 ∧ Kd.C k41 w (some ⟨g, 0, none⟩) 2 awakeTree ∧ Kd.C k41 w A1 2 [⟨⟨#[97]⟩, []⟩, ⟨⟨#[98]⟩, []⟩] := by
  obtain ⟨g, cap, hv, _⟩ := Kd.R_form h (by decide)
  obtain ⟨A, c, hv', hc, hC⟩ := Kd.R_reads h
  rw [hv] at hv'
  injection hv' with hA _ hcap
  subst hA hcap
  obtain ⟨ad, A1, c1, e1, a1, a2, a3, a4⟩ := at_T41 hC 0 (by decide) (by decide)
  obtain ⟨ad', A2, c2, e2, b1, b2, b3, b4⟩ := at_T41 hC 1 (by decide) (by decide)
  injection e1 with e1; subst e1
  injection e2 with e2; subst e2
  obtain ⟨ad1, A3, c3, e3, d1, _⟩ := at_T41 a4 1 (by decide) (by decide)
  exact ⟨g, cap, A1, c1, A2, c2, ad1, hv, a1, a2, b1, b2, e3, d1, hc, a3, hC, a4⟩

set_option maxHeartbeats 4000000 in
set_option maxRecDepth 100000 in
theorem awake_calls (m : Int) (W : World) (h0 : 0 < W.heap.size) (hm : W.cell? ⟨0, 0, none⟩ = some (.int .i64 m)) :
    Calls Tryd.prog 8 #[] W fun e W' => e = .returned (.bool true) ∧ Below W.heap.size W W' := by
  have hrd := read_calls awakeText m W h0 hm
  rw [show readE awakeText = 0 by unfold readE; rw [awake_read], show readF awakeText = awakeTree by unfold readF; rw [awake_read]] at hrd
  go_enter Tryd.func8, Tryd.ntmps8
  go_wp2_with fail
  refine hrd.mono ?_
  rintro e w1 ⟨v, rfl, hR, hb1⟩
  obtain ⟨g, c, A1, c1, A2, c2, ad1, rfl, q0, q1, q2, q3, rfl, q4, q5, q6, q7, q8⟩ := awake_mem hR
  have hwr := write_calls _ c awakeTree w1 q7 q5 (by decide)
  rw [show writeE awakeTree = 0 by unfold writeE; rw [awake_write], show writeT awakeTree = [40, 97, 32, 98, 41, 32, 40, 41] by unfold writeT; rw [awake_write]] at hwr
  have HB1 := Aside0.mk hb1
  clear hR hrd hb1
  go_wp2_with fail
  refine hwr.mono ?_
  rintro e w2 ⟨rfl, hb2⟩
  have r0 := (hb2.cell (World.block_lt_of_cell? w1 _ q0)).trans q0
  have r1 := (hb2.cell (World.block_lt_of_cell? w1 _ q1)).trans q1
  have r2 := (hb2.cell (World.block_lt_of_cell? w1 _ q2)).trans q2
  have r3 := (hb2.cell (World.block_lt_of_cell? w1 _ q3)).trans q3
  have r4 := (hb2.cell (World.block_lt_of_cell? w1 _ q4)).trans q4
  have HD := Aside0.mk (deep_calls (x := ⟨⟨#[]⟩, [⟨⟨#[97]⟩, []⟩, ⟨⟨#[98]⟩, []⟩]⟩) (Kd.C_below q8 hb2) q6 (by decide))
  have HB2 := Aside0.mk (HB1.out.trans (hb2.mono HB1.out.size))
  clear hb2 q0 q1 q2 q3 q4 q7 q8 hwr
  go_wp2_with fail
  have hd2 : deT ⟨⟨#[]⟩, [⟨⟨#[97]⟩, []⟩, ⟨⟨#[98]⟩, []⟩]⟩ = 2 := by decide
  rw [hd2] at HD
  refine HD.out.mono ?_
  rintro e w3 ⟨rfl, hb3⟩
  have HB3 := Aside0.mk (HB2.out.trans (hb3.mono HB2.out.size))
  clear hb3
  go_wp2_with fail
  go_ret
  exact ⟨rfl, HB3.out⟩
end Go.Proofs.YtmjnodjjnjckiaaDoor

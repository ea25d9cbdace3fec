/- package lines: Write's closure. -/
import Derived.Test.YtmjnodjjnjckiaaDoorN
import Derived.Test.YtmjnodjjnjckiaaDoorPLinesx1
namespace Go.Proofs.YtmjnodjjnjckiaaDoor
open Go.RowKit Go.Shelf Go.Proofs.YtmjnodjjnjckiaaDoorW.PrintWords PLines Go.Proofs.YtmjnodjjnjckiaaDoorW.PrintLast Go.Proofs.YtmjnodjjnjckiaaDoorW.PrintMore

/-- From some fuel on, a result. -/
def Ev {α : Type} (F : Nat → Option α) (r : α) : Prop := ∃ k, ∀ k', k ≤ k' → F k' = some r
mutual
/-- How deep. -/
def deT : S41 → Nat
  | ⟨_, ks⟩ => deL ks + 1
def deL : List S41 → Nat
  | [] => 0
  | x :: xs => max (deT x) (deL xs)
end
mutual
/-- How much. -/
def wtT : S41 → Nat
  | ⟨w, ks⟩ => 1 + w.size + wtL ks
def wtL : List S41 → Nat
  | [] => 0
  | x :: xs => wtT x + wtL xs
end
theorem deT_eq (x : S41) : deT x = deL x.f1 + 1 := by cases x; rfl
theorem wtT_eq (x : S41) : wtT x = 1 + x.f0.size + wtL x.f1 := by cases x; rfl
theorem wt_len : ∀ l : List S41, l.length ≤ wtL l
  | [] => by simp [wtL]
  | x :: xs => by have := wt_len xs; simp only [List.length_cons, wtL, wtT_eq]; omega
theorem wt_mem : ∀ {l : List S41} {x : S41}, x ∈ l → wtT x ≤ wtL l
  | y :: ys, x, h => by
    rcases List.mem_cons.1 h with rfl | h
    · simp [wtL]
    · have := wt_mem h; simp [wtL]; omega
theorem wt_drop : ∀ (l : List S41) (i : Nat), wtL (l.drop i) ≤ wtL l
  | [], i => by simp
  | x :: xs, 0 => by simp
  | x :: xs, i + 1 => by have := wt_drop xs i; simp only [List.drop_succ_cons, wtL]; omega
theorem de_wt (n : Nat) : ∀ l : List S41, SizeOf.sizeOf l ≤ n → deL l ≤ wtL l := by
  induction n with
  | zero => intro l h; cases l <;> simp at h
  | succ n ih =>
    intro l
    induction l with
    | nil => intro _; simp [deL]
    | cons x xs ihl =>
      intro h
      have h1 := size41 (List.mem_cons_self (a := x) (l := xs))
      have h2 := ih x.f1 (by omega)
      have h3 := ihl (by simp at h; omega)
      simp only [deL, wtL, deT_eq, wtT_eq]
      omega
theorem sm_wt (n : Nat) : ∀ l : List S41, SizeOf.sizeOf l ≤ n → wtL l ≤ 1000000000000 → smL l := by
  induction n with
  | zero => intro l h; cases l <;> simp at h
  | succ n ih =>
    intro l
    induction l with
    | nil => intro _ _; trivial
    | cons x xs ihl =>
      intro h hw
      have h1 := size41 (List.mem_cons_self (a := x) (l := xs))
      simp only [wtL, wtT_eq] at hw
      refine ⟨?_, ihl (by simp at h; omega) (by omega)⟩
      rw [smT_eq]
      exact ⟨by omega, ih x.f1 (by omega) (by omega)⟩
theorem de_mem : ∀ {l : List S41} {x : S41}, x ∈ l → deT x ≤ deL l
  | y :: ys, x, h => by
    rcases List.mem_cons.1 h with rfl | h
    · simp only [deL]; omega
    · have := de_mem h; simp only [deL]; omega
theorem drop_rd {l : List S41} {i : Nat} (h : i < l.length) : l.drop i = rd_T41 l (i : Int) :: l.drop (i + 1) := by
  rw [List.drop_eq_getElem_cons h]
  congr 1
  simp [rd_T41, List.getD, h]

theorem deep_loop {l : List S41} (hw : wtL l ≤ 1000000000000) (hf : ∀ x ∈ l, Ev (fun k => lines_Deep.f k x.f0 x.f1) ((deT x : Nat) : Int)) : ∀ (j i acc : Nat), i + j = l.length → acc ≤ 1000000000000 →
    Ev (fun k => lines_Deep.l0 k (acc : Int) l (l.length : Int) (i : Int)) ((max acc (deL (l.drop i)) + 1 : Nat) : Int)
  | 0, i, acc, h, ha => by
    refine ⟨1, fun k hk => ?_⟩
    obtain ⟨k, rfl⟩ : ∃ k', k = k' + 1 := ⟨k - 1, by omega⟩
    simp only [lines_Deep.l0]
    rw [if_neg (by omega), wrap_i (by omega), List.drop_of_length_le (by omega)]
    simp [deL]
  | j + 1, i, acc, h, ha => by
    have hi : i < l.length := by omega
    have hlen := wt_len l
    have hm := rd_mem hi
    have hd : deT (rd_T41 l (i : Int)) ≤ 1000000000000 := by
      have h1 := wt_mem hm
      rw [deT_eq]
      rw [wtT_eq] at h1
      have h2 := de_wt _ (rd_T41 l (i : Int)).f1 (Nat.le_refl _)
      omega
    obtain ⟨k1, h1⟩ := hf _ hm
    dsimp only at h1
    obtain ⟨k2, h2⟩ := deep_loop hw hf j (i + 1) (max acc (deT (rd_T41 l (i : Int)))) (by omega) (by omega)
    dsimp only at h2
    refine ⟨max k1 k2 + 1, fun k hk => ?_⟩
    obtain ⟨k, rfl⟩ : ∃ k', k = k' + 1 := ⟨k - 1, by omega⟩
    simp only [lines_Deep.l0]
    rw [if_pos (by omega), if_pos (by omega), if_pos (by omega), h1 k (by omega), Option.bind_some, wrap_i (by omega)]
    have hmx : mx (acc : Int) ((deT (rd_T41 l (i : Int)) : Nat) : Int) = ((max acc (deT (rd_T41 l (i : Int))) : Nat) : Int) := by unfold mx; split <;> omega
    rw [hmx, h2 k (by omega), drop_rd hi]
    simp only [deL]
    congr 2
    omega
theorem deep_f (n : Nat) : ∀ l : List S41, SizeOf.sizeOf l ≤ n → wtL l ≤ 1000000000000 → ∀ a, Ev (fun k => lines_Deep.f k a l) ((deL l + 1 : Nat) : Int) := by
  induction n with
  | zero => intro l h; cases l <;> simp at h
  | succ n ih =>
    intro l h hw a
    have hf : ∀ x ∈ l, Ev (fun k => lines_Deep.f k x.f0 x.f1) ((deT x : Nat) : Int) := fun x hx => by
      rw [deT_eq]
      have h1 := wt_mem hx
      rw [wtT_eq] at h1
      exact ih x.f1 (by have := size41 hx; omega) (by omega) _
    obtain ⟨k, hk⟩ := deep_loop hw hf l.length 0 0 (by omega) (by omega)
    refine ⟨k + 1, fun k' hk' => ?_⟩
    obtain ⟨k', rfl⟩ : ∃ k'', k' = k'' + 1 := ⟨k' - 1, by omega⟩
    have := hk k' (by omega)
    simpa [lines_Deep.f] using this
/-- Deep, at a tree that lies in memory. -/
theorem deep_calls {x : S41} {A : Option Addr} {c : Nat} {w : World} (hr : Kd.C k41 w A x.f1.length x.f1) (hc : x.f1.length ≤ c) (hw : wtT x ≤ 1000000000000) :
    Calls Tryd.prog 18 #[.agg #[.string x.f0, .slice A x.f1.length c]] w fun e w' => e = .returned (.int .i64 ((deT x : Nat) : Int)) ∧ Below w.heap.size w w' := by
  rw [wtT_eq] at hw
  obtain ⟨k, hk⟩ := deep_f _ x.f1 (Nat.le_refl _) (by omega) x.f0
  rw [deT_eq]
  exact lines_Deep.calls k x.f0 A c x.f1 _ w hr hc (hk k (Nat.le_refl _))

/-- The text that Write tells, or the error's number. -/
def writeOut (l : List S41) : Except Int (List UInt8) :=
  if okL l = true then (if ∀ x ∈ l, deT x ≤ 400 then (if (outL l).length ≤ 262144 then .ok (outL l) else .error 3) else .error 3) else .error 4

theorem wr_new (w : World) : WrAt w.heap.size w.heap.size [] (w.alloc (.cells #[.pointer none, .slice none 0 0] 77)) := by
  have hb : (w.alloc (.cells #[.pointer none, .slice none 0 0] 77)).heap[w.heap.size]? = some (.cells #[.pointer none, .slice none 0 0] 77 (0, 0)) := World.alloc_heap_new w _
  exact ⟨.inl ⟨Nat.le_refl _, .slice none 0 0, hb, own_nil _ _ _ _, by simp [Value.ownBlock]⟩, fun _ => hb⟩

set_option maxHeartbeats 4000000 in
set_option maxRecDepth 100000 in
theorem write1 (Bt : Nat) (A : Option Addr) (c : Nat) (l : List S41) (W : World) (hbox : W.heap[Bt]? = some (.cells #[.slice A l.length c] 23 (0, 0))) (hr : Kd.C k41 W A l.length l) (hc : l.length ≤ c) (hw : wtL l ≤ 1000000000000) :
    Calls Tryd.prog 35 #[.pointer (some ⟨Bt, 0, none⟩)] W fun e W' => Below W.heap.size W W' ∧
      ((∃ t, writeOut l = .ok t ∧ e = .returned (.string ⟨t.toArray⟩)) ∨ (∃ k, writeOut l = .error k ∧ e = .panicked (thrown k))) := by
  have hc0 : W.cell? ⟨Bt, 0, none⟩ = some (.slice A l.length c) := cell_blk hbox 0 _ rfl
  have hBt := size_of hbox
  have HBOX := Aside0.mk hbox
  have HR := Aside0.mk hr
  have HC := Aside0.mk hc
  have HW := Aside0.mk hw
  have HL := Aside0.mk (C_len hr)
  have HRT := Aside0.mk (right_calls _ A c l W hr hc (Nat.le_refl _))
  clear hbox hr hc hw
  cases hok : okL l with
  | false =>
    go_enter Tryd.func35, Tryd.ntmps35
    go_wp2_with fail
    refine HRT.out.mono ?_
    rintro e w1 ⟨hb1, (⟨h, _⟩ | ⟨_, rfl⟩)⟩
    · rw [hok] at h; cases h
    · exact ⟨rfl, hb1, .inr ⟨4, by unfold writeOut; rw [hok]; rfl, rfl⟩⟩
  | true =>
    go_enter Tryd.func35, Tryd.ntmps35
    go_wp2_with fail
    refine HRT.out.mono ?_
    rintro e w1 ⟨hb1, (⟨_, rfl⟩ | ⟨h, _⟩)⟩
    case inr => rw [hok] at h; cases h
    have hc1 : w1.cell? ⟨Bt, 0, none⟩ = some (.slice A l.length c) := (hb1.cell hBt).trans hc0
    have HB1 := Aside0.mk hb1
    have HOK := Aside0.mk hok
    have HC0 := Aside0.mk hc0
    clear hb1 hok hc0
    go_wp2_with fail
    go_loopw [9] (fun v wr => ∃ i : Nat, v = .int .i64 i ∧ i ≤ l.length ∧ (∀ j, j < i → deT (rd_T41 l (j : Int)) ≤ 400) ∧ Below W.heap.size W wr) (fun v _ => l.length - idx v)
    case atStart => exact ⟨0, rfl, Nat.zero_le _, fun j hj => by omega, HB1.out⟩
    case round =>
      obtain ⟨i, rfl, hil, hde, hb⟩ := hrel
      have HI := Aside0.mk hil
      have HDE := Aside0.mk hde
      have HB := Aside0.mk hb
      clear hil hde hb
      by_cases hi : i < l.length
      · have hi0 : decide ((i : Int) < (l.length : Int)) = true := by simp; exact hi
        obtain ⟨ad, A1, c1, rfl, hx0, hx1, hl1, hk1⟩ := at_T41 HR.out (i : Int) (by omega) (by omega)
        obtain ⟨x, hx⟩ : ∃ x, rd_T41 l (i : Int) = x := ⟨_, rfl⟩
        rw [hx] at hx0 hx1 hl1 hk1
        replace hx0 := (HB.out.cell (World.block_lt_of_cell? W _ hx0)).trans hx0
        replace hx1 := (HB.out.cell (World.block_lt_of_cell? W _ hx1)).trans hx1
        have HX := Aside0.mk hx
        have HL1 := Aside0.mk hl1
        have HK1 := Aside0.mk hk1
        clear hx hl1 hk1
        obtain ⟨ii, hii⟩ : ∃ ii : Int, (i : Int) = ii := ⟨_, rfl⟩
        rw [hii] at hi0 hx0 hx1 ⊢
        have p1 : (0 ≤ ii) = True := eq_true (by omega)
        have p2 : (ii < (l.length : Int)) = True := eq_true (by omega)
        have HII := Aside0.mk hi
        have HIJ := Aside0.mk hii
        have hwx : wtT x ≤ 1000000000000 := by have h1 := wt_mem (rd_mem HII.out); rw [HX.out] at h1; have h2 := HW.out; omega
        have HWX := Aside0.mk hwx
        clear hi hii hwx
        obtain ⟨dd, hdd⟩ : ∃ dd : Int, ((deT x : Nat) : Int) = dd := ⟨_, rfl⟩
        have HDD := Aside0.mk hdd
        clear hdd
        cases hd4 : decide (dd ≤ 400) with
        | true =>
          have HD4 := Aside0.mk (of_decide_eq_true hd4)
          go_wp2_with (first | ((with_reducible refine gate_dst (N := 3) rfl ?_); refine box_event ?hg (N := 3) ?hd (cs := #[.string (⟨#[]⟩ : ByteArray), .slice none 0 0]) (t := 41) ?hr ?_; (case hd => rfl); (case hg => rfl); (case hr => first | (go_simp; done) | (go_simp; rfl)); intro gb hg w2 hbox hb; have HB2 := Aside0.mk hb; have HG := Aside0.mk hg; have BK := Aside0.mk hbox; have hcz0 : w2.cell? ⟨gb, 0, none⟩ = some (.string (⟨#[]⟩ : ByteArray)) := cell_blk hbox 0 _ rfl; have hcz1 : w2.cell? ⟨gb, 1, none⟩ = some (.slice none 0 0) := cell_blk hbox 1 _ rfl; have hfz0 := frozen_blk hbox 0; have hfz1 := frozen_blk hbox 1; clear hb hbox hg))
          refine (deep_calls (Kd.C_below HK1.out (HB.out.trans ((box_world HB2.out HG.out).mono HB.out.size))) HL1.out HWX.out).mono ?_
          rintro e w3 ⟨rfl, hb3⟩
          obtain ⟨_, hbw3⟩ := round_box HB.out HB2.out HG.out BK.out hb3
          have BW := Aside0.mk hbw3
          clear hb3 hbw3 hcz0 hcz1 hfz0 hfz1 hx0 hx1
          rw [HDD.out]
          go_wp2_with fail
          refine (must_ok _ _).mono ?_
          rintro e w4 ⟨rfl, rfl⟩
          go_wp2_with fail
          go_roundw
          case rel =>
            refine ⟨i + 1, by rw [← HIJ.out, wrap_i (by have := HII.out; have := HC.out; have := HL.out; omega)], HII.out, ?_, BW.out⟩
            intro j hj
            rcases Nat.lt_or_ge j i with h | h
            · exact HDE.out j h
            · obtain rfl : j = i := by omega
              rw [HX.out]
              have h1 := HDD.out
              have h2 := HD4.out
              omega
          case measure => rw [← HIJ.out, wrap_i (by have := HII.out; have := HC.out; have := HL.out; omega)]; have := HII.out; simp [idx]; try omega
        | false =>
          have HD4 := Aside0.mk (of_decide_eq_false hd4)
          go_wp2_with (first | ((with_reducible refine gate_dst (N := 3) rfl ?_); refine box_event ?hg (N := 3) ?hd (cs := #[.string (⟨#[]⟩ : ByteArray), .slice none 0 0]) (t := 41) ?hr ?_; (case hd => rfl); (case hg => rfl); (case hr => first | (go_simp; done) | (go_simp; rfl)); intro gb hg w2 hbox hb; have HB2 := Aside0.mk hb; have HG := Aside0.mk hg; have BK := Aside0.mk hbox; have hcz0 : w2.cell? ⟨gb, 0, none⟩ = some (.string (⟨#[]⟩ : ByteArray)) := cell_blk hbox 0 _ rfl; have hcz1 : w2.cell? ⟨gb, 1, none⟩ = some (.slice none 0 0) := cell_blk hbox 1 _ rfl; have hfz0 := frozen_blk hbox 0; have hfz1 := frozen_blk hbox 1; clear hb hbox hg))
          refine (deep_calls (Kd.C_below HK1.out (HB.out.trans ((box_world HB2.out HG.out).mono HB.out.size))) HL1.out HWX.out).mono ?_
          rintro e w3 ⟨rfl, hb3⟩
          obtain ⟨_, hbw3⟩ := round_box HB.out HB2.out HG.out BK.out hb3
          have BW := Aside0.mk hbw3
          clear hb3 hbw3 hcz0 hcz1 hfz0 hfz1 hx0 hx1
          rw [HDD.out]
          go_wp2_with fail
          refine (must_no _ _).mono ?_
          rintro e w4 ⟨rfl, rfl⟩
          refine ⟨rfl, BW.out, .inr ⟨3, ?_, rfl⟩⟩
          unfold writeOut
          rw [if_pos HOK.out, if_neg]
          intro hall
          have h0 := hall _ (rd_mem HII.out)
          rw [HX.out] at h0
          have h1 := HDD.out
          have h2 := HD4.out
          omega
      · have hi0 : decide ((i : Int) < (l.length : Int)) = false := by simp; omega
        obtain rfl : i = l.length := by have := HI.out; omega
        have hcr : wr.cell? ⟨Bt, 0, none⟩ = some (.slice A l.length c) := (HB.out.cell hBt).trans HC0.out
        have hcs : (wr.alloc (.cells #[.pointer none, .slice none 0 0] 77)).cell? ⟨Bt, 0, none⟩ = some (.slice A l.length c) := (World.cell?_alloc_past _ _ _ (Nat.lt_of_lt_of_le hBt HB.out.size)).trans hcr
        go_wp2_with fail
        have hrow := row_calls _ A c l wr.heap.size wr.heap.size [] wr (wr.alloc (.cells #[.pointer none, .slice none 0 0] 77)) (Kd.C_below HR.out HB.out) HC.out (Nat.le_refl _) (sm_wt _ l (Nat.le_refl _) HW.out) (wr_new wr) (by simp) (by simp) (Nat.le_refl _) (Nat.le_refl _) ((Below.refl _ _).alloc (Nat.le_refl _) _)
        have hbw : Below W.heap.size W (wr.alloc (.cells #[.pointer none, .slice none 0 0] 77)) := HB.out.trans (((Below.refl _ _).alloc (Nat.le_refl _) _).mono HB.out.size)
        have hall : ∀ x ∈ l, deT x ≤ 400 := by
          intro x hx
          obtain ⟨j, hj, rfl⟩ := List.getElem_of_mem hx
          have := HDE.out j hj
          simpa [rd_T41, List.getD, hj] using this
        have HALL := Aside0.mk hall
        have HBW := Aside0.mk hbw
        clear hall hbw
        refine hrow.mono ?_
        rintro e w4 (⟨hl, rfl, hwr, hk⟩ | ⟨hl, rfl, hk⟩)
        · rw [List.nil_append] at hl hwr
          have HB4 := Aside0.mk (HBW.out.trans (hk.below HBW.out.size HB.out.size HB.out.size))
          have HWO : Aside0 (writeOut l = .ok (outL l)) := ⟨by unfold writeOut; rw [if_pos HOK.out, if_pos HALL.out, if_pos hl]⟩
          have HWR := Aside0.mk hwr
          have HS := Aside0.mk HB.out.size
          clear hl hwr hk hrow hi hi0
          have ht : Calls Tryd.prog 38 #[.pointer (some ⟨wr.heap.size, 0, none⟩)] w4 fun e w' => e = .returned (.string ⟨(outL l).toArray⟩) ∧ Below wr.heap.size w4 w' := by
            by_cases hn : outL l = []
            · rw [hn]
              have h2 := HWR.out.2 hn
              exact builder_told_nil _ _ _ _ h2
            · exact builder_told _ _ _ _ HWR.out.1 hn
          have HTT := Aside0.mk ht
          clear ht
          go_wp2_with fail
          refine HTT.out.mono ?_
          rintro e w5 ⟨rfl, hb5⟩
          have HB5 := Aside0.mk (HB4.out.trans (hb5.mono HS.out))
          clear hb5
          go_wp2_with fail
          go_ret
          exact ⟨HB5.out, .inl ⟨_, HWO.out, rfl⟩⟩
        · rw [List.nil_append] at hl
          refine ⟨rfl, HBW.out.trans (hk.below HBW.out.size HB.out.size HB.out.size), .inr ⟨3, ?_, rfl⟩⟩
          unfold writeOut
          rw [if_pos HOK.out, if_pos HALL.out, if_neg (by omega)]
end Go.Proofs.YtmjnodjjnjckiaaDoor

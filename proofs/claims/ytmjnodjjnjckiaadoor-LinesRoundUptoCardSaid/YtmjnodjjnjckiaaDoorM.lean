/- package lines: right. -/
import Derived.Test.YtmjnodjjnjckiaaDoorK
import Derived.Test.YtmjnodjjnjckiaaDoorL
namespace Go.Proofs.YtmjnodjjnjckiaaDoor
open Go.RowKit Go.Shelf Go.Proofs.YtmjnodjjnjckiaaDoorW.PrintWords PLines

mutual
/-- Is a tree such as may be written? -/
def okT : S41 → Bool
  | ⟨w, ks⟩ => (!w.data.toList.any isEnd && (w.size == 0 || ks.isEmpty)) && okL ks
def okL : List S41 → Bool
  | [] => true
  | x :: xs => okT x && okL xs
end
theorem okL_take {l : List S41} : ∀ {i : Nat}, okL l = true → okL (l.take i) = true := by
  induction l with
  | nil => intro i _; simp [okL]
  | cons x xs ih =>
    intro i h
    cases i with
    | zero => rfl
    | succ i =>
      simp only [okL, Bool.and_eq_true] at h
      simp only [List.take_succ_cons, okL, Bool.and_eq_true]
      exact ⟨h.1, ih h.2⟩
theorem okL_mem {l : List S41} (h : okL l = true) : ∀ x ∈ l, okT x = true := by
  induction l with
  | nil => intro x hx; cases hx
  | cons y ys ih =>
    simp only [okL, Bool.and_eq_true] at h
    intro x hx
    rcases List.mem_cons.1 hx with rfl | hx
    · exact h.1
    · exact ih h.2 x hx
theorem okL_iff {l : List S41} : okL l = true ↔ ∀ x ∈ l, okT x = true := by
  refine ⟨okL_mem, fun h => ?_⟩
  induction l with
  | nil => rfl
  | cons y ys ih =>
    simp only [okL, Bool.and_eq_true]
    exact ⟨h y (by simp), ih (fun x hx => h x (by simp [hx]))⟩
theorem rd_mem {l : List S41} {i : Nat} (h : i < l.length) : rd_T41 l (i : Int) ∈ l := by
  unfold rd_T41
  simp [List.getD, h]
theorem size41 {l : List S41} {x : S41} (h : x ∈ l) : SizeOf.sizeOf x.f1 + 1 < SizeOf.sizeOf l := by
  have h1 := List.sizeOf_lt_of_mem h
  cases x
  simp only [S41.mk.sizeOf_spec] at h1 ⊢
  omega
theorem okT_eq (x : S41) : okT x = ((!x.f0.data.toList.any isEnd && (x.f0.size == 0 || x.f1.isEmpty)) && okL x.f1) := by
  cases x; rfl
/-- The number in a value. -/
def idx : Value → Nat
  | .int _ i => i.toNat
  | _ => 0
theorem okL_far {l : List S41} {i : Nat} (h : i < l.length) (hx : okT (rd_T41 l (i : Int)) = false) : okL l = false := by
  cases ho : okL l with
  | false => rfl
  | true => rw [okL_mem ho _ (rd_mem h)] at hx; cases hx
theorem okL_next {l : List S41} {i : Nat} (h : i < l.length) (h0 : ∀ j, j < i → okT (rd_T41 l (j : Int)) = true) (hx : okT (rd_T41 l (i : Int)) = true) : ∀ j, j < i + 1 → okT (rd_T41 l (j : Int)) = true := by
  intro j hj
  rcases Nat.lt_or_ge j i with hj' | hj'
  · exact h0 j hj'
  · obtain rfl : j = i := by omega
    exact hx
theorem okL_all {l : List S41} (h0 : ∀ j, j < l.length → okT (rd_T41 l (j : Int)) = true) : okL l = true := by
  rw [okL_iff]
  intro x hx
  obtain ⟨j, hj, rfl⟩ := List.getElem_of_mem hx
  have := h0 j hj
  unfold rd_T41 at this
  simpa [List.getD, hj] using this

theorem ahead_any : ∀ l : List UInt8, decide (ahead l < l.length) = l.any isEnd
  | [] => by simp [ahead]
  | c :: r => by
    have ih := ahead_any r
    cases hc : isEnd c with
    | true => rw [ahead_end hc]; simp [hc]
    | false => rw [ahead_cons hc, List.any_cons, hc, ← ih]; simp
theorem contains_any (s : ByteArray) (w : World) :
    Calls Tryd.prog 57 #[.string s, .func (.func 51) #[] #[]] w fun e w' => e = .returned (.bool (s.data.toList.any isEnd)) ∧ Below w.heap.size w w' := by
  refine (contains_ends s w).mono ?_
  rintro e w' ⟨rfl, hb⟩
  refine ⟨?_, hb⟩
  rw [idx_ends, ← ahead_any]
  congr 2
  by_cases h : ahead s.data.toList < s.data.toList.length
  · rw [if_pos h, decide_eq_true h, decide_eq_true (by omega)]
  · rw [if_neg h, decide_eq_false h, decide_eq_false (by omega)]
theorem empty_size (s : ByteArray) : s.toList.isEmpty = (s.size == 0) := by
  rw [ByteArray.toList_eq, size_eq]; cases s.data.toList <;> rfl
theorem len_zero {α : Type} (l : List α) : (((l.length : Nat) : Int) == 0) = l.isEmpty := by
  cases l with
  | nil => rfl
  | cons a l => rw [beq_eq_false_iff_ne.2 (by simp; omega)]; rfl
theorem wrap_i {i : Nat} (h : i < 9223372036854775807) : wrap64 ((i : Int) + 1) = ((i + 1 : Nat) : Int) := by
  unfold wrap64; omega
theorem C_len {W : World} {A : Option Addr} {l : List S41} (h : Kd.C k41 W A l.length l) : l.length ≤ 9223372036854775807 := h.2.1
/-- A round's box, behind a call. -/
theorem round_box {W wr w2 w3 : World} {gb : Nat} {x y a b : Value} (HB : Below W.heap.size W wr) (hb2 : Below wr.heap.size wr w2) (hg : gb = wr.heap.size) (hbox : w2.heap[gb]? = some (.cells #[x, y] 41 (0, 0)))
    (hb3 : Below ((w2.setCell ⟨gb, 0, none⟩ a).setCell ⟨gb, 1, none⟩ b).heap.size ((w2.setCell ⟨gb, 0, none⟩ a).setCell ⟨gb, 1, none⟩ b) w3) :
    w3.heap[gb]? = some (.cells #[a, b] 41 (0, 0)) ∧ Below W.heap.size W w3 := by
  have h1 : ((w2.setCell ⟨gb, 0, none⟩ a).setCell ⟨gb, 1, none⟩ b).heap[gb]? = some (.cells #[a, b] 41 (0, 0)) := by
    have := blk_set (blk_set hbox 0 a) 1 b
    simpa using this
  have hs := HB.size
  refine ⟨(hb3.block gb (size_of h1)).trans h1, ?_⟩
  have hb := ((HB.trans (hb2.mono hs)).setCell (p := ⟨gb, 0, none⟩) (by simp; omega) a).setCell (p := ⟨gb, 1, none⟩) (by simp; omega) b
  exact hb.trans (hb3.mono hb.size)

set_option maxHeartbeats 4000000 in
set_option maxRecDepth 100000 in
theorem right_calls (n : Nat) : ∀ (A : Option Addr) (c : Nat) (l : List S41) (W : World) (hr : Kd.C k41 W A l.length l) (hc : l.length ≤ c) (hn : SizeOf.sizeOf l ≤ n),
    Calls Tryd.prog 36 #[.slice A l.length c] W fun e w' => Below W.heap.size W w' ∧ ((okL l = true ∧ e = .returned (.tuple #[])) ∨ (okL l = false ∧ e = .panicked (thrown 4))) := by
  induction n with
  | zero => intro A c l W _ _ hn; cases l <;> simp at hn
  | succ n ih =>
  intro A c l W hr hc hn
  have HR := Aside0.mk hr
  have HC := Aside0.mk hc
  have HL := Aside0.mk (C_len hr)
  have HN := Aside0.mk hn
  have IH := Aside0.mk ih
  clear hr hc hn ih
  go_enter Tryd.func36, Tryd.ntmps36
  go_wp2
  go_loopw [6] (fun v wr => ∃ i : Nat, v = .int .i64 i ∧ i ≤ l.length ∧ (∀ j, j < i → okT (rd_T41 l (j : Int)) = true) ∧ Below W.heap.size W wr) (fun v _ => l.length - idx v)
  case atStart => exact ⟨0, rfl, Nat.zero_le _, fun j hj => by omega, Below.refl _ _⟩
  case round =>
    obtain ⟨i, rfl, hil, hok, hb⟩ := hrel
    have HOK := Aside0.mk hok
    have HB := Aside0.mk hb
    have HI := Aside0.mk hil
    clear hok hb hil
    by_cases hi : i < l.length
    · have hi0 : decide ((i : Int) < (l.length : Int)) = true := by simp; exact hi
      obtain ⟨ad, A1, c1, rfl, hx0, hx1, hl1, hk1⟩ := at_T41 HR.out (i : Int) (by omega) (by omega)
      obtain ⟨x, hx⟩ : ∃ x, rd_T41 l (i : Int) = x := ⟨_, rfl⟩
      rw [hx] at hx0 hx1 hl1 hk1
      replace hx0 := (HB.out.cell (World.block_lt_of_cell? W _ hx0)).trans hx0
      replace hx1 := (HB.out.cell (World.block_lt_of_cell? W _ hx1)).trans hx1
      have HX := Aside0.mk hx
      have HL1 := Aside0.mk hl1
      have HK1 := Aside0.mk hk1
      clear hx hl1 hk1
      obtain ⟨ii, hii⟩ : ∃ ii : Int, (i : Int) = ii := ⟨_, rfl⟩
      rw [hii] at hi0 hx0 hx1 ⊢
      have p1 : (0 ≤ ii) = True := eq_true (by omega)
      have p2 : (ii < (l.length : Int)) = True := eq_true (by omega)
      have HII := Aside0.mk hi
      have HIJ := Aside0.mk hii
      clear hi hii
      go_wp2_with (first | ((with_reducible refine gate_dst (N := 3) rfl ?_); refine box_event ?hg (N := 3) ?hd (cs := #[.string (⟨#[]⟩ : ByteArray), .slice none 0 0]) (t := 41) ?hr ?_; (case hd => rfl); (case hg => rfl); (case hr => first | (go_simp; done) | (go_simp; rfl)); intro gb hg w2 hbox hb; have HB2 := Aside0.mk hb; have HG := Aside0.mk hg; have BK := Aside0.mk hbox; have hcz0 : w2.cell? ⟨gb, 0, none⟩ = some (.string (⟨#[]⟩ : ByteArray)) := cell_blk hbox 0 _ rfl; have hcz1 : w2.cell? ⟨gb, 1, none⟩ = some (.slice none 0 0) := cell_blk hbox 1 _ rfl; have hfz0 := frozen_blk hbox 0; have hfz1 := frozen_blk hbox 1; clear hb hbox hg))
      have hcb : ∃ cb, x.f0.data.toList.any isEnd = cb := ⟨_, rfl⟩
      obtain ⟨cb, hcb⟩ := hcb
      have hW := contains_any x.f0
      rw [hcb] at hW
      refine (hW _).mono ?_
      rintro e w3 ⟨rfl, hb3⟩
      obtain ⟨hbk3, hbw3⟩ := round_box HB.out HB2.out HG.out BK.out hb3
      have hd0 : w3.cell? ⟨gb, 0, none⟩ = some (.string x.f0) := cell_blk hbk3 0 _ rfl
      have hd1 : w3.cell? ⟨gb, 1, none⟩ = some (.slice A1 x.f1.length c1) := cell_blk hbk3 1 _ rfl
      have BW := Aside0.mk hbw3
      have HCB := Aside0.mk hcb
      clear hb3 hbk3 hbw3 hcb hW hcz0 hcz1 hfz0 hfz1 hx0 hx1
      have hka := IH.out A1 c1 x.f1 w3 (Kd.C_below HK1.out BW.out) HL1.out (by have h1 := size41 (rd_mem HII.out); rw [HX.out] at h1; have h2 := HN.out; omega)
      have HKA := Aside0.mk hka
      clear hka
      cases cb with
      | true =>
        go_wp2_with (go_at_call 28; refine (must_no _ _).mono ?_; rintro e w' ⟨rfl, rfl⟩)
        refine ⟨rfl, BW.out, .inr ⟨okL_far HII.out ?_, rfl⟩⟩
        rw [HX.out, okT_eq, HCB.out]
        rfl
      | false =>
        cases he1 : x.f0.toList.isEmpty with
        | true =>
          have HE1 := Aside0.mk ((empty_size x.f0).symm.trans he1)
          go_wp2_with (go_at_call 28; refine (must_ok _ _).mono ?_; rintro e w' ⟨rfl, rfl⟩)
          have hkids : okL x.f1 = okT x := by rw [okT_eq, HCB.out]; rw [HE1.out]; rfl
          cases hko : okL x.f1 with
          | true =>
            have HK : Calls Tryd.prog 36 #[.slice A1 x.f1.length c1] w3 fun e w' => e = .returned (.tuple #[]) ∧ Below w3.heap.size w3 w' := by
              refine HKA.out.mono ?_
              rintro e w4 ⟨hb4, (⟨_, rfl⟩ | ⟨hbad, _⟩)⟩
              · exact ⟨rfl, hb4⟩
              · rw [hko] at hbad; cases hbad
            have HKO := Aside0.mk (hkids.symm.trans hko)
            have HKK := Aside0.mk HK
            clear hkids hko HK
            go_wp2_with (go_at_call 36; refine HKK.out.mono ?_; rintro e w4 ⟨rfl, hb4⟩; have HB4 := Aside0.mk hb4; clear hb4)
            go_roundw
            case rel => exact ⟨i + 1, by rw [← HIJ.out, wrap_i (by have := HII.out; have := HC.out; have := HL.out; omega)], HII.out, okL_next HII.out HOK.out (by rw [HX.out]; exact HKO.out), BW.out.trans (HB4.out.mono BW.out.size)⟩
            case measure => rw [← HIJ.out, wrap_i (by have := HII.out; have := HC.out; have := HL.out; omega)]; all_goals (have := HII.out; simp [idx]; try omega)
          | false =>
            have HK : Calls Tryd.prog 36 #[.slice A1 x.f1.length c1] w3 fun e w' => e = .panicked (thrown 4) ∧ Below w3.heap.size w3 w' := by
              refine HKA.out.mono ?_
              rintro e w4 ⟨hb4, (⟨hbad, _⟩ | ⟨_, rfl⟩)⟩
              · rw [hko] at hbad; cases hbad
              · exact ⟨rfl, hb4⟩
            have HKO := Aside0.mk (hkids.symm.trans hko)
            have HKK := Aside0.mk HK
            clear hkids hko HK
            go_wp2_with (go_at_call 36; refine HKK.out.mono ?_; rintro e w4 ⟨rfl, hb4⟩; have HB4 := Aside0.mk hb4; clear hb4)
            exact ⟨rfl, BW.out.trans (HB4.out.mono BW.out.size), .inr ⟨okL_far HII.out (by rw [HX.out]; exact HKO.out), rfl⟩⟩
        | false =>
          have HE1 := Aside0.mk ((empty_size x.f0).symm.trans he1)
          cases he2 : (((x.f1.length : Nat) : Int) == 0) with
          | true =>
            have HE2 := Aside0.mk ((len_zero x.f1).symm.trans he2)
            go_wp2_with (go_at_call 28; refine (must_ok _ _).mono ?_; rintro e w' ⟨rfl, rfl⟩)
            have hkids : okL x.f1 = okT x := by rw [okT_eq, HCB.out]; rw [HE2.out]; simp
            cases hko : okL x.f1 with
            | true =>
              have HK : Calls Tryd.prog 36 #[.slice A1 x.f1.length c1] w3 fun e w' => e = .returned (.tuple #[]) ∧ Below w3.heap.size w3 w' := by
                refine HKA.out.mono ?_
                rintro e w4 ⟨hb4, (⟨_, rfl⟩ | ⟨hbad, _⟩)⟩
                · exact ⟨rfl, hb4⟩
                · rw [hko] at hbad; cases hbad
              have HKO := Aside0.mk (hkids.symm.trans hko)
              have HKK := Aside0.mk HK
              clear hkids hko HK
              go_wp2_with (go_at_call 36; refine HKK.out.mono ?_; rintro e w4 ⟨rfl, hb4⟩; have HB4 := Aside0.mk hb4; clear hb4)
              go_roundw
              case rel => exact ⟨i + 1, by rw [← HIJ.out, wrap_i (by have := HII.out; have := HC.out; have := HL.out; omega)], HII.out, okL_next HII.out HOK.out (by rw [HX.out]; exact HKO.out), BW.out.trans (HB4.out.mono BW.out.size)⟩
              case measure => rw [← HIJ.out, wrap_i (by have := HII.out; have := HC.out; have := HL.out; omega)]; all_goals (have := HII.out; simp [idx]; try omega)
            | false =>
              have HK : Calls Tryd.prog 36 #[.slice A1 x.f1.length c1] w3 fun e w' => e = .panicked (thrown 4) ∧ Below w3.heap.size w3 w' := by
                refine HKA.out.mono ?_
                rintro e w4 ⟨hb4, (⟨hbad, _⟩ | ⟨_, rfl⟩)⟩
                · rw [hko] at hbad; cases hbad
                · exact ⟨rfl, hb4⟩
              have HKO := Aside0.mk (hkids.symm.trans hko)
              have HKK := Aside0.mk HK
              clear hkids hko HK
              go_wp2_with (go_at_call 36; refine HKK.out.mono ?_; rintro e w4 ⟨rfl, hb4⟩; have HB4 := Aside0.mk hb4; clear hb4)
              exact ⟨rfl, BW.out.trans (HB4.out.mono BW.out.size), .inr ⟨okL_far HII.out (by rw [HX.out]; exact HKO.out), rfl⟩⟩
          | false =>
            have HE2 := Aside0.mk ((len_zero x.f1).symm.trans he2)
            go_wp2_with (go_at_call 28; refine (must_no _ _).mono ?_; rintro e w' ⟨rfl, rfl⟩)
            refine ⟨rfl, BW.out, .inr ⟨okL_far HII.out ?_, rfl⟩⟩
            rw [HX.out, okT_eq, HCB.out]
            rw [HE1.out, HE2.out]; rfl
    · have hi0 : decide ((i : Int) < (l.length : Int)) = false := by simp; omega
      go_wp2
      go_end0
      obtain rfl : i = l.length := by have := HI.out; omega
      exact ⟨HB.out, .inl ⟨okL_all HOK.out, rfl⟩⟩
end Go.Proofs.YtmjnodjjnjckiaaDoor

/- package spandrellaw30: LinesRound, walked. -/
import Derived.Test.YtmjnodjjnjckiaaDoorT
namespace Go.Proofs.YtmjnodjjnjckiaaDoor
open Go.RowKit Go.Shelf Go.Proofs.YtmjnodjjnjckiaaDoorW.PrintWords PLines

theorem great_calls {A : Option Addr} {c : Nat} {l : List S41} {w : World} (hr : Kd.C k41 w A l.length l) (hc : l.length ≤ c) (hw : wtL l ≤ 1000000000000) :
    ∃ r, Calls Tryd.prog 13 #[.slice A l.length c] w fun e w' => e = .returned (.bool r) ∧ Below w.heap.size w w' := by
  obtain ⟨r, k, hk⟩ := great_ev l hw
  exact ⟨r, spandrellaw30_great.calls k A c l r w hr hc (hk k (Nat.le_refl _))⟩
theorem equal_calls {A A' : Option Addr} {c c' : Nat} {l : List S41} {w : World} (hr : Kd.C k41 w A l.length l) (hc : l.length ≤ c) (hr' : Kd.C k41 w A' l.length l) (hc' : l.length ≤ c') (hw : wtL l ≤ 1000000000000) :
    Calls Tryd.prog 20 #[.slice A l.length c, .slice A' l.length c'] w fun e w' => e = .returned (.bool true) ∧ Below w.heap.size w w' := by
  obtain ⟨k, hk⟩ := equal_ev _ l (Nat.le_refl _) hw
  exact spandrellaw30_equal.calls k A c l A' c' l true w hr hc hr' hc' (hk k (Nat.le_refl _))
/-- Read, as a slice of trees that lie in memory. -/
theorem read_slice (s : ByteArray) (m : Int) (W : World) (h0 : 0 < W.heap.size) (hm : W.cell? ⟨0, 0, none⟩ = some (.int .i64 m)) :
    Calls Tryd.prog 9 #[.string s] W fun e W' => ∃ A c, e = .returned (.tuple #[.slice A (readF s).length c, .int .i64 (readE s)]) ∧ Kd.C k41 W' A (readF s).length (readF s) ∧ (readF s).length ≤ c ∧ Below W.heap.size W W' := by
  refine (read_calls s m W h0 hm).mono ?_
  rintro e W' ⟨v, rfl, hR, hb⟩
  obtain ⟨A, c, rfl, hc, hC⟩ := Kd.R_reads hR
  exact ⟨A, c, rfl, hC, hc, hb⟩

theorem writeOut_err {l : List S41} {e : Int} (h : writeOut l = .error e) : e = 3 ∨ e = 4 := by
  unfold writeOut at h
  repeat' split at h
  all_goals first
    | (cases h; done)
    | (injection h with h; subst h; simp)

set_option maxHeartbeats 4000000 in
set_option maxRecDepth 100000 in
theorem law_round (A : Option Addr) (c : Nat) (l : List S41) (text : ByteArray) (m : Int) (W : World) (hr : Kd.C k41 W A l.length l) (hc : l.length ≤ c) (hw : wtL l ≤ 1000000000000) (h0 : 0 < W.heap.size) (hm : W.cell? ⟨0, 0, none⟩ = some (.int .i64 m)) :
    Calls Tryd.prog 5 #[.slice A l.length c, .string text] W fun e W' => e = .returned (.bool true) ∧ Below W.heap.size W W' := by
  have HR := Aside0.mk hr
  have HC := Aside0.mk hc
  have HW := Aside0.mk hw
  have H0 := Aside0.mk h0
  have HM := Aside0.mk hm
  clear hr hc hw h0 hm
  go_enter Tryd.func5, Tryd.ntmps5
  go_wp2_with fail
  refine (awake_calls m W H0.out HM.out).mono ?_
  rintro e w1 ⟨rfl, hb1⟩
  have HB := Aside0.mk hb1
  clear hb1
  go_wp2_with fail
  obtain ⟨r, hg⟩ := great_calls (Kd.C_below HR.out HB.out) HC.out HW.out
  refine hg.mono ?_
  rintro e w2 ⟨rfl, hb2⟩
  have HB := Aside0.mk (HB.out.trans (hb2.mono HB.out.size))
  clear hb2
  clear hg
  cases r with
  | true =>
    go_wp2_with fail
    go_ret
    exact ⟨rfl, HB.out⟩

  | false =>
    cases hts : decide (4000 < (text.size : Int)) with
    | true =>
      go_wp2_with fail
      go_ret
      exact ⟨rfl, HB.out⟩

    | false =>
      have HTS : Aside0 (text.size ≤ 4000) := ⟨by have := of_decide_eq_false hts; omega⟩
      cases hwo : writeOut l with
      | ok t =>
        have HWO := Aside0.mk hwo
        have hwr := write_calls A c l _ (Kd.C_below HR.out HB.out) HC.out HW.out
        rw [show writeT l = t by unfold writeT; rw [hwo], show writeE l = 0 by unfold writeE; rw [hwo]] at hwr
        clear hwo
        go_wp2_with fail
        refine hwr.mono ?_
        rintro e w3 ⟨rfl, hb2⟩
        have HB := Aside0.mk (HB.out.trans (hb2.mono HB.out.size))
        clear hb2
        clear hwr
        have hE : readE ⟨t.toArray⟩ = 0 := by unfold readE; rw [write_read HWO.out]
        have hF : readF ⟨t.toArray⟩ = l := by unfold readF; rw [write_read HWO.out]
        have hrd := read_slice ⟨t.toArray⟩ m _ (Nat.lt_of_lt_of_le H0.out HB.out.size) ((HB.out.cell (p := ⟨0, 0, none⟩) H0.out).trans HM.out)
        rw [hE, hF] at hrd
        clear hE hF
        go_wp2_with fail
        refine hrd.mono ?_
        rintro e w4 ⟨A2, c2, rfl, hC2, hc2, hb2⟩
        have HB := Aside0.mk (HB.out.trans (hb2.mono HB.out.size))
        clear hb2
        have heq := equal_calls hC2 hc2 (Kd.C_below HR.out HB.out) HC.out HW.out
        have HEQ := Aside0.mk heq
        clear hrd heq hC2 hc2
        go_wp2_with fail
        refine HEQ.out.mono ?_
        rintro e w5 ⟨rfl, hb2⟩
        have HB := Aside0.mk (HB.out.trans (hb2.mono HB.out.size))
        clear hb2
        clear HEQ
        cases htx : readOut text with
        | error k =>
          have HTX := Aside0.mk htx
          rcases readOut_err htx with rfl | rfl
          · clear htx
            have hE : readE text = 3 := by unfold readE; rw [HTX.out]
            have hF : readF text = [] := by unfold readF; rw [HTX.out]
            have hrd := read_slice text m _ (Nat.lt_of_lt_of_le H0.out HB.out.size) ((HB.out.cell (p := ⟨0, 0, none⟩) H0.out).trans HM.out)
            rw [hE, hF] at hrd
            clear hE hF
            go_wp2_with fail
            refine hrd.mono ?_
            rintro e w7 ⟨A3, c3, rfl, hC3, hc3, hb3⟩
            have HB := Aside0.mk (HB.out.trans (hb3.mono HB.out.size))
            clear hb3
            clear hrd
            go_wp2_with fail
            go_ret
            exact ⟨rfl, HB.out⟩

          · clear htx
            have hE : readE text = 4 := by unfold readE; rw [HTX.out]
            have hF : readF text = [] := by unfold readF; rw [HTX.out]
            have hrd := read_slice text m _ (Nat.lt_of_lt_of_le H0.out HB.out.size) ((HB.out.cell (p := ⟨0, 0, none⟩) H0.out).trans HM.out)
            rw [hE, hF] at hrd
            clear hE hF
            go_wp2_with fail
            refine hrd.mono ?_
            rintro e w7 ⟨A3, c3, rfl, hC3, hc3, hb3⟩
            have HB := Aside0.mk (HB.out.trans (hb3.mono HB.out.size))
            clear hb3
            clear hrd
            go_wp2_with fail
            go_ret
            exact ⟨rfl, HB.out⟩

        | ok y =>
          have HTX := Aside0.mk htx
          clear htx
          have hE : readE text = 0 := by unfold readE; rw [HTX.out]
          have hF : readF text = y := by unfold readF; rw [HTX.out]
          have hrd := read_slice text m _ (Nat.lt_of_lt_of_le H0.out HB.out.size) ((HB.out.cell (p := ⟨0, 0, none⟩) H0.out).trans HM.out)
          rw [hE, hF] at hrd
          clear hE hF
          go_wp2_with fail
          refine hrd.mono ?_
          rintro e w7 ⟨A3, c3, rfl, hC3, hc3, hb3⟩
          have HB := Aside0.mk (HB.out.trans (hb3.mono HB.out.size))
          clear hb3
          clear hrd
          have HC3 := Aside0.mk hC3
          have HL3 := Aside0.mk hc3
          have hwy : wtL y ≤ 1000000000000 := by have := read_wt HTX.out; have := HTS.out; omega
          have HWY := Aside0.mk hwy
          obtain ⟨g1, g2⟩ := read_write HTX.out HTS.out
          have hwr2 := write_calls A3 c3 y _ HC3.out HL3.out hwy
          rw [show writeT y = outL y by unfold writeT; rw [g1], show writeE y = 0 by unfold writeE; rw [g1]] at hwr2
          have HG2 := Aside0.mk g2
          clear hC3 hc3 hwy g1 g2
          go_wp2_with fail
          refine hwr2.mono ?_
          rintro e w8 ⟨rfl, hb4⟩
          have HC3 := Aside0.mk (Kd.C_below HC3.out hb4)
          have HB := Aside0.mk (HB.out.trans (hb4.mono HB.out.size))
          clear hb4
          clear hwr2
          have hE : readE ⟨(outL y).toArray⟩ = 0 := by unfold readE; rw [HG2.out]
          have hF : readF ⟨(outL y).toArray⟩ = y := by unfold readF; rw [HG2.out]
          have hrd := read_slice ⟨(outL y).toArray⟩ m _ (Nat.lt_of_lt_of_le H0.out HB.out.size) ((HB.out.cell (p := ⟨0, 0, none⟩) H0.out).trans HM.out)
          rw [hE, hF] at hrd
          clear hE hF
          go_wp2_with fail
          refine hrd.mono ?_
          rintro e w9 ⟨A5, c5, rfl, hC5, hc5, hb5⟩
          have heq := equal_calls hC5 hc5 (Kd.C_below HC3.out hb5) HL3.out HWY.out
          have HB := Aside0.mk (HB.out.trans (hb5.mono HB.out.size))
          clear hb5
          have HEQ := Aside0.mk heq
          clear hrd heq hC5 hc5
          go_wp2_with fail
          refine HEQ.out.mono ?_
          rintro e w10 ⟨rfl, hb6⟩
          have HB := Aside0.mk (HB.out.trans (hb6.mono HB.out.size))
          clear hb6
          go_wp2_with fail
          go_ret
          exact ⟨rfl, HB.out⟩

      | error k =>
        have HWO := Aside0.mk hwo
        rcases writeOut_err hwo with rfl | rfl
        · clear hwo
          have hwr := write_calls A c l _ (Kd.C_below HR.out HB.out) HC.out HW.out
          rw [show writeT l = [] by unfold writeT; rw [HWO.out], show writeE l = 3 by unfold writeE; rw [HWO.out]] at hwr
          go_wp2_with fail
          refine hwr.mono ?_
          rintro e w3 ⟨rfl, hb2⟩
          have HB := Aside0.mk (HB.out.trans (hb2.mono HB.out.size))
          clear hb2
          clear hwr
          have hrd := read_slice ⟨#[]⟩ m _ (Nat.lt_of_lt_of_le H0.out HB.out.size) ((HB.out.cell (p := ⟨0, 0, none⟩) H0.out).trans HM.out)
          go_wp2_with fail
          refine hrd.mono ?_
          rintro e w4 ⟨A2, c2, rfl, hC2, hc2, hb2⟩
          have HB := Aside0.mk (HB.out.trans (hb2.mono HB.out.size))
          clear hb2
          clear hrd hC2 hc2
          cases htx : readOut text with
          | error k =>
            have HTX := Aside0.mk htx
            rcases readOut_err htx with rfl | rfl
            · clear htx
              have hE : readE text = 3 := by unfold readE; rw [HTX.out]
              have hF : readF text = [] := by unfold readF; rw [HTX.out]
              have hrd := read_slice text m _ (Nat.lt_of_lt_of_le H0.out HB.out.size) ((HB.out.cell (p := ⟨0, 0, none⟩) H0.out).trans HM.out)
              rw [hE, hF] at hrd
              clear hE hF
              go_wp2_with fail
              refine hrd.mono ?_
              rintro e w7 ⟨A3, c3, rfl, hC3, hc3, hb3⟩
              have HB := Aside0.mk (HB.out.trans (hb3.mono HB.out.size))
              clear hb3
              clear hrd
              go_wp2_with fail
              go_ret
              exact ⟨rfl, HB.out⟩

            · clear htx
              have hE : readE text = 4 := by unfold readE; rw [HTX.out]
              have hF : readF text = [] := by unfold readF; rw [HTX.out]
              have hrd := read_slice text m _ (Nat.lt_of_lt_of_le H0.out HB.out.size) ((HB.out.cell (p := ⟨0, 0, none⟩) H0.out).trans HM.out)
              rw [hE, hF] at hrd
              clear hE hF
              go_wp2_with fail
              refine hrd.mono ?_
              rintro e w7 ⟨A3, c3, rfl, hC3, hc3, hb3⟩
              have HB := Aside0.mk (HB.out.trans (hb3.mono HB.out.size))
              clear hb3
              clear hrd
              go_wp2_with fail
              go_ret
              exact ⟨rfl, HB.out⟩

          | ok y =>
            have HTX := Aside0.mk htx
            clear htx
            have hE : readE text = 0 := by unfold readE; rw [HTX.out]
            have hF : readF text = y := by unfold readF; rw [HTX.out]
            have hrd := read_slice text m _ (Nat.lt_of_lt_of_le H0.out HB.out.size) ((HB.out.cell (p := ⟨0, 0, none⟩) H0.out).trans HM.out)
            rw [hE, hF] at hrd
            clear hE hF
            go_wp2_with fail
            refine hrd.mono ?_
            rintro e w7 ⟨A3, c3, rfl, hC3, hc3, hb3⟩
            have HB := Aside0.mk (HB.out.trans (hb3.mono HB.out.size))
            clear hb3
            clear hrd
            have HC3 := Aside0.mk hC3
            have HL3 := Aside0.mk hc3
            have hwy : wtL y ≤ 1000000000000 := by have := read_wt HTX.out; have := HTS.out; omega
            have HWY := Aside0.mk hwy
            obtain ⟨g1, g2⟩ := read_write HTX.out HTS.out
            have hwr2 := write_calls A3 c3 y _ HC3.out HL3.out hwy
            rw [show writeT y = outL y by unfold writeT; rw [g1], show writeE y = 0 by unfold writeE; rw [g1]] at hwr2
            have HG2 := Aside0.mk g2
            clear hC3 hc3 hwy g1 g2
            go_wp2_with fail
            refine hwr2.mono ?_
            rintro e w8 ⟨rfl, hb4⟩
            have HC3 := Aside0.mk (Kd.C_below HC3.out hb4)
            have HB := Aside0.mk (HB.out.trans (hb4.mono HB.out.size))
            clear hb4
            clear hwr2
            have hE : readE ⟨(outL y).toArray⟩ = 0 := by unfold readE; rw [HG2.out]
            have hF : readF ⟨(outL y).toArray⟩ = y := by unfold readF; rw [HG2.out]
            have hrd := read_slice ⟨(outL y).toArray⟩ m _ (Nat.lt_of_lt_of_le H0.out HB.out.size) ((HB.out.cell (p := ⟨0, 0, none⟩) H0.out).trans HM.out)
            rw [hE, hF] at hrd
            clear hE hF
            go_wp2_with fail
            refine hrd.mono ?_
            rintro e w9 ⟨A5, c5, rfl, hC5, hc5, hb5⟩
            have heq := equal_calls hC5 hc5 (Kd.C_below HC3.out hb5) HL3.out HWY.out
            have HB := Aside0.mk (HB.out.trans (hb5.mono HB.out.size))
            clear hb5
            have HEQ := Aside0.mk heq
            clear hrd heq hC5 hc5
            go_wp2_with fail
            refine HEQ.out.mono ?_
            rintro e w10 ⟨rfl, hb6⟩
            have HB := Aside0.mk (HB.out.trans (hb6.mono HB.out.size))
            clear hb6
            go_wp2_with fail
            go_ret
            exact ⟨rfl, HB.out⟩

        · clear hwo
          have hwr := write_calls A c l _ (Kd.C_below HR.out HB.out) HC.out HW.out
          rw [show writeT l = [] by unfold writeT; rw [HWO.out], show writeE l = 4 by unfold writeE; rw [HWO.out]] at hwr
          go_wp2_with fail
          refine hwr.mono ?_
          rintro e w3 ⟨rfl, hb2⟩
          have HB := Aside0.mk (HB.out.trans (hb2.mono HB.out.size))
          clear hb2
          clear hwr
          have hrd := read_slice ⟨#[]⟩ m _ (Nat.lt_of_lt_of_le H0.out HB.out.size) ((HB.out.cell (p := ⟨0, 0, none⟩) H0.out).trans HM.out)
          go_wp2_with fail
          refine hrd.mono ?_
          rintro e w4 ⟨A2, c2, rfl, hC2, hc2, hb2⟩
          have HB := Aside0.mk (HB.out.trans (hb2.mono HB.out.size))
          clear hb2
          clear hrd hC2 hc2
          cases htx : readOut text with
          | error k =>
            have HTX := Aside0.mk htx
            rcases readOut_err htx with rfl | rfl
            · clear htx
              have hE : readE text = 3 := by unfold readE; rw [HTX.out]
              have hF : readF text = [] := by unfold readF; rw [HTX.out]
              have hrd := read_slice text m _ (Nat.lt_of_lt_of_le H0.out HB.out.size) ((HB.out.cell (p := ⟨0, 0, none⟩) H0.out).trans HM.out)
              rw [hE, hF] at hrd
              clear hE hF
              go_wp2_with fail
              refine hrd.mono ?_
              rintro e w7 ⟨A3, c3, rfl, hC3, hc3, hb3⟩
              have HB := Aside0.mk (HB.out.trans (hb3.mono HB.out.size))
              clear hb3
              clear hrd
              go_wp2_with fail
              go_ret
              exact ⟨rfl, HB.out⟩

            · clear htx
              have hE : readE text = 4 := by unfold readE; rw [HTX.out]
              have hF : readF text = [] := by unfold readF; rw [HTX.out]
              have hrd := read_slice text m _ (Nat.lt_of_lt_of_le H0.out HB.out.size) ((HB.out.cell (p := ⟨0, 0, none⟩) H0.out).trans HM.out)
              rw [hE, hF] at hrd
              clear hE hF
              go_wp2_with fail
              refine hrd.mono ?_
              rintro e w7 ⟨A3, c3, rfl, hC3, hc3, hb3⟩
              have HB := Aside0.mk (HB.out.trans (hb3.mono HB.out.size))
              clear hb3
              clear hrd
              go_wp2_with fail
              go_ret
              exact ⟨rfl, HB.out⟩

          | ok y =>
            have HTX := Aside0.mk htx
            clear htx
            have hE : readE text = 0 := by unfold readE; rw [HTX.out]
            have hF : readF text = y := by unfold readF; rw [HTX.out]
            have hrd := read_slice text m _ (Nat.lt_of_lt_of_le H0.out HB.out.size) ((HB.out.cell (p := ⟨0, 0, none⟩) H0.out).trans HM.out)
            rw [hE, hF] at hrd
            clear hE hF
            go_wp2_with fail
            refine hrd.mono ?_
            rintro e w7 ⟨A3, c3, rfl, hC3, hc3, hb3⟩
            have HB := Aside0.mk (HB.out.trans (hb3.mono HB.out.size))
            clear hb3
            clear hrd
            have HC3 := Aside0.mk hC3
            have HL3 := Aside0.mk hc3
            have hwy : wtL y ≤ 1000000000000 := by have := read_wt HTX.out; have := HTS.out; omega
            have HWY := Aside0.mk hwy
            obtain ⟨g1, g2⟩ := read_write HTX.out HTS.out
            have hwr2 := write_calls A3 c3 y _ HC3.out HL3.out hwy
            rw [show writeT y = outL y by unfold writeT; rw [g1], show writeE y = 0 by unfold writeE; rw [g1]] at hwr2
            have HG2 := Aside0.mk g2
            clear hC3 hc3 hwy g1 g2
            go_wp2_with fail
            refine hwr2.mono ?_
            rintro e w8 ⟨rfl, hb4⟩
            have HC3 := Aside0.mk (Kd.C_below HC3.out hb4)
            have HB := Aside0.mk (HB.out.trans (hb4.mono HB.out.size))
            clear hb4
            clear hwr2
            have hE : readE ⟨(outL y).toArray⟩ = 0 := by unfold readE; rw [HG2.out]
            have hF : readF ⟨(outL y).toArray⟩ = y := by unfold readF; rw [HG2.out]
            have hrd := read_slice ⟨(outL y).toArray⟩ m _ (Nat.lt_of_lt_of_le H0.out HB.out.size) ((HB.out.cell (p := ⟨0, 0, none⟩) H0.out).trans HM.out)
            rw [hE, hF] at hrd
            clear hE hF
            go_wp2_with fail
            refine hrd.mono ?_
            rintro e w9 ⟨A5, c5, rfl, hC5, hc5, hb5⟩
            have heq := equal_calls hC5 hc5 (Kd.C_below HC3.out hb5) HL3.out HWY.out
            have HB := Aside0.mk (HB.out.trans (hb5.mono HB.out.size))
            clear hb5
            have HEQ := Aside0.mk heq
            clear hrd heq hC5 hc5
            go_wp2_with fail
            refine HEQ.out.mono ?_
            rintro e w10 ⟨rfl, hb6⟩
            have HB := Aside0.mk (HB.out.trans (hb6.mono HB.out.size))
            clear hb6
            go_wp2_with fail
            go_ret
            exact ⟨rfl, HB.out⟩

end Go.Proofs.YtmjnodjjnjckiaaDoor

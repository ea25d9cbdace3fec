/- package spandrellaw30: LinesParts, walked. -/
import Derived.Test.YtmjnodjjnjckiaaDoorU
import Derived.Test.YtmjnodjjnjckiaaDoorX
import Derived.Test.YtmjnodjjnjckiaaDoorDD
import Derived.Deep.RegionHeld
namespace Go.Proofs.YtmjnodjjnjckiaaDoor
open Go.RowKit Go.Shelf Go.Proofs.YtmjnodjjnjckiaaDoorW.PrintWords PLines

theorem cat_both (a b : ByteArray) : a ++ (⟨#[10]⟩ : ByteArray) ++ b = ⟨(a.data.toList ++ 10 :: b.data.toList).toArray⟩ := by
  apply bytes_inj'
  simp [ByteArray.data_append]
theorem cat_more (a : ByteArray) : (⟨#[59, 120, 40, 59, 10, 32, 9]⟩ : ByteArray) ++ a ++ (⟨#[10, 13, 32]⟩ : ByteArray) = ⟨(59 :: 120 :: 40 :: 59 :: 10 :: 32 :: 9 :: (a.data.toList ++ [10, 13, 32])).toArray⟩ := by
  apply bytes_inj'
  simp [ByteArray.data_append]
theorem cat_one (a : ByteArray) : (⟨#[40]⟩ : ByteArray) ++ a ++ (⟨#[10, 41]⟩ : ByteArray) = ⟨(40 :: (a.data.toList ++ [10, 41])).toArray⟩ := by
  apply bytes_inj'
  simp [ByteArray.data_append]

theorem tall_iff (x : List S41) : (∃ j, j < x.length ∧ 400 ≤ deT (rd_T41 x (j : Int))) ↔ ∃ z ∈ x, 400 ≤ deT z := by
  constructor
  · rintro ⟨j, hj, hd⟩
    exact ⟨_, rd_mem hj, hd⟩
  · rintro ⟨z, hz, hd⟩
    obtain ⟨j, hj, rfl⟩ := List.getElem_of_mem hz
    exact ⟨j, hj, by simpa [rd_T41, List.getD, hj] using hd⟩

set_option maxHeartbeats 4000000 in
set_option maxRecDepth 100000 in
theorem law_parts (a b : ByteArray) (m : Int) (W : World) (ha : a.size ≤ 1000000000000) (hb : b.size ≤ 1000000000000) (h0 : 0 < W.heap.size) (hm : W.cell? ⟨0, 0, none⟩ = some (.int .i64 m)) :
    Calls Tryd.prog 6 #[.string a, .string b] W fun e W' => e = .returned (.bool true) ∧ Below W.heap.size W W' := by
  have H0 := Aside0.mk h0
  have HM := Aside0.mk hm
  have hw : wrap64 ((a.size : Int) + (b.size : Int)) = (a.size : Int) + (b.size : Int) := by unfold wrap64; omega
  have HSA := Aside0.mk ha
  have HSB := Aside0.mk hb
  have g1 : (9223372036854775807 < a.size + 1) = False := eq_false (by omega)
  have g2 : (9223372036854775807 < a.size + 1 + b.size) = False := eq_false (by omega)
  have g3 : (9223372036854775807 < 7 + a.size) = False := eq_false (by omega)
  have g4 : (9223372036854775807 < 7 + a.size + 3) = False := eq_false (by omega)
  have g5 : (9223372036854775807 < 1 + a.size) = False := eq_false (by omega)
  have g6 : (9223372036854775807 < 1 + a.size + 2) = False := eq_false (by omega)
  clear h0 hm ha hb
  go_enter Tryd.func6, Tryd.ntmps6
  go_wp2_with fail
  refine (awake_calls m W H0.out HM.out).mono ?_
  rintro e w1 ⟨rfl, hb1⟩
  have HB := Aside0.mk hb1
  clear hb1
  cases hts : decide (4000 < (a.size : Int) + (b.size : Int)) with
  | true =>
    go_wp2_with fail
    go_ret
    exact ⟨rfl, HB.out⟩
  | false =>
    have HTS : Aside0 (a.size + b.size ≤ 4000) := ⟨by have := of_decide_eq_false hts; omega⟩
    go_wp2_with fail
    refine (read_slice a m _ (Nat.lt_of_lt_of_le H0.out HB.out.size) ((HB.out.cell (p := ⟨0, 0, none⟩) H0.out).trans HM.out)).mono ?_
    rintro e w2 ⟨A2, c2, rfl, hC2, hc2, hb2⟩
    have HC2 := Aside0.mk hC2
    have HL2 := Aside0.mk hc2
    have HB := Aside0.mk (HB.out.trans (hb2.mono HB.out.size))
    clear hC2 hc2 hb2
    go_wp2_with fail
    refine (read_slice b m _ (Nat.lt_of_lt_of_le H0.out HB.out.size) ((HB.out.cell (p := ⟨0, 0, none⟩) H0.out).trans HM.out)).mono ?_
    rintro e w3 ⟨A3, c3, rfl, hC3, hc3, hb2⟩
    have HC2 := Aside0.mk (Kd.C_below HC2.out hb2)
    have HC3 := Aside0.mk hC3
    have HL3 := Aside0.mk hc3
    have HB := Aside0.mk (HB.out.trans (hb2.mono HB.out.size))
    clear hC3 hc3 hb2
    go_wp2_with fail
    rw [cat_both]
    cases hxa : readOut a with
    | ok x =>
      cases hyb : readOut b with
      | ok y =>
        have HXA := Aside0.mk hxa
        have HYB := Aside0.mk hyb
        rw [show readE a = 0 by unfold readE; rw [hxa], show readF a = x by unfold readF; rw [hxa], show readE b = 0 by unfold readE; rw [hyb], show readF b = y by unfold readF; rw [hyb]]
        rw [show readF a = x by unfold readF; rw [hxa]] at HC2 HL2
        rw [show readF b = y by unfold readF; rw [hyb]] at HC3 HL3
        have hbo := parts_both hxa hyb HTS.out
        have hrd := read_slice ⟨(a.data.toList ++ 10 :: b.data.toList).toArray⟩ m w3 (Nat.lt_of_lt_of_le H0.out HB.out.size) ((HB.out.cell (p := ⟨0, 0, none⟩) H0.out).trans HM.out)
        rw [show readE ⟨(a.data.toList ++ 10 :: b.data.toList).toArray⟩ = 0 by unfold readE; rw [hbo], show readF ⟨(a.data.toList ++ 10 :: b.data.toList).toArray⟩ = x ++ y by unfold readF; rw [hbo]] at hrd
        clear hxa hyb hbo
        refine hrd.mono ?_
        rintro e w4 ⟨A4, c4, rfl, hC4, hc4, hb2⟩
        have HC2 := Aside0.mk (Kd.C_below HC2.out hb2)
        have HC3 := Aside0.mk (Kd.C_below HC3.out hb2)
        have HC4 := Aside0.mk hC4
        have HL4 := Aside0.mk hc4
        have HB := Aside0.mk (HB.out.trans (hb2.mono HB.out.size))
        have HXL : Aside0 (x.length ≤ 1000000000) := ⟨by have h1 := read_wt HXA.out; have h2 := wt_len x; have h3 := HTS.out; omega⟩
        have HYL : Aside0 (y.length ≤ 1000000000) := ⟨by have h1 := read_wt HYB.out; have h2 := wt_len y; have h3 := HTS.out; omega⟩
        clear hC4 hc4 hb2 hrd
        go_wp2_with (first | (at_builtin; refine wpList_wanted rfl (fun K hK => ?_); refine grow_law (w0 := w4) (.tmp 54) (.tmp 55) rfl _ [] x A2 c2 rfl rfl GrowAt.new HC2.out (Nat.zero_le _) HXL.out ?_; intro v5 w5 hg5; have HG5 := Aside0.mk hg5; clear hg5; refine hK _ _ ?_) | (at_builtin; refine wpList_wanted rfl (fun K hK => ?_); refine grow_law (w0 := w4) (.tmp 56) (.tmp 57) rfl v5 _ y A3 c3 rfl rfl HG5.out HC3.out HXL.out HYL.out ?_; intro v6 w6 hg6; have HG6 := Aside0.mk hg6; obtain ⟨A6, c6, rfl, hc6, hC6⟩ := hg6.reads; have HC6 := Aside0.mk hC6; have HL6 := Aside0.mk hc6; clear hg6 hc6 hC6; refine hK _ _ ?_))
        have HB := Aside0.mk (HB.out.trans (HG6.out.choose_spec.2.2.mono HB.out.size))
        have HB46 : Aside0 (Below w4.heap.size w4 w6) := ⟨HG6.out.choose_spec.2.2⟩
        have HC2 := Aside0.mk (Kd.C_below HC2.out HB46.out)
        have HC4 := Aside0.mk (Kd.C_below HC4.out HB46.out)
        have HZW : Aside0 (wtL (x ++ y) ≤ 1000000000000) := ⟨by rw [wt_append]; have h1 := read_wt HXA.out; have h2 := read_wt HYB.out; have h3 := HTS.out; omega⟩
        rw [← List.length_append]
        refine (equal_calls HC4.out HL4.out HC6.out HL6.out HZW.out).mono ?_
        rintro e w7 ⟨rfl, hb2⟩
        have HC2 := Aside0.mk (Kd.C_below HC2.out hb2)
        have HB := Aside0.mk (HB.out.trans (hb2.mono HB.out.size))
        clear hb2
        clear HG6 HG5 HC4 HC6 HL4 HL6 HC3 HL3 HB46
        go_wp2_with fail
        rw [cat_more]
        have hmo : readOut ⟨(59 :: 120 :: 40 :: 59 :: 10 :: 32 :: 9 :: (a.data.toList ++ [10, 13, 32])).toArray⟩ = .ok x := (parts_more (by have := HTS.out; omega)).trans HXA.out
        have hrd := read_slice ⟨(59 :: 120 :: 40 :: 59 :: 10 :: 32 :: 9 :: (a.data.toList ++ [10, 13, 32])).toArray⟩ m _ (Nat.lt_of_lt_of_le H0.out HB.out.size) ((HB.out.cell (p := ⟨0, 0, none⟩) H0.out).trans HM.out)
        rw [show readE ⟨(59 :: 120 :: 40 :: 59 :: 10 :: 32 :: 9 :: (a.data.toList ++ [10, 13, 32])).toArray⟩ = 0 by unfold readE; rw [hmo], show readF ⟨(59 :: 120 :: 40 :: 59 :: 10 :: 32 :: 9 :: (a.data.toList ++ [10, 13, 32])).toArray⟩ = x by unfold readF; rw [hmo]] at hrd
        clear hmo
        refine hrd.mono ?_
        rintro e w8 ⟨A8, c8, rfl, hC8, hc8, hb2⟩
        have HC2 := Aside0.mk (Kd.C_below HC2.out hb2)
        have HC8 := Aside0.mk hC8
        have HL8 := Aside0.mk hc8
        have HB := Aside0.mk (HB.out.trans (hb2.mono HB.out.size))
        clear hb2
        clear hC8 hc8 hrd
        have HXW : Aside0 (wtL x ≤ 1000000000000) := ⟨by have h1 := read_wt HXA.out; have h3 := HTS.out; omega⟩
        go_wp2_with fail
        refine (equal_calls HC8.out HL8.out HC2.out HL2.out HXW.out).mono ?_
        rintro e w9 ⟨rfl, hb2⟩
        have HC2 := Aside0.mk (Kd.C_below HC2.out hb2)
        have HB := Aside0.mk (HB.out.trans (hb2.mono HB.out.size))
        clear hb2
        clear HC8 HL8
        go_wp2_with fail
        rw [cat_one]
        have hon := parts_one HXA.out (by have := HTS.out; omega)
        have hrd := read_slice ⟨(40 :: (a.data.toList ++ [10, 41])).toArray⟩ m _ (Nat.lt_of_lt_of_le H0.out HB.out.size) ((HB.out.cell (p := ⟨0, 0, none⟩) H0.out).trans HM.out)
        obtain ⟨tt, htt⟩ : ∃ tt : Bool, decide (∃ z ∈ x, 400 ≤ deT z) = tt := ⟨_, rfl⟩
        have HTT := Aside0.mk htt
        clear htt
        have hre : readE ⟨(40 :: (a.data.toList ++ [10, 41])).toArray⟩ = if tt = true then 3 else 0 := by
          unfold readE; rw [hon]
          by_cases h : ∃ z ∈ x, 400 ≤ deT z
          · rw [if_pos h, if_pos (HTT.out ▸ decide_eq_true h)]
          · rw [if_neg h, if_neg (by rw [← HTT.out, decide_eq_false h]; decide)]
        have hrf : readF ⟨(40 :: (a.data.toList ++ [10, 41])).toArray⟩ = if tt = true then [] else [⟨⟨#[]⟩, x⟩] := by
          unfold readF; rw [hon]
          by_cases h : ∃ z ∈ x, 400 ≤ deT z
          · rw [if_pos h, if_pos (HTT.out ▸ decide_eq_true h)]
          · rw [if_neg h, if_neg (by rw [← HTT.out, decide_eq_false h]; decide)]
        clear hon
        cases tt with
        | true =>
          rw [hre, hrf, if_pos rfl, if_pos rfl] at hrd
          clear hre hrf
          refine hrd.mono ?_
          rintro e w10 ⟨A10, c10, rfl, hC10, hc10, hb2⟩
          have HC2 := Aside0.mk (Kd.C_below HC2.out hb2)
          have HC10 := Aside0.mk hC10
          have HB := Aside0.mk (HB.out.trans (hb2.mono HB.out.size))
          clear hb2 hC10 hc10 hrd
          go_wp2_with fail
          have HWX := Aside0.mk (Below.refl w10.heap.size w10)
          go_loopw [15, 16] (fun vt vk wr => ∃ (i : Nat) (t : Bool), vk = .int .i64 i ∧ vt = .bool t ∧ i ≤ x.length ∧ t = decide (∃ j, j < i ∧ 400 ≤ deT (rd_T41 x (j : Int))) ∧ Below w10.heap.size w10 wr) (fun _ vk _ => x.length - idx vk)
          case atStart => exact ⟨0, false, rfl, rfl, Nat.zero_le _, by rw [decide_eq_false]; rintro ⟨j, hj, _⟩; omega, Below.refl _ _⟩
          case round =>
            obtain ⟨i, t, rfl, rfl, hil, htd, hbw⟩ := hrel
            have HI := Aside0.mk hil
            have HTD := Aside0.mk htd
            have HBW := Aside0.mk hbw
            clear hil htd hbw
            by_cases hi : i < x.length
            · have hi0 : decide ((i : Int) < (x.length : Int)) = true := by simp; exact hi
              obtain ⟨ad, A1, c1, rfl, hx0, hx1, hl1, hk1⟩ := at_T41 HC2.out (i : Int) (by omega) (by omega)
              obtain ⟨z, hz⟩ : ∃ z, rd_T41 x (i : Int) = z := ⟨_, rfl⟩
              rw [hz] at hx0 hx1 hl1 hk1
              replace hx0 := (HBW.out.cell (World.block_lt_of_cell? w10 _ hx0)).trans hx0
              replace hx1 := (HBW.out.cell (World.block_lt_of_cell? w10 _ hx1)).trans hx1
              have HZ := Aside0.mk hz
              have HL1 := Aside0.mk hl1
              have HK1 := Aside0.mk hk1
              clear hz hl1 hk1
              obtain ⟨ii, hii⟩ : ∃ ii : Int, (i : Int) = ii := ⟨_, rfl⟩
              rw [hii] at hi0 hx0 hx1 ⊢
              have p1 : (0 ≤ ii) = True := eq_true (by omega)
              have p2 : (ii < (x.length : Int)) = True := eq_true (by omega)
              have HII := Aside0.mk hi
              have HIJ := Aside0.mk hii
              have HWZ : Aside0 (wtT z ≤ 1000000000000) := ⟨by have h1 := wt_mem (rd_mem HII.out); rw [HZ.out] at h1; have h2 := HXW.out; omega⟩
              clear hi hii
              cases t with
              | true =>
                go_wp2_with fail
                go_roundw
                case rel =>
                  refine ⟨i + 1, true, by rw [← HIJ.out, wrap_i (by have := HII.out; have h1 := wt_len x; have h2 := HXW.out; omega)], rfl, HII.out, ?_, HBW.out⟩
                  obtain ⟨j, hj, hd⟩ := of_decide_eq_true HTD.out.symm
                  exact (decide_eq_true ⟨j, by omega, hd⟩).symm
                case measure => rw [← HIJ.out, wrap_i (by have := HII.out; have h1 := wt_len x; have h2 := HXW.out; omega)]; have := HII.out; simp [idx]; try omega
              | false =>
                obtain ⟨dd, hdd⟩ : ∃ dd : Int, ((deT z : Nat) : Int) = dd := ⟨_, rfl⟩
                have HDD := Aside0.mk hdd
                clear hdd
                cases hd4 : decide (400 ≤ dd) with
                | true =>
                  have HD4 := Aside0.mk (of_decide_eq_true hd4)
                  go_wp2_with fail
                  refine (deep_calls (Kd.C_below HK1.out HBW.out) HL1.out HWZ.out).mono ?_
                  rintro e w11 ⟨rfl, hb3⟩
                  have HBW := Aside0.mk (HBW.out.trans (hb3.mono HBW.out.size))
                  clear hb3
                  rw [HDD.out]
                  go_wp2_with fail
                  go_roundw
                  case rel =>
                    refine ⟨i + 1, true, by rw [← HIJ.out, wrap_i (by have := HII.out; have h1 := wt_len x; have h2 := HXW.out; omega)], rfl, HII.out, ?_, HBW.out⟩
                    exact (decide_eq_true ⟨i, by omega, by rw [HZ.out]; have h1 := HDD.out; have h2 := HD4.out; omega⟩).symm
                  case measure => rw [← HIJ.out, wrap_i (by have := HII.out; have h1 := wt_len x; have h2 := HXW.out; omega)]; have := HII.out; simp [idx]; try omega
                | false =>
                  have HD4 := Aside0.mk (of_decide_eq_false hd4)
                  go_wp2_with fail
                  refine (deep_calls (Kd.C_below HK1.out HBW.out) HL1.out HWZ.out).mono ?_
                  rintro e w11 ⟨rfl, hb3⟩
                  have HBW := Aside0.mk (HBW.out.trans (hb3.mono HBW.out.size))
                  clear hb3
                  rw [HDD.out]
                  go_wp2_with fail
                  go_roundw
                  case rel =>
                    refine ⟨i + 1, false, by rw [← HIJ.out, wrap_i (by have := HII.out; have h1 := wt_len x; have h2 := HXW.out; omega)], rfl, HII.out, ?_, HBW.out⟩
                    refine (decide_eq_false ?_).symm
                    rintro ⟨j, hj, hd⟩
                    rcases Nat.lt_or_ge j i with h | h
                    · exact of_decide_eq_false HTD.out.symm ⟨j, h, hd⟩
                    · obtain rfl : j = i := by omega
                      rw [HZ.out] at hd
                      have h1 := HDD.out; have h2 := HD4.out; omega
                  case measure => rw [← HIJ.out, wrap_i (by have := HII.out; have h1 := wt_len x; have h2 := HXW.out; omega)]; have := HII.out; simp [idx]; try omega
            · have hi0 : decide ((i : Int) < (x.length : Int)) = false := by simp; omega
              have htt : t = true := by
                rw [HTD.out, ← HTT.out]
                obtain rfl : i = x.length := by have := HI.out; omega
                exact decide_eq_decide.2 (tall_iff x)
              subst htt
              have HB := Aside0.mk (HB.out.trans (HBW.out.mono HB.out.size))
              go_wp2_with fail
              go_ret
              exact ⟨rfl, HB.out⟩

        | false =>
          rw [hre, hrf, if_neg Bool.false_ne_true, if_neg Bool.false_ne_true] at hrd
          clear hre hrf
          refine hrd.mono ?_
          rintro e w10 ⟨A10, c10, rfl, hC10, hc10, hb2⟩
          have HC2 := Aside0.mk (Kd.C_below HC2.out hb2)
          have HC10 := Aside0.mk hC10
          have HB := Aside0.mk (HB.out.trans (hb2.mono HB.out.size))
          clear hb2 hC10 hc10 hrd
          go_wp2_with fail
          have HWX := Aside0.mk (Below.refl w10.heap.size w10)
          go_loopw [15, 16] (fun vt vk wr => ∃ (i : Nat) (t : Bool), vk = .int .i64 i ∧ vt = .bool t ∧ i ≤ x.length ∧ t = decide (∃ j, j < i ∧ 400 ≤ deT (rd_T41 x (j : Int))) ∧ Below w10.heap.size w10 wr) (fun _ vk _ => x.length - idx vk)
          case atStart => exact ⟨0, false, rfl, rfl, Nat.zero_le _, by rw [decide_eq_false]; rintro ⟨j, hj, _⟩; omega, Below.refl _ _⟩
          case round =>
            obtain ⟨i, t, rfl, rfl, hil, htd, hbw⟩ := hrel
            have HI := Aside0.mk hil
            have HTD := Aside0.mk htd
            have HBW := Aside0.mk hbw
            clear hil htd hbw
            by_cases hi : i < x.length
            · have hi0 : decide ((i : Int) < (x.length : Int)) = true := by simp; exact hi
              obtain ⟨ad, A1, c1, rfl, hx0, hx1, hl1, hk1⟩ := at_T41 HC2.out (i : Int) (by omega) (by omega)
              obtain ⟨z, hz⟩ : ∃ z, rd_T41 x (i : Int) = z := ⟨_, rfl⟩
              rw [hz] at hx0 hx1 hl1 hk1
              replace hx0 := (HBW.out.cell (World.block_lt_of_cell? w10 _ hx0)).trans hx0
              replace hx1 := (HBW.out.cell (World.block_lt_of_cell? w10 _ hx1)).trans hx1
              have HZ := Aside0.mk hz
              have HL1 := Aside0.mk hl1
              have HK1 := Aside0.mk hk1
              clear hz hl1 hk1
              obtain ⟨ii, hii⟩ : ∃ ii : Int, (i : Int) = ii := ⟨_, rfl⟩
              rw [hii] at hi0 hx0 hx1 ⊢
              have p1 : (0 ≤ ii) = True := eq_true (by omega)
              have p2 : (ii < (x.length : Int)) = True := eq_true (by omega)
              have HII := Aside0.mk hi
              have HIJ := Aside0.mk hii
              have HWZ : Aside0 (wtT z ≤ 1000000000000) := ⟨by have h1 := wt_mem (rd_mem HII.out); rw [HZ.out] at h1; have h2 := HXW.out; omega⟩
              clear hi hii
              cases t with
              | true =>
                go_wp2_with fail
                go_roundw
                case rel =>
                  refine ⟨i + 1, true, by rw [← HIJ.out, wrap_i (by have := HII.out; have h1 := wt_len x; have h2 := HXW.out; omega)], rfl, HII.out, ?_, HBW.out⟩
                  obtain ⟨j, hj, hd⟩ := of_decide_eq_true HTD.out.symm
                  exact (decide_eq_true ⟨j, by omega, hd⟩).symm
                case measure => rw [← HIJ.out, wrap_i (by have := HII.out; have h1 := wt_len x; have h2 := HXW.out; omega)]; have := HII.out; simp [idx]; try omega
              | false =>
                obtain ⟨dd, hdd⟩ : ∃ dd : Int, ((deT z : Nat) : Int) = dd := ⟨_, rfl⟩
                have HDD := Aside0.mk hdd
                clear hdd
                cases hd4 : decide (400 ≤ dd) with
                | true =>
                  have HD4 := Aside0.mk (of_decide_eq_true hd4)
                  go_wp2_with fail
                  refine (deep_calls (Kd.C_below HK1.out HBW.out) HL1.out HWZ.out).mono ?_
                  rintro e w11 ⟨rfl, hb3⟩
                  have HBW := Aside0.mk (HBW.out.trans (hb3.mono HBW.out.size))
                  clear hb3
                  rw [HDD.out]
                  go_wp2_with fail
                  go_roundw
                  case rel =>
                    refine ⟨i + 1, true, by rw [← HIJ.out, wrap_i (by have := HII.out; have h1 := wt_len x; have h2 := HXW.out; omega)], rfl, HII.out, ?_, HBW.out⟩
                    exact (decide_eq_true ⟨i, by omega, by rw [HZ.out]; have h1 := HDD.out; have h2 := HD4.out; omega⟩).symm
                  case measure => rw [← HIJ.out, wrap_i (by have := HII.out; have h1 := wt_len x; have h2 := HXW.out; omega)]; have := HII.out; simp [idx]; try omega
                | false =>
                  have HD4 := Aside0.mk (of_decide_eq_false hd4)
                  go_wp2_with fail
                  refine (deep_calls (Kd.C_below HK1.out HBW.out) HL1.out HWZ.out).mono ?_
                  rintro e w11 ⟨rfl, hb3⟩
                  have HBW := Aside0.mk (HBW.out.trans (hb3.mono HBW.out.size))
                  clear hb3
                  rw [HDD.out]
                  go_wp2_with fail
                  go_roundw
                  case rel =>
                    refine ⟨i + 1, false, by rw [← HIJ.out, wrap_i (by have := HII.out; have h1 := wt_len x; have h2 := HXW.out; omega)], rfl, HII.out, ?_, HBW.out⟩
                    refine (decide_eq_false ?_).symm
                    rintro ⟨j, hj, hd⟩
                    rcases Nat.lt_or_ge j i with h | h
                    · exact of_decide_eq_false HTD.out.symm ⟨j, h, hd⟩
                    · obtain rfl : j = i := by omega
                      rw [HZ.out] at hd
                      have h1 := HDD.out; have h2 := HD4.out; omega
                  case measure => rw [← HIJ.out, wrap_i (by have := HII.out; have h1 := wt_len x; have h2 := HXW.out; omega)]; have := HII.out; simp [idx]; try omega
            · have hi0 : decide ((i : Int) < (x.length : Int)) = false := by simp; omega
              have htt : t = false := by
                rw [HTD.out, ← HTT.out]
                obtain rfl : i = x.length := by have := HI.out; omega
                exact decide_eq_decide.2 (tall_iff x)
              subst htt
              have HB := Aside0.mk (HB.out.trans (HBW.out.mono HB.out.size))
              obtain ⟨ad0, A11, c11, e0, o0, o1, o2, o3⟩ := at_T41 HC10.out 0 (by decide) (by simp)
              subst e0
              have q0 : wr.cell? ad0 = some (.string ⟨#[]⟩) := (HBW.out.cell (World.block_lt_of_cell? w10 _ o0)).trans o0
              have q1 : wr.cell? ⟨ad0.block, ad0.off + 1, none⟩ = some (.slice A11 x.length c11) := (HBW.out.cell (World.block_lt_of_cell? w10 _ o1)).trans o1
              have O2 := Aside0.mk (show x.length ≤ c11 from o2)
              have O3 := Aside0.mk (show Kd.C k41 w10 A11 x.length x from o3)
              clear o0 o1 o2 o3
              go_wp2_with fail
              refine (equal_calls (Kd.C_below O3.out HBW.out) O2.out (Kd.C_below HC2.out HBW.out) HL2.out HXW.out).mono ?_
              rintro e w12 ⟨rfl, hb2⟩
              have HB := Aside0.mk (HB.out.trans (hb2.mono HB.out.size))
              clear hb2
              go_wp2_with fail
              go_ret
              exact ⟨rfl, HB.out⟩

      | error kb =>
        have HXA := Aside0.mk hxa
        have hkb : (kb == 0) = false := by rcases readOut_err hyb with e | e <;> rw [e] <;> rfl
        rw [show readE a = 0 by unfold readE; rw [hxa], show readF a = x by unfold readF; rw [hxa], show readE b = kb by unfold readE; rw [hyb]]
        rw [show readF a = x by unfold readF; rw [hxa]] at HC2 HL2
        have hrd := read_slice ⟨(a.data.toList ++ 10 :: b.data.toList).toArray⟩ m w3 (Nat.lt_of_lt_of_le H0.out HB.out.size) ((HB.out.cell (p := ⟨0, 0, none⟩) H0.out).trans HM.out)
        obtain ⟨L4, hL4⟩ : ∃ L4, readF ⟨(a.data.toList ++ 10 :: b.data.toList).toArray⟩ = L4 := ⟨_, rfl⟩
        obtain ⟨E4, hE4⟩ : ∃ E4, readE ⟨(a.data.toList ++ 10 :: b.data.toList).toArray⟩ = E4 := ⟨_, rfl⟩
        obtain ⟨L3, hL3⟩ : ∃ L3, readF b = L3 := ⟨_, rfl⟩
        rw [hL4, hE4] at hrd
        rw [hL3] at HC3 HL3 ⊢
        clear hxa hyb hL4 hE4 hL3
        refine hrd.mono ?_
        rintro e w4 ⟨A4, c4, rfl, hC4, hc4, hb2⟩
        have HC2 := Aside0.mk (Kd.C_below HC2.out hb2)
        have HB := Aside0.mk (HB.out.trans (hb2.mono HB.out.size))
        clear hC4 hc4 hb2 hrd HC3 HL3
        go_wp2_with fail
        rw [cat_more]
        have hmo : readOut ⟨(59 :: 120 :: 40 :: 59 :: 10 :: 32 :: 9 :: (a.data.toList ++ [10, 13, 32])).toArray⟩ = .ok x := (parts_more (by have := HTS.out; omega)).trans HXA.out
        have hrd := read_slice ⟨(59 :: 120 :: 40 :: 59 :: 10 :: 32 :: 9 :: (a.data.toList ++ [10, 13, 32])).toArray⟩ m _ (Nat.lt_of_lt_of_le H0.out HB.out.size) ((HB.out.cell (p := ⟨0, 0, none⟩) H0.out).trans HM.out)
        rw [show readE ⟨(59 :: 120 :: 40 :: 59 :: 10 :: 32 :: 9 :: (a.data.toList ++ [10, 13, 32])).toArray⟩ = 0 by unfold readE; rw [hmo], show readF ⟨(59 :: 120 :: 40 :: 59 :: 10 :: 32 :: 9 :: (a.data.toList ++ [10, 13, 32])).toArray⟩ = x by unfold readF; rw [hmo]] at hrd
        clear hmo
        refine hrd.mono ?_
        rintro e w8 ⟨A8, c8, rfl, hC8, hc8, hb2⟩
        have HC2 := Aside0.mk (Kd.C_below HC2.out hb2)
        have HC8 := Aside0.mk hC8
        have HL8 := Aside0.mk hc8
        have HB := Aside0.mk (HB.out.trans (hb2.mono HB.out.size))
        clear hb2
        clear hC8 hc8 hrd
        have HXW : Aside0 (wtL x ≤ 1000000000000) := ⟨by have h1 := read_wt HXA.out; have h3 := HTS.out; omega⟩
        go_wp2_with fail
        refine (equal_calls HC8.out HL8.out HC2.out HL2.out HXW.out).mono ?_
        rintro e w9 ⟨rfl, hb2⟩
        have HC2 := Aside0.mk (Kd.C_below HC2.out hb2)
        have HB := Aside0.mk (HB.out.trans (hb2.mono HB.out.size))
        clear hb2
        clear HC8 HL8
        go_wp2_with fail
        rw [cat_one]
        have hon := parts_one HXA.out (by have := HTS.out; omega)
        have hrd := read_slice ⟨(40 :: (a.data.toList ++ [10, 41])).toArray⟩ m _ (Nat.lt_of_lt_of_le H0.out HB.out.size) ((HB.out.cell (p := ⟨0, 0, none⟩) H0.out).trans HM.out)
        obtain ⟨tt, htt⟩ : ∃ tt : Bool, decide (∃ z ∈ x, 400 ≤ deT z) = tt := ⟨_, rfl⟩
        have HTT := Aside0.mk htt
        clear htt
        have hre : readE ⟨(40 :: (a.data.toList ++ [10, 41])).toArray⟩ = if tt = true then 3 else 0 := by
          unfold readE; rw [hon]
          by_cases h : ∃ z ∈ x, 400 ≤ deT z
          · rw [if_pos h, if_pos (HTT.out ▸ decide_eq_true h)]
          · rw [if_neg h, if_neg (by rw [← HTT.out, decide_eq_false h]; decide)]
        have hrf : readF ⟨(40 :: (a.data.toList ++ [10, 41])).toArray⟩ = if tt = true then [] else [⟨⟨#[]⟩, x⟩] := by
          unfold readF; rw [hon]
          by_cases h : ∃ z ∈ x, 400 ≤ deT z
          · rw [if_pos h, if_pos (HTT.out ▸ decide_eq_true h)]
          · rw [if_neg h, if_neg (by rw [← HTT.out, decide_eq_false h]; decide)]
        clear hon
        cases tt with
        | true =>
          rw [hre, hrf, if_pos rfl, if_pos rfl] at hrd
          clear hre hrf
          refine hrd.mono ?_
          rintro e w10 ⟨A10, c10, rfl, hC10, hc10, hb2⟩
          have HC2 := Aside0.mk (Kd.C_below HC2.out hb2)
          have HC10 := Aside0.mk hC10
          have HB := Aside0.mk (HB.out.trans (hb2.mono HB.out.size))
          clear hb2 hC10 hc10 hrd
          go_wp2_with fail
          have HWX := Aside0.mk (Below.refl w10.heap.size w10)
          go_loopw [15, 16] (fun vt vk wr => ∃ (i : Nat) (t : Bool), vk = .int .i64 i ∧ vt = .bool t ∧ i ≤ x.length ∧ t = decide (∃ j, j < i ∧ 400 ≤ deT (rd_T41 x (j : Int))) ∧ Below w10.heap.size w10 wr) (fun _ vk _ => x.length - idx vk)
          case atStart => exact ⟨0, false, rfl, rfl, Nat.zero_le _, by rw [decide_eq_false]; rintro ⟨j, hj, _⟩; omega, Below.refl _ _⟩
          case round =>
            obtain ⟨i, t, rfl, rfl, hil, htd, hbw⟩ := hrel
            have HI := Aside0.mk hil
            have HTD := Aside0.mk htd
            have HBW := Aside0.mk hbw
            clear hil htd hbw
            by_cases hi : i < x.length
            · have hi0 : decide ((i : Int) < (x.length : Int)) = true := by simp; exact hi
              obtain ⟨ad, A1, c1, rfl, hx0, hx1, hl1, hk1⟩ := at_T41 HC2.out (i : Int) (by omega) (by omega)
              obtain ⟨z, hz⟩ : ∃ z, rd_T41 x (i : Int) = z := ⟨_, rfl⟩
              rw [hz] at hx0 hx1 hl1 hk1
              replace hx0 := (HBW.out.cell (World.block_lt_of_cell? w10 _ hx0)).trans hx0
              replace hx1 := (HBW.out.cell (World.block_lt_of_cell? w10 _ hx1)).trans hx1
              have HZ := Aside0.mk hz
              have HL1 := Aside0.mk hl1
              have HK1 := Aside0.mk hk1
              clear hz hl1 hk1
              obtain ⟨ii, hii⟩ : ∃ ii : Int, (i : Int) = ii := ⟨_, rfl⟩
              rw [hii] at hi0 hx0 hx1 ⊢
              have p1 : (0 ≤ ii) = True := eq_true (by omega)
              have p2 : (ii < (x.length : Int)) = True := eq_true (by omega)
              have HII := Aside0.mk hi
              have HIJ := Aside0.mk hii
              have HWZ : Aside0 (wtT z ≤ 1000000000000) := ⟨by have h1 := wt_mem (rd_mem HII.out); rw [HZ.out] at h1; have h2 := HXW.out; omega⟩
              clear hi hii
              cases t with
              | true =>
                go_wp2_with fail
                go_roundw
                case rel =>
                  refine ⟨i + 1, true, by rw [← HIJ.out, wrap_i (by have := HII.out; have h1 := wt_len x; have h2 := HXW.out; omega)], rfl, HII.out, ?_, HBW.out⟩
                  obtain ⟨j, hj, hd⟩ := of_decide_eq_true HTD.out.symm
                  exact (decide_eq_true ⟨j, by omega, hd⟩).symm
                case measure => rw [← HIJ.out, wrap_i (by have := HII.out; have h1 := wt_len x; have h2 := HXW.out; omega)]; have := HII.out; simp [idx]; try omega
              | false =>
                obtain ⟨dd, hdd⟩ : ∃ dd : Int, ((deT z : Nat) : Int) = dd := ⟨_, rfl⟩
                have HDD := Aside0.mk hdd
                clear hdd
                cases hd4 : decide (400 ≤ dd) with
                | true =>
                  have HD4 := Aside0.mk (of_decide_eq_true hd4)
                  go_wp2_with fail
                  refine (deep_calls (Kd.C_below HK1.out HBW.out) HL1.out HWZ.out).mono ?_
                  rintro e w11 ⟨rfl, hb3⟩
                  have HBW := Aside0.mk (HBW.out.trans (hb3.mono HBW.out.size))
                  clear hb3
                  rw [HDD.out]
                  go_wp2_with fail
                  go_roundw
                  case rel =>
                    refine ⟨i + 1, true, by rw [← HIJ.out, wrap_i (by have := HII.out; have h1 := wt_len x; have h2 := HXW.out; omega)], rfl, HII.out, ?_, HBW.out⟩
                    exact (decide_eq_true ⟨i, by omega, by rw [HZ.out]; have h1 := HDD.out; have h2 := HD4.out; omega⟩).symm
                  case measure => rw [← HIJ.out, wrap_i (by have := HII.out; have h1 := wt_len x; have h2 := HXW.out; omega)]; have := HII.out; simp [idx]; try omega
                | false =>
                  have HD4 := Aside0.mk (of_decide_eq_false hd4)
                  go_wp2_with fail
                  refine (deep_calls (Kd.C_below HK1.out HBW.out) HL1.out HWZ.out).mono ?_
                  rintro e w11 ⟨rfl, hb3⟩
                  have HBW := Aside0.mk (HBW.out.trans (hb3.mono HBW.out.size))
                  clear hb3
                  rw [HDD.out]
                  go_wp2_with fail
                  go_roundw
                  case rel =>
                    refine ⟨i + 1, false, by rw [← HIJ.out, wrap_i (by have := HII.out; have h1 := wt_len x; have h2 := HXW.out; omega)], rfl, HII.out, ?_, HBW.out⟩
                    refine (decide_eq_false ?_).symm
                    rintro ⟨j, hj, hd⟩
                    rcases Nat.lt_or_ge j i with h | h
                    · exact of_decide_eq_false HTD.out.symm ⟨j, h, hd⟩
                    · obtain rfl : j = i := by omega
                      rw [HZ.out] at hd
                      have h1 := HDD.out; have h2 := HD4.out; omega
                  case measure => rw [← HIJ.out, wrap_i (by have := HII.out; have h1 := wt_len x; have h2 := HXW.out; omega)]; have := HII.out; simp [idx]; try omega
            · have hi0 : decide ((i : Int) < (x.length : Int)) = false := by simp; omega
              have htt : t = true := by
                rw [HTD.out, ← HTT.out]
                obtain rfl : i = x.length := by have := HI.out; omega
                exact decide_eq_decide.2 (tall_iff x)
              subst htt
              have HB := Aside0.mk (HB.out.trans (HBW.out.mono HB.out.size))
              go_wp2_with fail
              go_ret
              exact ⟨rfl, HB.out⟩

        | false =>
          rw [hre, hrf, if_neg Bool.false_ne_true, if_neg Bool.false_ne_true] at hrd
          clear hre hrf
          refine hrd.mono ?_
          rintro e w10 ⟨A10, c10, rfl, hC10, hc10, hb2⟩
          have HC2 := Aside0.mk (Kd.C_below HC2.out hb2)
          have HC10 := Aside0.mk hC10
          have HB := Aside0.mk (HB.out.trans (hb2.mono HB.out.size))
          clear hb2 hC10 hc10 hrd
          go_wp2_with fail
          have HWX := Aside0.mk (Below.refl w10.heap.size w10)
          go_loopw [15, 16] (fun vt vk wr => ∃ (i : Nat) (t : Bool), vk = .int .i64 i ∧ vt = .bool t ∧ i ≤ x.length ∧ t = decide (∃ j, j < i ∧ 400 ≤ deT (rd_T41 x (j : Int))) ∧ Below w10.heap.size w10 wr) (fun _ vk _ => x.length - idx vk)
          case atStart => exact ⟨0, false, rfl, rfl, Nat.zero_le _, by rw [decide_eq_false]; rintro ⟨j, hj, _⟩; omega, Below.refl _ _⟩
          case round =>
            obtain ⟨i, t, rfl, rfl, hil, htd, hbw⟩ := hrel
            have HI := Aside0.mk hil
            have HTD := Aside0.mk htd
            have HBW := Aside0.mk hbw
            clear hil htd hbw
            by_cases hi : i < x.length
            · have hi0 : decide ((i : Int) < (x.length : Int)) = true := by simp; exact hi
              obtain ⟨ad, A1, c1, rfl, hx0, hx1, hl1, hk1⟩ := at_T41 HC2.out (i : Int) (by omega) (by omega)
              obtain ⟨z, hz⟩ : ∃ z, rd_T41 x (i : Int) = z := ⟨_, rfl⟩
              rw [hz] at hx0 hx1 hl1 hk1
              replace hx0 := (HBW.out.cell (World.block_lt_of_cell? w10 _ hx0)).trans hx0
              replace hx1 := (HBW.out.cell (World.block_lt_of_cell? w10 _ hx1)).trans hx1
              have HZ := Aside0.mk hz
              have HL1 := Aside0.mk hl1
              have HK1 := Aside0.mk hk1
              clear hz hl1 hk1
              obtain ⟨ii, hii⟩ : ∃ ii : Int, (i : Int) = ii := ⟨_, rfl⟩
              rw [hii] at hi0 hx0 hx1 ⊢
              have p1 : (0 ≤ ii) = True := eq_true (by omega)
              have p2 : (ii < (x.length : Int)) = True := eq_true (by omega)
              have HII := Aside0.mk hi
              have HIJ := Aside0.mk hii
              have HWZ : Aside0 (wtT z ≤ 1000000000000) := ⟨by have h1 := wt_mem (rd_mem HII.out); rw [HZ.out] at h1; have h2 := HXW.out; omega⟩
              clear hi hii
              cases t with
              | true =>
                go_wp2_with fail
                go_roundw
                case rel =>
                  refine ⟨i + 1, true, by rw [← HIJ.out, wrap_i (by have := HII.out; have h1 := wt_len x; have h2 := HXW.out; omega)], rfl, HII.out, ?_, HBW.out⟩
                  obtain ⟨j, hj, hd⟩ := of_decide_eq_true HTD.out.symm
                  exact (decide_eq_true ⟨j, by omega, hd⟩).symm
                case measure => rw [← HIJ.out, wrap_i (by have := HII.out; have h1 := wt_len x; have h2 := HXW.out; omega)]; have := HII.out; simp [idx]; try omega
              | false =>
                obtain ⟨dd, hdd⟩ : ∃ dd : Int, ((deT z : Nat) : Int) = dd := ⟨_, rfl⟩
                have HDD := Aside0.mk hdd
                clear hdd
                cases hd4 : decide (400 ≤ dd) with
                | true =>
                  have HD4 := Aside0.mk (of_decide_eq_true hd4)
                  go_wp2_with fail
                  refine (deep_calls (Kd.C_below HK1.out HBW.out) HL1.out HWZ.out).mono ?_
                  rintro e w11 ⟨rfl, hb3⟩
                  have HBW := Aside0.mk (HBW.out.trans (hb3.mono HBW.out.size))
                  clear hb3
                  rw [HDD.out]
                  go_wp2_with fail
                  go_roundw
                  case rel =>
                    refine ⟨i + 1, true, by rw [← HIJ.out, wrap_i (by have := HII.out; have h1 := wt_len x; have h2 := HXW.out; omega)], rfl, HII.out, ?_, HBW.out⟩
                    exact (decide_eq_true ⟨i, by omega, by rw [HZ.out]; have h1 := HDD.out; have h2 := HD4.out; omega⟩).symm
                  case measure => rw [← HIJ.out, wrap_i (by have := HII.out; have h1 := wt_len x; have h2 := HXW.out; omega)]; have := HII.out; simp [idx]; try omega
                | false =>
                  have HD4 := Aside0.mk (of_decide_eq_false hd4)
                  go_wp2_with fail
                  refine (deep_calls (Kd.C_below HK1.out HBW.out) HL1.out HWZ.out).mono ?_
                  rintro e w11 ⟨rfl, hb3⟩
                  have HBW := Aside0.mk (HBW.out.trans (hb3.mono HBW.out.size))
                  clear hb3
                  rw [HDD.out]
                  go_wp2_with fail
                  go_roundw
                  case rel =>
                    refine ⟨i + 1, false, by rw [← HIJ.out, wrap_i (by have := HII.out; have h1 := wt_len x; have h2 := HXW.out; omega)], rfl, HII.out, ?_, HBW.out⟩
                    refine (decide_eq_false ?_).symm
                    rintro ⟨j, hj, hd⟩
                    rcases Nat.lt_or_ge j i with h | h
                    · exact of_decide_eq_false HTD.out.symm ⟨j, h, hd⟩
                    · obtain rfl : j = i := by omega
                      rw [HZ.out] at hd
                      have h1 := HDD.out; have h2 := HD4.out; omega
                  case measure => rw [← HIJ.out, wrap_i (by have := HII.out; have h1 := wt_len x; have h2 := HXW.out; omega)]; have := HII.out; simp [idx]; try omega
            · have hi0 : decide ((i : Int) < (x.length : Int)) = false := by simp; omega
              have htt : t = false := by
                rw [HTD.out, ← HTT.out]
                obtain rfl : i = x.length := by have := HI.out; omega
                exact decide_eq_decide.2 (tall_iff x)
              subst htt
              have HB := Aside0.mk (HB.out.trans (HBW.out.mono HB.out.size))
              obtain ⟨ad0, A11, c11, e0, o0, o1, o2, o3⟩ := at_T41 HC10.out 0 (by decide) (by simp)
              subst e0
              have q0 : wr.cell? ad0 = some (.string ⟨#[]⟩) := (HBW.out.cell (World.block_lt_of_cell? w10 _ o0)).trans o0
              have q1 : wr.cell? ⟨ad0.block, ad0.off + 1, none⟩ = some (.slice A11 x.length c11) := (HBW.out.cell (World.block_lt_of_cell? w10 _ o1)).trans o1
              have O2 := Aside0.mk (show x.length ≤ c11 from o2)
              have O3 := Aside0.mk (show Kd.C k41 w10 A11 x.length x from o3)
              clear o0 o1 o2 o3
              go_wp2_with fail
              refine (equal_calls (Kd.C_below O3.out HBW.out) O2.out (Kd.C_below HC2.out HBW.out) HL2.out HXW.out).mono ?_
              rintro e w12 ⟨rfl, hb2⟩
              have HB := Aside0.mk (HB.out.trans (hb2.mono HB.out.size))
              clear hb2
              go_wp2_with fail
              go_ret
              exact ⟨rfl, HB.out⟩

    | error ka =>
      have HXA := Aside0.mk hxa
      have hka : (ka == 0) = false := by rcases readOut_err hxa with e | e <;> rw [e] <;> rfl
      have hka' : (ka != 0) = true := by rcases readOut_err hxa with e | e <;> rw [e] <;> rfl
      rw [show readE a = ka by unfold readE; rw [hxa], show readF a = [] by unfold readF; rw [hxa]]
      rw [show readF a = [] by unfold readF; rw [hxa]] at HC2 HL2
      have hrd := read_slice ⟨(a.data.toList ++ 10 :: b.data.toList).toArray⟩ m w3 (Nat.lt_of_lt_of_le H0.out HB.out.size) ((HB.out.cell (p := ⟨0, 0, none⟩) H0.out).trans HM.out)
      obtain ⟨L4, hL4⟩ : ∃ L4, readF ⟨(a.data.toList ++ 10 :: b.data.toList).toArray⟩ = L4 := ⟨_, rfl⟩
      obtain ⟨E4, hE4⟩ : ∃ E4, readE ⟨(a.data.toList ++ 10 :: b.data.toList).toArray⟩ = E4 := ⟨_, rfl⟩
      obtain ⟨L3, hL3⟩ : ∃ L3, readF b = L3 := ⟨_, rfl⟩
      obtain ⟨E3, hE3⟩ : ∃ E3, readE b = E3 := ⟨_, rfl⟩
      rw [hL4, hE4] at hrd
      rw [hL3] at HC3 HL3
      rw [hL3, hE3]
      clear hxa hL4 hE4 hL3 hE3
      refine hrd.mono ?_
      rintro e w4 ⟨A4, c4, rfl, hC4, hc4, hb2⟩
      have HC2 := Aside0.mk (Kd.C_below HC2.out hb2)
      have HB := Aside0.mk (HB.out.trans (hb2.mono HB.out.size))
      clear hC4 hc4 hb2 hrd HC3 HL3
      go_wp2_with fail
      rw [cat_more]
      have hmo : readOut ⟨(59 :: 120 :: 40 :: 59 :: 10 :: 32 :: 9 :: (a.data.toList ++ [10, 13, 32])).toArray⟩ = .error ka := (parts_more (by have := HTS.out; omega)).trans HXA.out
      have hrd := read_slice ⟨(59 :: 120 :: 40 :: 59 :: 10 :: 32 :: 9 :: (a.data.toList ++ [10, 13, 32])).toArray⟩ m _ (Nat.lt_of_lt_of_le H0.out HB.out.size) ((HB.out.cell (p := ⟨0, 0, none⟩) H0.out).trans HM.out)
      rw [show readE ⟨(59 :: 120 :: 40 :: 59 :: 10 :: 32 :: 9 :: (a.data.toList ++ [10, 13, 32])).toArray⟩ = ka by unfold readE; rw [hmo], show readF ⟨(59 :: 120 :: 40 :: 59 :: 10 :: 32 :: 9 :: (a.data.toList ++ [10, 13, 32])).toArray⟩ = [] by unfold readF; rw [hmo]] at hrd
      clear hmo
      refine hrd.mono ?_
      rintro e w8 ⟨A8, c8, rfl, hC8, hc8, hb2⟩
      have HC2 := Aside0.mk (Kd.C_below HC2.out hb2)
      have HC8 := Aside0.mk hC8
      have HL8 := Aside0.mk hc8
      have HB := Aside0.mk (HB.out.trans (hb2.mono HB.out.size))
      clear hb2 hC8 hc8 hrd
      go_wp2_with fail
      refine (equal_calls HC8.out HL8.out HC2.out HL2.out (by simp [wtL])).mono ?_
      rintro e w9 ⟨rfl, hb2⟩
      have HB := Aside0.mk (HB.out.trans (hb2.mono HB.out.size))
      clear hb2 HC8 HL8
      go_wp2_with fail
      rw [cat_one]
      have hrd := read_slice ⟨(40 :: (a.data.toList ++ [10, 41])).toArray⟩ m _ (Nat.lt_of_lt_of_le H0.out HB.out.size) ((HB.out.cell (p := ⟨0, 0, none⟩) H0.out).trans HM.out)
      obtain ⟨L10, hL10⟩ : ∃ L10, readF ⟨(40 :: (a.data.toList ++ [10, 41])).toArray⟩ = L10 := ⟨_, rfl⟩
      obtain ⟨E10, hE10⟩ : ∃ E10, readE ⟨(40 :: (a.data.toList ++ [10, 41])).toArray⟩ = E10 := ⟨_, rfl⟩
      rw [hL10, hE10] at hrd
      clear hL10 hE10
      refine hrd.mono ?_
      rintro e w10 ⟨A10, c10, rfl, hC10, hc10, hb2⟩
      have HB := Aside0.mk (HB.out.trans (hb2.mono HB.out.size))
      clear hb2 hC10 hc10 hrd
      go_wp2_with fail
      go_loopw [15, 16] (fun vt vk wr => vk = .int .i64 0 ∧ vt = .bool false ∧ wr = w10) (fun _ _ _ => 0)
      case atStart => exact ⟨rfl, rfl, rfl⟩
      case round =>
        obtain ⟨rfl, rfl, rfl⟩ := hrel
        go_wp2_with fail
        go_ret
        exact ⟨rfl, HB.out⟩
end Go.Proofs.YtmjnodjjnjckiaaDoor

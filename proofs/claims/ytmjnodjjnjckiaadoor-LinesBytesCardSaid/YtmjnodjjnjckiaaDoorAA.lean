/- package spandrellaw30: LinesWrite, walked. -/
import Derived.Test.YtmjnodjjnjckiaaDoorU
import Derived.Test.YtmjnodjjnjckiaaDoorZ
import Derived.Deep.RegionHeld
namespace Go.Proofs.YtmjnodjjnjckiaaDoor
open Go.RowKit Go.Shelf Go.Proofs.YtmjnodjjnjckiaaDoorW.PrintWords PLines

theorem copied_calls {A : Option Addr} {c : Nat} {l : List S41} {w : World} (hr : Kd.C k41 w A l.length l) (hc : l.length ≤ c) (hw : wtL l ≤ 1000000000000) :
    Calls Tryd.prog 14 #[.slice A l.length c] w fun e w' => ∃ A' c', e = .returned (.slice A' l.length c') ∧ Kd.C k41 w' A' l.length l ∧ l.length ≤ c' ∧ Below w.heap.size w w' := by
  obtain ⟨k, hk⟩ := copied_ev _ l (Nat.le_refl _) hw
  refine (spandrellaw30_copied.calls k A c l l w hr hc (hk k (Nat.le_refl _))).mono ?_
  rintro e w' ⟨v, rfl, hR, hb⟩
  obtain ⟨A', c', rfl, hc', hC⟩ := Kd.R_reads hR
  exact ⟨A', c', rfl, hC, hc', hb⟩
theorem turned_calls {A : Option Addr} {c : Nat} {l : List S41} {w : World} (hr : Kd.C k41 w A l.length l) (hc : l.length ≤ c) (hw : wtL l ≤ 1000000000000) :
    Calls Tryd.prog 15 #[.slice A l.length c] w fun e w' => ∃ A' c', e = .returned (.slice A' (tuL l).length c') ∧ Kd.C k44 w' A' (tuL l).length (tuL l) ∧ (tuL l).length ≤ c' ∧ Below w.heap.size w w' := by
  obtain ⟨k, hk⟩ := turned_ev _ l (Nat.le_refl _) hw
  refine (spandrellaw30_turned.calls k A c l (tuL l) w hr hc (hk k (Nat.le_refl _))).mono ?_
  rintro e w' ⟨v, rfl, hR, hb⟩
  obtain ⟨A', c', rfl, hc', hC⟩ := Kd.R_reads hR
  exact ⟨A', c', rfl, hC, hc', hb⟩
theorem rwrite_calls {A : Option Addr} {c : Nat} {l : List S41} {w : World} (hr : Kd.C k44 w A (tuL l).length (tuL l)) (hc : (tuL l).length ≤ c) (hw : wtL l ≤ 1000000000000) :
    Calls Tryd.prog 17 #[.slice A (tuL l).length c] w fun e w' => e = .returned (.tuple #[.string ⟨(writeT l).toArray⟩, .int .i64 (writeE l)]) ∧ Below w.heap.size w w' := by
  obtain ⟨k, hk⟩ := rwrite_ev hw
  exact spandrelref30_Write.calls k A c (tuL l) _ _ w hr hc (hk k (Nat.le_refl _))
theorem same_calls {A A' : Option Addr} {c c' : Nat} {l : List S41} {w : World} (hr : Kd.C k41 w A l.length l) (hc : l.length ≤ c) (hr' : Kd.C k44 w A' (tuL l).length (tuL l)) (hc' : (tuL l).length ≤ c') (hw : wtL l ≤ 1000000000000) :
    Calls Tryd.prog 11 #[.slice A l.length c, .slice A' (tuL l).length c'] w fun e w' => e = .returned (.bool true) ∧ Below w.heap.size w w' := by
  obtain ⟨k, hk⟩ := same_ev _ l (Nat.le_refl _) hw
  exact spandrellaw30_same.calls k A c l A' c' (tuL l) true w hr hc hr' hc' (hk k (Nat.le_refl _))
theorem rdeep_calls {x : S41} {A : Option Addr} {c : Nat} {w : World} (hr : Kd.C k44 w A (tuL x.f1).length (tuL x.f1)) (hc : (tuL x.f1).length ≤ c) (hw : wtT x ≤ 1000000000000) :
    Calls Tryd.prog 19 #[.agg #[.string x.f0, .slice A (tuL x.f1).length c]] w fun e w' => e = .returned (.int .i64 ((deT x : Nat) : Int)) ∧ Below w.heap.size w w' := by
  obtain ⟨k, hk⟩ := rdeep_ev hw
  exact spandrelref30_Deep.calls k x.f0 A c (tuL x.f1) _ w hr hc (hk k (Nat.le_refl _))

set_option maxHeartbeats 4000000 in
set_option maxRecDepth 100000 in
theorem law_write (A : Option Addr) (c : Nat) (l : List S41) (m : Int) (W : World) (hr : Kd.C k41 W A l.length l) (hc : l.length ≤ c) (hw : wtL l ≤ 1000000000000) (h0 : 0 < W.heap.size) (hm : W.cell? ⟨0, 0, none⟩ = some (.int .i64 m)) :
    Calls Tryd.prog 4 #[.slice A l.length c] W fun e W' => e = .returned (.bool true) ∧ Below W.heap.size W W' := by
  obtain ⟨r, hg⟩ := great_calls hr hc hw
  have HR := Aside0.mk hr
  have HC := Aside0.mk hc
  have HW := Aside0.mk hw
  have H0 := Aside0.mk h0
  have HM := Aside0.mk hm
  have HL := Aside0.mk (C_len hr)
  clear hr hc hw h0 hm
  go_enter Tryd.func4, Tryd.ntmps4
  go_wp2_with fail
  refine hg.mono ?_
  rintro e w1 ⟨rfl, hb1⟩
  have HB := Aside0.mk hb1
  clear hb1 hg
  cases r with
  | true =>
    go_wp2_with fail
    refine (awake_calls m _ (Nat.lt_of_lt_of_le H0.out HB.out.size) ((HB.out.cell (p := ⟨0, 0, none⟩) H0.out).trans HM.out)).mono ?_
    rintro e w2 ⟨rfl, hb2⟩
    have HB := Aside0.mk (HB.out.trans (hb2.mono HB.out.size))
    clear hb2
    go_wp2_with fail
    go_ret
    exact ⟨rfl, HB.out⟩
  | false =>
    go_wp2_with fail
    refine (copied_calls (Kd.C_below HR.out HB.out) HC.out HW.out).mono ?_
    rintro e w2 ⟨A2, c2, rfl, hC2, hc2, hb2⟩
    have HC2 := Aside0.mk hC2
    have HL2 := Aside0.mk hc2
    have HB := Aside0.mk (HB.out.trans (hb2.mono HB.out.size))
    clear hC2 hc2 hb2
    go_wp2_with fail
    refine (turned_calls (Kd.C_below HR.out HB.out) HC.out HW.out).mono ?_
    rintro e w3 ⟨A3, c3, rfl, hC3, hc3, hb2⟩
    have HC3 := Aside0.mk hC3
    have HL3 := Aside0.mk hc3
    have HC2 := Aside0.mk (Kd.C_below HC2.out hb2)
    have HB := Aside0.mk (HB.out.trans (hb2.mono HB.out.size))
    clear hC3 hc3 hb2
    go_wp2_with fail
    refine (write_calls A2 c2 l _ HC2.out HL2.out HW.out).mono ?_
    rintro e w4 ⟨rfl, hb2⟩
    have HC3 := Aside0.mk (Kd.C_below HC3.out hb2)
    have HC2 := Aside0.mk (Kd.C_below HC2.out hb2)
    have HB := Aside0.mk (HB.out.trans (hb2.mono HB.out.size))
    clear hb2
    go_wp2_with fail
    refine (rwrite_calls HC3.out HL3.out HW.out).mono ?_
    rintro e w5 ⟨rfl, hb2⟩
    have HC3 := Aside0.mk (Kd.C_below HC3.out hb2)
    have HC2 := Aside0.mk (Kd.C_below HC2.out hb2)
    have HB := Aside0.mk (HB.out.trans (hb2.mono HB.out.size))
    clear hb2
    go_wp2_with fail
    go_loopw [9] (fun v wr => ∃ i : Nat, v = .int .i64 i ∧ i ≤ l.length ∧ Below w5.heap.size w5 wr) (fun v _ => l.length - idx v)
    case atStart => exact ⟨0, rfl, Nat.zero_le _, Below.refl _ _⟩
    case round =>
      obtain ⟨i, rfl, hil, hb⟩ := hrel
      have HI := Aside0.mk hil
      have HWR := Aside0.mk hb
      clear hil hb
      by_cases hi : i < l.length
      · have hi0 : decide ((i : Int) < (l.length : Int)) = true := by simp; exact hi
        have hi1 : decide ((i : Int) < ((tuL l).length : Int)) = true := by rw [tu_len]; exact hi0
        obtain ⟨ad, A4, c4, e4, hx0, hx1, hl4, hk4⟩ := at_T41 HC2.out (i : Int) (by omega) (by omega)
        obtain ⟨ad', A5, c5, e5, hy0, hy1, hl5, hk5⟩ := at_T44 HC3.out (i : Int) (by omega) (by rw [tu_len]; omega)
        rw [rd_tu hi] at hy0 hy1 hl5 hk5
        obtain ⟨x, hx⟩ : ∃ x, rd_T41 l (i : Int) = x := ⟨_, rfl⟩
        rw [hx] at hx0 hx1 hl4 hk4 hy0 hy1 hl5 hk5
        subst e4 e5
        have hwx : wtT x ≤ 1000000000000 := by have h1 := wt_mem (rd_mem hi); rw [hx] at h1; have h2 := HW.out; omega
        obtain ⟨ii, hii⟩ : ∃ ii : Int, (i : Int) = ii := ⟨_, rfl⟩
        rw [hii] at hi0 hi1 hx0 hx1 hy0 hy1 ⊢
        have p1 : (0 ≤ ii) = True := eq_true (by omega)
        have p2 : (ii < (l.length : Int)) = True := eq_true (by omega)
        have p3 : (ii < ((tuL l).length : Int)) = True := eq_true (by rw [tu_len]; omega)
        have HII := Aside0.mk hi
        have HIJ := Aside0.mk hii
        have HK4 := Aside0.mk hk4
        have HL4 := Aside0.mk hl4
        have HK5 := Aside0.mk hk5
        have HL5 := Aside0.mk hl5
        have HWX := Aside0.mk hwx
        clear hi hii hk4 hl4 hk5 hl5 hwx hx
        obtain ⟨dd, hdd⟩ : ∃ dd : Int, ((deT x : Nat) : Int) = dd := ⟨_, rfl⟩
        have HDD := Aside0.mk hdd
        clear hdd
        obtain ⟨S, hS⟩ : ∃ S : World → Prop, S = fun w' => w'.cell? (ad.add (ii.toNat * 2)) = some (.string x.f0) ∧ w'.cell? ⟨(ad.add (ii.toNat * 2)).block, (ad.add (ii.toNat * 2)).off + 1, none⟩ = some (.slice A4 x.f1.length c4) ∧
          w'.cell? (ad'.add (ii.toNat * 2)) = some (.string x.f0) ∧ w'.cell? ⟨(ad'.add (ii.toNat * 2)).block, (ad'.add (ii.toNat * 2)).off + 1, none⟩ = some (.slice A5 (tuL x.f1).length c5) ∧ Below w5.heap.size w5 w' := ⟨_, rfl⟩
        have hstep : ∀ w' : World, Below w5.heap.size w5 w' → S w' := fun w' hb => by
          rw [hS]
          exact ⟨(hb.cell (World.block_lt_of_cell? w5 _ hx0)).trans hx0, (hb.cell (World.block_lt_of_cell? w5 _ hx1)).trans hx1, (hb.cell (World.block_lt_of_cell? w5 _ hy0)).trans hy0, (hb.cell (World.block_lt_of_cell? w5 _ hy1)).trans hy1, hb⟩
        have h18 : ∀ w', S w' → Calls Tryd.prog 18 #[.agg #[.string x.f0, .slice A4 x.f1.length c4]] w' fun e w6 => e = .returned (.int .i64 dd) ∧ S w6 := by
          intro w' hs
          have hb : Below w5.heap.size w5 w' := by rw [hS] at hs; exact hs.2.2.2.2
          refine (deep_calls (Kd.C_below HK4.out hb) HL4.out HWX.out).mono ?_
          rintro e w6 ⟨rfl, hb6⟩
          exact ⟨by rw [HDD.out], hstep _ (hb.trans (hb6.mono hb.size))⟩
        have h19 : ∀ w', S w' → Calls Tryd.prog 19 #[.agg #[.string x.f0, .slice A5 (tuL x.f1).length c5]] w' fun e w6 => e = .returned (.int .i64 dd) ∧ S w6 := by
          intro w' hs
          have hb : Below w5.heap.size w5 w' := by rw [hS] at hs; exact hs.2.2.2.2
          refine (rdeep_calls (x := x) (Kd.C_below HK5.out hb) HL5.out HWX.out).mono ?_
          rintro e w6 ⟨rfl, hb6⟩
          exact ⟨by rw [HDD.out], hstep _ (hb.trans (hb6.mono hb.size))⟩
        have h0S : S wr.drew := hstep _ (HWR.out.trans ((Below.drew (Below.refl _ wr)).mono HWR.out.size))
        rw [hS] at h18 h19 h0S
        have H18 := Aside0.mk h18
        have H19 := Aside0.mk h19
        have H0S := Aside0.mk h0S
        clear hS hstep h18 h19 h0S hx0 hx1 hy0 hy1
        go_wp2_with fail
        go_region_held (fun w' => w'.cell? (ad.add (ii.toNat * 2)) = some (.string x.f0) ∧ w'.cell? ⟨(ad.add (ii.toNat * 2)).block, (ad.add (ii.toNat * 2)).off + 1, none⟩ = some (.slice A4 x.f1.length c4) ∧
          w'.cell? (ad'.add (ii.toNat * 2)) = some (.string x.f0) ∧ w'.cell? ⟨(ad'.add (ii.toNat * 2)).block, (ad'.add (ii.toNat * 2)).off + 1, none⟩ = some (.slice A5 (tuL x.f1).length c5) ∧ Below w5.heap.size w5 w')
          (first | assumption | exact H0S.out)
          (first | (go_at_call 18; refine (H18.out _ (by assumption)).mono ?_; rintro e w6 ⟨rfl, hs6⟩) | (go_at_call 19; refine (H19.out _ (by assumption)).mono ?_; rintro e w6 ⟨rfl, hs6⟩))
        have HB6 := Aside0.mk hs6.2.2.2.2
        clear hs6 H18 H19 H0S
        go_wp2_with fail
        go_roundw
        case rel => exact ⟨i + 1, by rw [← HIJ.out, wrap_i (by have := HII.out; have := HC.out; have := HL.out; omega)], HII.out, HB6.out⟩
        case measure => rw [← HIJ.out, wrap_i (by have := HII.out; have := HC.out; have := HL.out; omega)]; have := HII.out; simp [idx]; try omega
      · have hi0 : decide ((i : Int) < (l.length : Int)) = false := by simp; omega
        have HB := Aside0.mk (HB.out.trans (HWR.out.mono HB.out.size))
        go_wp2_with fail
        refine (same_calls (Kd.C_below HC2.out HWR.out) HL2.out (Kd.C_below HC3.out HWR.out) HL3.out HW.out).mono ?_
        rintro e w7 ⟨rfl, hb2⟩
        have HB := Aside0.mk (HB.out.trans (hb2.mono HB.out.size))
        clear hb2
        go_wp2_with fail
        refine (awake_calls m _ (Nat.lt_of_lt_of_le H0.out HB.out.size) ((HB.out.cell (p := ⟨0, 0, none⟩) H0.out).trans HM.out)).mono ?_
        rintro e w8 ⟨rfl, hb2⟩
        have HB := Aside0.mk (HB.out.trans (hb2.mono HB.out.size))
        clear hb2
        go_wp2_with fail
        go_ret
        exact ⟨rfl, HB.out⟩
end Go.Proofs.YtmjnodjjnjckiaaDoor

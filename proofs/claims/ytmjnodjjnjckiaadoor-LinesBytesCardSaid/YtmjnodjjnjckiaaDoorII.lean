/- LinesRead, walked. -/
import Derived.Test.YtmjnodjjnjckiaaDoorFF
import Derived.Test.YtmjnodjjnjckiaaDoorHH
import Derived.Test.YtmjnodjjnjckiaaDoorAA
namespace Go.Proofs.YtmjnodjjnjckiaaDoor
open Go.RowKit Go.Shelf Go.Proofs.YtmjnodjjnjckiaaDoorW.PrintWords PLines

/-- The document's Read, of any text. -/
theorem rread_calls (s : ByteArray) (W : World) :
    Calls Tryd.prog 10 #[.string s] W fun e W' => ∃ v, e = .returned (.tuple #[v, .int .i64 (readE s)]) ∧ k44.R 44 W' W.heap.size (fun _ => True) v (tuL (readF s)) ∧ Below W.heap.size W W' := by
  by_cases hs : s.size ≤ 262144
  · exact Q44.rread s W hs
  · refine (Q44.rread_big s W (by omega)).mono ?_
    rintro e W' ⟨rfl, rfl⟩
    have hro : readOut s = .error 3 := by unfold readOut; rw [if_neg hs]
    refine ⟨.slice none 0 0, by rw [show readE s = 3 by unfold readE; rw [hro]], ?_, Below.refl _ _⟩
    rw [show readF s = [] by unfold readF; rw [hro]]
    exact Kd.R_nil _ _ _ _ _
theorem readF_wt (s : ByteArray) : wtL (readF s) ≤ 1000000 := by
  unfold readF
  cases h : readOut s with
  | ok m =>
    have h1 := read_wt h
    have h2 : s.size ≤ 262144 := by
      unfold readOut at h
      split at h
      · assumption
      · cases h
    show wtL m ≤ _
    omega
  | error e => show wtL [] ≤ _; simp [wtL]

theorem same_R {B B' : Nat} {ok ok' : Nat → Prop} {a b : Value} {l : List S41} {w : World} (ha : k41.R 41 w B ok a l) (hb : k44.R 44 w B' ok' b (tuL l)) (hw : wtL l ≤ 1000000) :
    Calls Tryd.prog 11 #[a, b] w fun e w' => e = .returned (.bool true) ∧ Below w.heap.size w w' := by
  obtain ⟨A, c, rfl, hc, hC⟩ := Kd.R_reads ha
  obtain ⟨A', c', rfl, hc', hC'⟩ := Kd.R_reads hb
  exact same_calls hC hc hC' hc' (by omega)
/-- What blot leaves alone: whatever does not lie in some blocks. -/
def Spared (lo hi : Nat) (W W' : World) : Prop := ∀ k, k < W.heap.size → (k < lo ∨ hi ≤ k) → W'.heap[k]? = W.heap[k]?
theorem blot_read {W0 w1 w4 : World} {v : Value} {l : List S41} (h : k41.R 41 w1 W0.heap.size (fun _ => True) v l) (hb : Below w1.heap.size w1 w4) :
    Calls Tryd.prog 12 #[v] w4 fun e w' => e = .returned (.tuple #[]) ∧ Below 0 w4 w' ∧ Spared W0.heap.size w1.heap.size w4 w' := by
  have h1 := Kd.R_bound h
  have h2 : k41.R 41 w4 W0.heap.size (fun k => W0.heap.size ≤ k ∧ k < w1.heap.size) v l :=
    Kd.R_mono (Kd.R_move h1 (fun k hk => hb.block k hk.2.2.1)) (fun k hk => ⟨hk.2.1, hk.2.2.1⟩)
  refine (blot_calls _ _ l _ v w4 (Nat.le_refl _) h2).mono ?_
  rintro e w' ⟨rfl, _, hb', hk⟩
  exact ⟨rfl, hb', fun k hk1 hk2 => hk k hk1 (fun h => by omega)⟩
theorem Kd.R_keep {α : Type} {d : Kd α} {t B lo hi : Nat} {W W' : World} {v : Value} {l : List α} (h : d.R t W B (fun _ => True) v l) (hB : hi ≤ B) (hk : Spared lo hi W W') : d.R t W' B (fun _ => True) v l :=
  Kd.R_mono (Kd.R_move (Kd.R_bound h) (fun k hk1 => hk k hk1.2.2.1 (.inr (Nat.le_trans hB hk1.2.1)))) (fun _ _ => trivial)
theorem all_below {W w1 w2 w3 w4 w5 w6 : World} (h1 : Below W.heap.size W w1) (h2 : Below w1.heap.size w1 w2) (h3 : Below w2.heap.size w2 w3) (h4 : Below w3.heap.size w3 w4) (h5 : Below 0 w4 w5) (hk : Spared W.heap.size w1.heap.size w4 w5) (h6 : Below w5.heap.size w5 w6) : Below W.heap.size W w6 := by
  have h14 : Below W.heap.size W w4 := h1.trans ((h2.trans ((h3.trans (h4.mono h3.size)).mono h2.size)).mono h1.size)
  have h45 : Below W.heap.size w4 w5 := ⟨h5.os, h5.tape, h5.output, h5.size, fun k hk1 => hk k (Nat.lt_of_lt_of_le hk1 h14.size) (.inl hk1)⟩
  have h15 := h14.trans h45
  exact h15.trans (h6.mono h15.size)
set_option maxHeartbeats 4000000 in
set_option maxRecDepth 100000 in
theorem law_read (s : ByteArray) (m : Int) (W : World) (h0 : 0 < W.heap.size) (hm : W.cell? ⟨0, 0, none⟩ = some (.int .i64 m)) :
    Calls Tryd.prog 3 #[.string s] W fun e W' => e = .returned (.bool true) ∧ Below W.heap.size W W' := by
  have H0 := Aside0.mk h0
  have HM := Aside0.mk hm
  have hra := read_calls s m W h0 hm
  clear h0 hm
  by_cases hsh : 4000 < s.size ∧ s.size ≤ 262144
  · have hg : decide (4000 < (s.size : Int)) = true := by simp; omega
    have hg2 : decide ((s.size : Int) ≤ 262144) = true := by simp; omega
    clear hsh hra
    go_enter Tryd.func3, Tryd.ntmps3
    go_wp2_with fail
    refine (awake_calls m _ H0.out HM.out).mono ?_
    rintro e w2 ⟨rfl, hb2⟩
    have HB := Aside0.mk hb2
    clear hb2
    go_wp2_with fail
    go_ret
    exact ⟨rfl, HB.out⟩
  · have hor : decide (4000 < (s.size : Int)) = false ∨ (decide (4000 < (s.size : Int)) = true ∧ decide ((s.size : Int) ≤ 262144) = false) := by
      by_cases h4 : 4000 < s.size
      · exact .inr ⟨by simp; omega, by simp; omega⟩
      · exact .inl (by simp; omega)
    have HW := Aside0.mk (readF_wt s)
    clear hsh
    rcases hor with hg | ⟨hg, hg2⟩
    all_goals
      go_enter Tryd.func3, Tryd.ntmps3
      go_wp2_with fail
      refine hra.mono ?_
      rintro e w1 ⟨va, rfl, hRa, hb1⟩
      have HRA := Aside0.mk hRa
      have HB1 := Aside0.mk hb1
      clear hRa hb1 hra
      go_wp2_with fail
      refine (rread_calls s _).mono ?_
      rintro e w2 ⟨vb, rfl, hRb, hb2⟩
      have HRB := Aside0.mk hRb
      have HB2 := Aside0.mk hb2
      clear hRb hb2
      go_wp2_with fail
      refine (read_calls s m _ (Nat.lt_of_lt_of_le H0.out (Nat.le_trans HB1.out.size HB2.out.size)) ((HB2.out.cell (p := ⟨0, 0, none⟩) (Nat.lt_of_lt_of_le H0.out HB1.out.size)).trans ((HB1.out.cell (p := ⟨0, 0, none⟩) H0.out).trans HM.out))).mono ?_
      rintro e w3 ⟨vc, rfl, hRc, hb3⟩
      have HRC := Aside0.mk hRc
      have HB3 := Aside0.mk hb3
      clear hRc hb3
      go_wp2_with fail
      refine (same_R (Kd.R_below HRA.out (HB2.out.trans (HB3.out.mono HB2.out.size))) (Kd.R_below HRB.out HB3.out) HW.out).mono ?_
      rintro e w4 ⟨rfl, hb4⟩
      have HB4 := Aside0.mk hb4
      clear hb4
      go_wp2_with fail
      refine (blot_read HRA.out (HB2.out.trans ((HB3.out.trans (HB4.out.mono HB3.out.size)).mono HB2.out.size))).mono ?_
      rintro e w5 ⟨rfl, hb5, hk5⟩
      have HB5 := Aside0.mk hb5
      have HK5 := Aside0.mk hk5
      clear hb5 hk5
      go_wp2_with fail
      refine (same_R (Kd.R_keep (Kd.R_below HRC.out HB4.out) HB2.out.size HK5.out) (Kd.R_keep (Kd.R_below (Kd.R_below HRB.out HB3.out) HB4.out) (Nat.le_refl _) HK5.out) HW.out).mono ?_
      rintro e w6 ⟨rfl, hb6⟩
      have HB6 := Aside0.mk hb6
      clear hb6
      have HB := Aside0.mk (all_below HB1.out HB2.out HB3.out HB4.out HB5.out HK5.out HB6.out)
      go_wp2_with fail
      refine (awake_calls m _ (Nat.lt_of_lt_of_le H0.out HB.out.size) ((HB.out.cell (p := ⟨0, 0, none⟩) H0.out).trans HM.out)).mono ?_
      rintro e w7 ⟨rfl, hb7⟩
      have HB7 := Aside0.mk (HB.out.trans (hb7.mono HB.out.size))
      clear hb7
      go_wp2_with fail
      go_ret
      exact ⟨rfl, HB7.out⟩
end Go.Proofs.YtmjnodjjnjckiaaDoor

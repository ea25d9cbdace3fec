/- Trees that come in: how they lie, how much they are. -/
import Derived.Test.YtmjnodjjnjckiaaDoorT
import Derived.Test.YtmjnodjjnjckiaaDoorCards
import Derived.Deep.SlicePairs
namespace Go.Proofs.YtmjnodjjnjckiaaDoor
open Go.RowKit Go.Proofs.YtmjnodjjnjckiaaDoorW.PrintWords PLines

theorem pick_list {α : Type} {Q : Nat → α → Prop} : ∀ (n : Nat), (∀ i, i < n → ∃ x, Q i x) → ∃ l : List α, l.length = n ∧ ∀ i x, l[i]? = some x → Q i x
  | 0, _ => ⟨[], rfl, fun i x h => by simp at h⟩
  | n + 1, h => by
    obtain ⟨l, hl, hq⟩ := pick_list n (fun i hi => h i (by omega))
    obtain ⟨x, hx⟩ := h n (by omega)
    refine ⟨l ++ [x], by simp [hl], fun i y hy => ?_⟩
    by_cases hi : i < l.length
    · rw [List.getElem?_append_left hi] at hy; exact hq i y hy
    · have hlt : i < (l ++ [x]).length := (List.getElem?_eq_some_iff.1 hy).1
      have : i = n := by simp at hlt; omega
      subst this
      rw [List.getElem?_append_right (by omega), hl] at hy
      simp at hy
      subst hy; exact hx
theorem wt_sum {H : Type} : ∀ (l : List S41) (D : Nat → DataW H) (k : Nat), (∀ i x, l[i]? = some x → wtT x + 1 ≤ Rows.uptoBulk (D (k + i))) → wtL l ≤ Rows.uptoBulkAll ((List.range' k l.length).map D)
  | [], _, _, _ => by simp [wtL]
  | x :: xs, D, k, h => by
    have h0 := h 0 x rfl
    have h1 := wt_sum xs D (k + 1) (fun i y hy => by have := h (i + 1) y (by simpa using hy); rwa [show k + 1 + i = k + (i + 1) by omega])
    rw [List.length_cons, List.range'_succ, List.map_cons]
    simp only [wtL, Rows.uptoBulkAll]
    simp only [Nat.add_zero] at h0
    omega
theorem bulk_mem {H : Type} {d : DataW H} : ∀ {l : List (DataW H)}, d ∈ l → Rows.uptoBulk d ≤ Rows.uptoBulkAll l
  | x :: r, h => by
    simp only [Rows.uptoBulkAll]
    rcases List.mem_cons.1 h with e | e
    · subst e; omega
    · have := bulk_mem e; omega
theorem open_trees {H : Type} {enc : TypeId × Value → H} {W : World} {base : Nat} {sp : Nat → Bool} {held : Bool} (N : Nat) : ∀ (fuel : Nat) (cs : List Value) (x : DataW H × List MemPlace), Rows.uptoBulk x.1 ≤ N →
    DataW.trod enc Tryd.prog W base sp held fuel 23 cs = some x → ∃ A c l, cs = [.slice A l.length c] ∧ l.length ≤ c ∧ Kd.C k41 W A l.length l ∧ wtL l ≤ Rows.uptoBulk x.1 := by
  induction N with
  | zero =>
    intro fuel cs x hN h
    exfalso
    have h1 : 1 ≤ Rows.uptoBulk x.1 := by
      cases x.1 with
      | lit l => cases l <;> simp [Rows.uptoBulk]
      | _ => simp [Rows.uptoBulk]
    omega
  | succ N ih =>
    intro fuel cs x hN h
    rcases Go.Deep.open_slice_pairs Tryd.underlying23 Tryd.underlying41 (by kernel_rfl) rfl rfl (by kernel_rfl) (by kernel_rfl) h with ⟨rfl, rfl⟩ | ⟨a, len, cap, m, n, V0, V1, D0, D1, P0, P1, rfl, hb, hl, hm, hmm, rfl, hx⟩
    · exact ⟨none, 0, [], rfl, Nat.le_refl _, ⟨rfl, by simp, fun h => by simp at h⟩, by simp [wtL]⟩
    have hlm : len ≤ m := by rw [hmm]; split <;> omega
    have hbulk : ∀ i, i < len → Rows.uptoBulk (DataW.agg [D0 i, D1 i]) ≤ N := by
      intro i hi
      have : DataW.agg [D0 i, D1 i] ∈ (List.range len).map fun i => DataW.agg [D0 i, D1 i] := List.mem_map.2 ⟨i, List.mem_range.2 hi, rfl⟩
      have h1 := bulk_mem this
      simp only [Rows.uptoBulk] at hN h1 ⊢
      omega
    have each : ∀ i, i < len → ∃ y : S41, (∃ A1 c1, V0 i = .string y.f0 ∧ V1 i = .slice A1 y.f1.length c1 ∧ y.f1.length ≤ c1 ∧ Kd.C k41 W A1 y.f1.length y.f1) ∧ wtT y + 1 ≤ Rows.uptoBulk (DataW.agg [D0 i, D1 i]) := by
      intro i hi
      obtain ⟨_, _, g0, g1⟩ := hx i (by omega)
      obtain ⟨s, e0, e1, _⟩ := DataW.trod_string Tryd.underlying9 g0
      have hbi := hbulk i hi
      simp only [Prod.mk.injEq] at e1
      simp only [List.cons.injEq, and_true] at e0
      obtain ⟨A1, c1, ks, e2, hc1, hC, hw⟩ := ih n _ _ (by simp only [Rows.uptoBulk, Rows.uptoBulkAll] at hbi ⊢; omega) g1
      simp only [List.cons.injEq, and_true] at e2
      refine ⟨⟨s, ks⟩, ⟨A1, c1, e0, e2, hc1, hC⟩, ?_⟩
      rw [e1.1]
      have : s.size = s.data.toList.length := rfl
      simp only [Rows.uptoBulk, Rows.uptoBulkAll, wtT] at hw ⊢
      omega
    obtain ⟨l, hlen, hq⟩ := pick_list len each
    subst hlen
    refine ⟨some a, cap, l, rfl, hl, ⟨rfl, by unfold maxLen at hm; omega, fun _ => ⟨a, rfl, fun j p hp => ?_⟩⟩, ?_⟩
    · obtain ⟨⟨A1, c1, e0, e1, hc1, hC⟩, _⟩ := hq j p hp
      have hj : j < l.length := (List.getElem?_eq_some_iff.1 hp).1
      obtain ⟨q0, q1, _, _⟩ := hx j (by omega)
      rw [e0] at q0
      rw [e1] at q1
      refine ⟨[.string p.f0, .slice A1 p.f1.length c1], rfl, k41_mk W p hc1 hC, fun i u hu => ?_⟩
      match i, hu with
      | 0, hu => simp at hu; subst hu; exact q0
      | 1, hu => simp at hu; subst hu; exact q1
    · have := wt_sum l (fun i => DataW.agg [D0 i, D1 i]) 0 (fun i y hy => by rw [Nat.zero_add]; exact (hq i y hy).2)
      rw [← List.range_eq_range'] at this
      simp only [Rows.uptoBulk]
      omega
end Go.Proofs.YtmjnodjjnjckiaaDoor

/- The printed helpers of the law come to an end: great, equal. -/
import Derived.Test.YtmjnodjjnjckiaaDoorR
namespace Go.Proofs.YtmjnodjjnjckiaaDoor
open Go.RowKit Go.Proofs.YtmjnodjjnjckiaaDoorW.PrintWords PLines

theorem succ_of {k n : Nat} (h : n + 1 ≤ k) : ∃ k', k = k' + 1 ∧ n ≤ k' := ⟨k - 1, by omega, by omega⟩
theorem high_loop {l : List S41} (hw : l.length ≤ 1000000000000) (b : Int) (hf : ∀ x ∈ l, ∀ b, ∃ r, Ev (fun k => spandrellaw30_high.f k x.f1 b) r) : ∀ (j i : Nat), i + j = l.length → ∃ r, Ev (fun k => spandrellaw30_high.l0 k l b (i : Int)) r
  | 0, i, h => by
    refine ⟨false, 1, fun k hk => ?_⟩
    obtain ⟨k, rfl, _⟩ := succ_of hk
    simp only [spandrellaw30_high.l0]
    rw [if_neg (by omega)]
  | j + 1, i, h => by
    have hi : i < l.length := by omega
    by_cases hb : b = 0
    · refine ⟨true, 1, fun k hk => ?_⟩
      obtain ⟨k, rfl, _⟩ := succ_of hk
      simp only [spandrellaw30_high.l0]
      rw [if_pos (by omega), if_pos hb]
    · obtain ⟨r1, k1, h1⟩ := hf _ (rd_mem hi) (wrap64 (b - 1))
      obtain ⟨r2, k2, h2⟩ := high_loop hw b hf j (i + 1) (by omega)
      dsimp only at h1 h2
      refine ⟨if r1 = true then true else r2, max k1 k2 + 1, fun k hk => ?_⟩
      obtain ⟨k, rfl, hk⟩ := succ_of hk
      simp only [spandrellaw30_high.l0]
      rw [if_pos (by omega), if_neg hb, if_pos (by omega), h1 k (by omega), Option.bind_some, wrap_i (by omega), h2 k (by omega)]
      split <;> rfl
theorem high_ev (n : Nat) : ∀ l : List S41, SizeOf.sizeOf l ≤ n → wtL l ≤ 1000000000000 → ∀ b, ∃ r, Ev (fun k => spandrellaw30_high.f k l b) r := by
  induction n with
  | zero => intro l h; cases l <;> simp at h
  | succ n ih =>
    intro l h hw b
    have hf : ∀ x ∈ l, ∀ b, ∃ r, Ev (fun k => spandrellaw30_high.f k x.f1 b) r := fun x hx => by
      have h1 := wt_mem hx
      rw [wtT_eq] at h1
      exact ih x.f1 (by have := size41 hx; omega) (by omega)
    obtain ⟨r, k, hk⟩ := high_loop (by have := wt_len l; omega) b hf l.length 0 (by omega)
    refine ⟨r, k + 1, fun k' hk' => ?_⟩
    obtain ⟨k', rfl, hk'⟩ := succ_of hk'
    simpa [spandrellaw30_high.f] using hk k' (by omega)
theorem parts_loop {l : List S41} (hw : l.length ≤ 1000000000000) (b : Int) (hf : ∀ x ∈ l, ∀ b, ∃ r, Ev (fun k => spandrellaw30_parts.f k x.f1 b) r) : ∀ (j i : Nat) (v : Int), i + j = l.length → ∃ r, Ev (fun k => spandrellaw30_parts.l0 k l b v (i : Int)) r
  | 0, i, v, h => by
    refine ⟨v, 1, fun k hk => ?_⟩
    obtain ⟨k, rfl, _⟩ := succ_of hk
    simp only [spandrellaw30_parts.l0]
    rw [if_neg (by omega)]
  | j + 1, i, v, h => by
    have hi : i < l.length := by omega
    by_cases hb : v ≤ b
    · obtain ⟨r1, k1, h1⟩ := hf _ (rd_mem hi) (wrap64 (b - v))
      obtain ⟨r2, k2, h2⟩ := parts_loop hw b hf j (i + 1) (wrap64 ((wrap64 ((wrap64 (v + 1)) + (((rd_T41 l (i : Int)).f0).size : Int))) + r1)) (by omega)
      dsimp only at h1 h2
      refine ⟨r2, max k1 k2 + 1, fun k hk => ?_⟩
      obtain ⟨k, rfl, hk⟩ := succ_of hk
      simp only [spandrellaw30_parts.l0]
      rw [if_pos (by omega), if_pos hb, if_pos (by omega), h1 k (by omega), Option.bind_some, wrap_i (by omega), h2 k (by omega)]
    · refine ⟨v, 1, fun k hk => ?_⟩
      obtain ⟨k, rfl, _⟩ := succ_of hk
      simp only [spandrellaw30_parts.l0]
      rw [if_pos (by omega), if_neg hb]
theorem parts_ev (n : Nat) : ∀ l : List S41, SizeOf.sizeOf l ≤ n → wtL l ≤ 1000000000000 → ∀ b, ∃ r, Ev (fun k => spandrellaw30_parts.f k l b) r := by
  induction n with
  | zero => intro l h; cases l <;> simp at h
  | succ n ih =>
    intro l h hw b
    have hf : ∀ x ∈ l, ∀ b, ∃ r, Ev (fun k => spandrellaw30_parts.f k x.f1 b) r := fun x hx => by
      have h1 := wt_mem hx
      rw [wtT_eq] at h1
      exact ih x.f1 (by have := size41 hx; omega) (by omega)
    obtain ⟨r, k, hk⟩ := parts_loop (by have := wt_len l; omega) b hf l.length 0 0 (by omega)
    refine ⟨r, k + 1, fun k' hk' => ?_⟩
    obtain ⟨k', rfl, hk'⟩ := succ_of hk'
    simpa [spandrellaw30_parts.f] using hk k' (by omega)
theorem great_ev (l : List S41) (hw : wtL l ≤ 1000000000000) : ∃ r, Ev (fun k => spandrellaw30_great.f k l) r := by
  obtain ⟨r1, k1, h1⟩ := high_ev _ l (Nat.le_refl _) hw 500
  obtain ⟨r2, k2, h2⟩ := parts_ev _ l (Nat.le_refl _) hw 4000
  dsimp only at h1 h2
  refine ⟨if r1 = true then true else decide (r2 > 4000), max k1 k2, fun k hk => ?_⟩
  simp only [spandrellaw30_great.f]
  rw [h1 k (by omega), Option.bind_some, h2 k (by omega), Option.bind_some]
  split <;> rfl
theorem equal_loop {l : List S41} (hw : l.length ≤ 1000000000000) (hf : ∀ x ∈ l, Ev (fun k => spandrellaw30_equal.f k x.f1 x.f1) true) : ∀ (j i : Nat), i + j = l.length → Ev (fun k => spandrellaw30_equal.l0 k l l (i : Int)) true
  | 0, i, h => by
    refine ⟨1, fun k hk => ?_⟩
    obtain ⟨k, rfl, _⟩ := succ_of hk
    simp only [spandrellaw30_equal.l0]
    rw [if_neg (by omega)]
  | j + 1, i, h => by
    have hi : i < l.length := by omega
    obtain ⟨k1, h1⟩ := hf _ (rd_mem hi)
    obtain ⟨k2, h2⟩ := equal_loop hw hf j (i + 1) (by omega)
    dsimp only at h1 h2
    refine ⟨max k1 k2 + 1, fun k hk => ?_⟩
    obtain ⟨k, rfl, hk⟩ := succ_of hk
    simp only [spandrellaw30_equal.l0]
    rw [if_pos (by omega), if_pos (by omega), if_pos (by omega), if_pos trivial, h1 k (by omega), Option.bind_some, if_pos rfl, wrap_i (by omega), h2 k (by omega)]
theorem equal_ev (n : Nat) : ∀ l : List S41, SizeOf.sizeOf l ≤ n → wtL l ≤ 1000000000000 → Ev (fun k => spandrellaw30_equal.f k l l) true := by
  induction n with
  | zero => intro l h; cases l <;> simp at h
  | succ n ih =>
    intro l h hw
    have hf : ∀ x ∈ l, Ev (fun k => spandrellaw30_equal.f k x.f1 x.f1) true := fun x hx => by
      have h1 := wt_mem hx
      rw [wtT_eq] at h1
      exact ih x.f1 (by have := size41 hx; omega) (by omega)
    obtain ⟨k, hk⟩ := equal_loop (by have := wt_len l; omega) hf l.length 0 (by omega)
    refine ⟨k + 1, fun k' hk' => ?_⟩
    obtain ⟨k', rfl, hk'⟩ := succ_of hk'
    simp only [spandrellaw30_equal.f]
    rw [if_pos trivial]
    exact hk k' (by omega)
end Go.Proofs.YtmjnodjjnjckiaaDoor

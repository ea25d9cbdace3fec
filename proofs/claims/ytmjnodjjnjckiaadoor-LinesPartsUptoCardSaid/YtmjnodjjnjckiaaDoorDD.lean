/- Rows of trees appended to rows of trees, for reading. -/
import Derived.Test.YtmjnodjjnjckiaaDoorU
namespace Go.Proofs.YtmjnodjjnjckiaaDoor
open Go.RowKit Go.Shelf Go.Proofs.YtmjnodjjnjckiaaDoorW.PrintWords PLines

theorem reps_append {α : Type} {R : α → List Value → Prop} {size : Nat} {ps qs : List α} {cs ds : List Value} (h : Reps R size ps cs) (k : Reps R size qs ds) : Reps R size (ps ++ qs) (cs ++ ds) := by
  refine ⟨by rw [List.length_append, h.1, k.1, List.length_append, Nat.add_mul], fun j q hq => ?_⟩
  rcases Nat.lt_or_ge j ps.length with hj | hj
  · rw [List.getElem?_append_left hj] at hq
    have h1 : j * size + size ≤ cs.length := by rw [h.1, ← Nat.succ_mul]; exact Nat.mul_le_mul_right _ hj
    have h2 := h.2 j q hq
    rw [List.drop_append_of_le_length (by omega), List.take_append_of_le_length (by rw [List.length_drop]; omega)]
    exact h2
  · rw [List.getElem?_append_right hj] at hq
    have h2 := k.2 _ q hq
    obtain ⟨d, rfl⟩ : ∃ d, j = ps.length + d := ⟨j - ps.length, by omega⟩
    rw [Nat.add_sub_cancel_left] at h2
    rw [Nat.add_mul, ← h.1, ← List.drop_drop, List.drop_left]
    exact h2
/-- A row of its own that holds trees, whose kids lie in w0. -/
def GrowAt (w0 w : World) (v : Value) (l : List S41) : Prop := ∃ xs, w.ownsRow w0.heap.size 41 2 v l.length xs ∧ Reps (k41.K w0) 2 l xs ∧ Below w0.heap.size w0 w
theorem reps_one {W : World} {l : List S41} {xs : List Value} (h : Reps (k41.K W) 2 l xs) : ∀ u ∈ xs, u.oneCell' = true := by
  intro u hu
  obtain ⟨i, hi, rfl⟩ := List.getElem_of_mem hu
  have hl := h.1
  have hj : i / 2 < l.length := by omega
  have hp := h.2 (i / 2) _ (List.getElem?_eq_getElem hj)
  refine k41.K_one hp _ ?_
  rw [List.mem_iff_getElem?]
  refine ⟨i % 2, ?_⟩
  rw [List.getElem?_take_of_lt (by omega), List.getElem?_drop, show i / 2 * 2 + i % 2 = i by omega]
  exact List.getElem?_eq_getElem hi
theorem grow_law {w0 w : World} {o : Oper} {a : Act} {K : Act → World → Prop} {Q : Exit → Act → World → Prop} (s x : Operand)
    (ho : o.op = .call { callee := .builtin .append, args := #[s, x], argTypes := #[23, 23] }) (v : Value) (lx l : List S41) (A : Option Addr) (c : Nat)
    (hs : a.eval s = v) (hx : a.eval x = .slice A l.length c) (hv : GrowAt w0 w v lx) (hC : Kd.C k41 w0 A l.length l) (h1 : lx.length ≤ 1000000000) (h2 : l.length ≤ 1000000000)
    (h : ∀ v' w', GrowAt w0 w' v' (lx ++ l) → K (a.put o.dst v') w') : o.wp Tryd.prog a w K Q := by
  obtain ⟨xs, hown, hrep, hb⟩ := hv
  obtain ⟨i0, hi, hz, hsz, hby⟩ := info_parts PLines.info41
  cases A with
  | some ad =>
    obtain ⟨news, hn, hcell⟩ := ReadsRow.inner_ hC
    have hsize : k41.sz = 2 := rfl
    rw [hsize] at hn
    refine wp_append_own w s x 23 ho w0.heap.size 41 i0 (.agg #[.string ⟨#[]⟩, .slice none 0 0]) 2 40 Tryd.underlying23 hi hz hsz hby rfl (by decide) v lx.length xs hs hown ad l.length c news hx hn.1
      (fun j u hu => ?_) (reps_one hn) (by unfold maxLen; omega) (by omega) hb.size ?_
    · have h0 := hcell j u hu
      exact (hb.cell (World.block_lt_of_cell? w0 _ h0)).trans h0
    · intro v' w' hown' hg _
      refine h v' w' ⟨_, by rw [List.length_append]; exact hown', reps_append hrep hn, hb.grown hg hb.size (fun k hk => own_base hown k hk)⟩
  | none =>
    have hl : l = [] := by
      cases l with
      | nil => rfl
      | cons y ys => obtain ⟨ad, e, _⟩ := hC.2.2 (by simp); cases e
    subst hl
    have hnil : ∀ u : World, (Builtin.append_ #[23, 23] o.type #[v, .slice none 0 c]).run Tryd.prog u = .ok v u := by
      intro u
      have u23 := run_underlying Tryd.underlying23
      rcases hown.2 with ⟨rfl, _⟩ | ⟨g, cap, cur, rfl, _, _, hle, _⟩
      · go_simp
      · go_simp
    unfold Oper.wp execOp
    simp only [ho, resolve, invoke, builtin, Sem.run_bind, Sem.run_pure, Result.andThen_ok, List.map_toArray, List.map_cons, List.map_nil, hs, hx]
    have := h v w ⟨xs, by simpa using hown, by simpa using hrep, hb⟩
    simp only [List.length_nil, hnil]
    exact this
theorem wpList_wanted {P : Program} {ops : Array Oper} {Q : Exit → Act → World → Prop} {a : Act} {w : World} {rest : List Oper} {o : Oper} (hw : Region.wanted o (yielded ops a.tmps) = true)
    (h : ∀ K : Act → World → Prop, (∀ a w, wpList P ops Q rest a w → K a w) → o.wp P a w K Q) : wpList P ops Q (o :: rest) a w :=
  wpList_step fun K hK => by rw [if_pos hw]; exact h K hK
theorem GrowAt.new {w0 : World} : GrowAt w0 (w0.alloc (.cells #[] 41)) (.slice (some ⟨w0.heap.size, 0, none⟩) 0 0) [] :=
  ⟨[], ⟨rfl, .inr ⟨w0.heap.size, 0, #[], rfl, Nat.le_refl _, World.alloc_heap_new w0 _, Nat.le_refl _, by decide, rfl, rfl⟩⟩, Reps.none _ _, (Below.refl _ _).alloc (Nat.le_refl _) _⟩
theorem GrowAt.reads {w0 w : World} {v : Value} {l : List S41} (h : GrowAt w0 w v l) : ∃ A c, v = .slice A l.length c ∧ l.length ≤ c ∧ Kd.C k41 w A l.length l := by
  obtain ⟨xs, hown, hrep, hb⟩ := h
  obtain ⟨A, c, e, hr⟩ := own_reads_row hown hrep rfl
  subst e
  refine ⟨A, c, rfl, own_le hown, ?_⟩
  obtain ⟨h1, h2, h3⟩ := hr
  refine ⟨h1, h2, fun hn => ?_⟩
  obtain ⟨ad, e, hh⟩ := h3 hn
  refine ⟨ad, e, fun j p hp => ?_⟩
  obtain ⟨cs, q1, q2, q3⟩ := hh j p hp
  exact ⟨cs, q1, k41.K_below hb q2, q3⟩
end Go.Proofs.YtmjnodjjnjckiaaDoor

/- Trees that are blotted, some of them: rows of trees still. -/
import Derived.Test.YtmjnodjjnjckiaaDoorT
namespace Go.Proofs.YtmjnodjjnjckiaaDoor
open Go.RowKit Go.Proofs.YtmjnodjjnjckiaaDoorW.PrintWords PLines

def blotW : ByteArray := ⟨#[98, 108, 111, 116]⟩
/-- Cells of trees: each tree as it was, or blotted. -/
def BlotC (c c' : Array Value) : Prop := c'.size = c.size ∧ ∀ j, 2 * j + 1 < c.size → (c'[2 * j]? = c[2 * j]? ∧ c'[2 * j + 1]? = c[2 * j + 1]?) ∨ (c'[2 * j]? = some (.string blotW) ∧ c'[2 * j + 1]? = some (.slice none 0 0))
def Blots (W W' : World) : Prop := W.heap.size ≤ W'.heap.size ∧ ∀ (k : Nat) (o : Obj), W.heap[k]? = some o → W'.heap[k]? = some o ∨ ∃ c c' : Array Value, o = Obj.cells c 41 (0, 0) ∧ W'.heap[k]? = some (Obj.cells c' 41 (0, 0)) ∧ BlotC c c'
theorem BlotC.refl (c : Array Value) : BlotC c c := ⟨rfl, fun _ _ => .inl ⟨rfl, rfl⟩⟩
theorem BlotC.trans {a b c : Array Value} (h : BlotC a b) (k : BlotC b c) : BlotC a c := by
  refine ⟨k.1.trans h.1, fun j hj => ?_⟩
  rcases k.2 j (by rw [h.1]; exact hj) with ⟨k1, k2⟩ | hb
  · rcases h.2 j hj with ⟨h1, h2⟩ | ⟨h1, h2⟩
    · exact .inl ⟨k1.trans h1, k2.trans h2⟩
    · exact .inr ⟨k1.trans h1, k2.trans h2⟩
  · exact .inr hb
theorem Blots.refl (W : World) : Blots W W := ⟨Nat.le_refl _, fun _ _ h => .inl h⟩
theorem Blots.trans {W W1 W2 : World} (h : Blots W W1) (k : Blots W1 W2) : Blots W W2 := by
  refine ⟨Nat.le_trans h.1 k.1, fun j o ho => ?_⟩
  rcases h.2 j o ho with h1 | ⟨c, c', rfl, h1, hb⟩
  · exact k.2 j o h1
  · rcases k.2 j _ h1 with k1 | ⟨d, d', e, k1, kb⟩
    · exact .inr ⟨c, c', rfl, k1, hb⟩
    · injection e with e
      subst e
      exact .inr ⟨c, d', rfl, k1, hb.trans kb⟩
theorem Blots.of_below {W W' : World} (h : Below W.heap.size W W') : Blots W W' :=
  ⟨h.size, fun k o ho => .inl ((h.block k (size_of ho)).trans ho)⟩
mutual
/-- How many trees. -/
def cnT : S41 → Nat
  | ⟨_, ks⟩ => 1 + cnL ks
def cnL : List S41 → Nat
  | [] => 0
  | x :: xs => cnT x + cnL xs
end
theorem cnT_eq (x : S41) : cnT x = 1 + cnL x.f1 := by cases x; rfl
theorem cn_mem : ∀ {l : List S41} {x : S41}, x ∈ l → cnT x ≤ cnL l
  | y :: ys, x, h => by
    rcases List.mem_cons.1 h with rfl | h
    · simp [cnL]
    · have := cn_mem h; simp only [cnL]; omega
theorem cn_le : ∀ (l l' : List S41), l'.length = l.length → (∀ (j : Nat) (x y : S41), l[j]? = some x → l'[j]? = some y → cnT y ≤ cnT x) → cnL l' ≤ cnL l
  | [], [], _, _ => Nat.le_refl _
  | x :: xs, y :: ys, hl, h => by
    have h0 := h 0 x y rfl rfl
    have h1 := cn_le xs ys (by simpa using hl) (fun j a b ha hb => h (j + 1) a b (by simpa using ha) (by simpa using hb))
    simp only [cnL]; omega
  | [], _ :: _, hl, _ => by simp at hl
  | _ :: _, [], hl, _ => by simp at hl
theorem pick_same {Q : Nat → S41 → Prop} : ∀ (n : Nat), (∀ i, i < n → ∃ x, Q i x) → ∃ l : List S41, l.length = n ∧ ∀ i x, l[i]? = some x → Q i x
  | 0, _ => ⟨[], rfl, fun i x h => by simp at h⟩
  | n + 1, h => by
    obtain ⟨l, hl, hq⟩ := pick_same n (fun i hi => h i (by omega))
    obtain ⟨x, hx⟩ := h n (by omega)
    refine ⟨l ++ [x], by simp [hl], fun i y hy => ?_⟩
    by_cases hi : i < l.length
    · rw [List.getElem?_append_left hi] at hy; exact hq i y hy
    · have hlt : i < (l ++ [x]).length := (List.getElem?_eq_some_iff.1 hy).1
      have : i = n := by simp at hlt; omega
      subst this
      rw [List.getElem?_append_right (by omega), hl] at hy
      simp at hy
      subst hy; exact hx
theorem two_of {l : List Value} {j : Nat} {a b : Value} (h : (l.drop (j * 2)).take 2 = [a, b]) : l[j * 2]? = some a ∧ l[j * 2 + 1]? = some b := by
  have h0 := congrArg (fun l : List Value => l[0]?) h
  have h1 := congrArg (fun l : List Value => l[1]?) h
  simp only [List.getElem?_take_of_lt (show 0 < 2 by omega), List.getElem?_take_of_lt (show 1 < 2 by omega), List.getElem?_drop] at h0 h1
  exact ⟨by simpa using h0, by simpa using h1⟩
theorem two_mk {l : List Value} {j : Nat} {a b : Value} (h0 : l[j * 2]? = some a) (h1 : l[j * 2 + 1]? = some b) : (l.drop (j * 2)).take 2 = [a, b] := by
  apply List.ext_getElem?
  intro i
  rcases i with _ | _ | i
  · rw [List.getElem?_take_of_lt (by omega), List.getElem?_drop]; simpa using h0
  · rw [List.getElem?_take_of_lt (by omega), List.getElem?_drop]; simpa using h1
  · rw [List.getElem?_eq_none (by rw [List.length_take]; omega)]; simp
theorem blot_rows {B : Nat} {W W' : World} (hb : Blots W W') (N : Nat) : ∀ (l : List S41) (ok : Nat → Prop) (v : Value), cnL l ≤ N → k41.R 41 W B ok v l → ∃ l', k41.R 41 W' B ok v l' ∧ l'.length = l.length ∧ cnL l' ≤ cnL l := by
  induction N using Nat.strongRecOn with
  | _ N ih =>
  intro l ok v hN h
  obtain ⟨hok, inner, hown, hrep⟩ := h
  rcases hown.2 with ⟨rfl, hl0⟩ | ⟨g, cap, cur, rfl, hBg, hg, hle, hcm, hsz, htk⟩
  · have : l = [] := List.length_eq_zero_iff.1 hl0
    subst this
    exact ⟨[], Kd.R_nil _ _ _ _ _, rfl, Nat.le_refl _⟩
  have hsize : k41.sz = 2 := rfl
  rw [hsize] at hsz htk
  obtain ⟨cur', hg', hbc⟩ : ∃ cur', W'.heap[g]? = some (.cells cur' 41 (0, 0)) ∧ BlotC cur cur' := by
    rcases hb.2 g _ hg with h1 | ⟨c, c', e, h1, h2⟩
    · exact ⟨cur, h1, BlotC.refl _⟩
    · injection e with e; subst e; exact ⟨c', h1, h2⟩
  have hM : ∀ j, j < l.length → ∃ y : S41, ∃ v1, cur'.toList[j * 2]? = some (.string y.f0) ∧ cur'.toList[j * 2 + 1]? = some v1 ∧ k41.M W' B (fun k => ok k ∧ some k ≠ (Value.slice (some ⟨g, 0, none⟩) l.length cap).ownBlock) y [.string y.f0, v1] ∧ ∀ x, l[j]? = some x → cnT y ≤ cnT x := by
    intro j hj
    obtain ⟨x, hx⟩ : ∃ x, l[j]? = some x := ⟨_, List.getElem?_eq_getElem hj⟩
    have hm := hrep.2 j x hx
    rw [hsize] at hm
    obtain ⟨v1, e1, hk⟩ := k41_openM hm
    obtain ⟨i0, i1⟩ := two_of e1
    rw [← htk, List.getElem?_take_of_lt (by omega)] at i0 i1
    have hxm : cnT x ≤ cnL l := cn_mem (List.mem_of_getElem? hx)
    rw [cnT_eq] at hxm
    rcases hbc.2 j (by rw [hsz]; omega) with ⟨b0, b1⟩ | ⟨b0, b1⟩
    · obtain ⟨l1, hR, _, hc⟩ := ih (cnL x.f1) (by omega) x.f1 _ v1 (Nat.le_refl _) hk
      refine ⟨⟨x.f0, l1⟩, v1, ?_, ?_, k41_mkM W' B _ ⟨x.f0, l1⟩ hR, fun z hz => ?_⟩
      · rw [Array.getElem?_toList, show j * 2 = 2 * j by omega, b0, ← Array.getElem?_toList, show 2 * j = j * 2 by omega]; exact i0
      · rw [Array.getElem?_toList, show j * 2 + 1 = 2 * j + 1 by omega, b1, ← Array.getElem?_toList, show 2 * j + 1 = j * 2 + 1 by omega]; exact i1
      · rw [hx] at hz; injection hz with hz; subst hz
        rw [cnT_eq x, cnT]; omega
    · refine ⟨⟨blotW, []⟩, .slice none 0 0, ?_, ?_, k41_mkM W' B _ ⟨blotW, []⟩ (Kd.R_nil _ _ _ _ _), fun z hz => ?_⟩
      · rw [Array.getElem?_toList, show j * 2 = 2 * j by omega]; exact b0
      · rw [Array.getElem?_toList, show j * 2 + 1 = 2 * j + 1 by omega]; exact b1
      · rw [cnT_eq z]; simp only [cnT, cnL]; omega
  obtain ⟨l', hl', hq⟩ := pick_same l.length hM
  have hlc : cur'.toList.length = cap * 2 := by rw [Array.length_toList, hbc.1, hsz]
  refine ⟨l', ⟨fun k hk => hok k hk, cur'.toList.take (l.length * 2), ?_, ?_⟩, hl', cn_le l l' hl' (fun j x y hx hy => ?_)⟩
  · refine ⟨by rw [hsize, List.length_take, hlc, hl']; have := Nat.mul_le_mul_right 2 hle; omega, .inr ⟨g, cap, cur', by rw [hl'], hBg, hg', by rw [hl']; exact hle, hcm, by rw [hbc.1, hsize]; exact hsz, by rw [hsize, hl']⟩⟩
  · refine ⟨by rw [hsize, List.length_take, hlc, hl']; have := Nat.mul_le_mul_right 2 hle; omega, fun j y hy => ?_⟩
    obtain ⟨v1, q0, q1, q2, _⟩ := hq j y hy
    have hj : j < l.length := by rw [← hl']; exact (List.getElem?_eq_some_iff.1 hy).1
    rw [hsize]
    have e := two_mk (l := cur'.toList.take (l.length * 2)) (j := j) (a := .string y.f0) (b := v1) (by rw [List.getElem?_take_of_lt (by omega)]; exact q0) (by rw [List.getElem?_take_of_lt (by omega)]; exact q1)
    rw [e]
    exact q2
  · obtain ⟨_, _, _, _, h⟩ := hq j y hy
    exact h x hx
end Go.Proofs.YtmjnodjjnjckiaaDoor

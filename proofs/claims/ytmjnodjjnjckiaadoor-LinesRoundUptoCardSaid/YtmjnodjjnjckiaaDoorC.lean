/- The rows of trees that a reader holds: each in memory of its own. No walk. -/
import Derived.Test.YtmjnodjjnjckiaaDoorB
namespace Go.Proofs.YtmjnodjjnjckiaaDoor
open Go.RowKit Go.Shelf Go.Proofs.YtmjnodjjnjckiaaDoorW.PrintWords PLines

/-- Rows, the last one first; no block is two rows'. -/
def RowsAt (B : Nat) (W : World) : (Nat → Prop) → List Value → List (List S41) → Prop
  | _, [], [] => True
  | ok, u :: us, x :: xs => ∃ ok1 ok2 : Nat → Prop, (∀ k, ok1 k → ok k ∧ ¬ ok2 k) ∧ (∀ k, ok2 k → ok k) ∧ k41.R 41 W B ok1 u x ∧ RowsAt B W ok2 us xs
  | _, _, _ => False

/-- A block of a row of trees. -/
def Blk41 (W : World) (k : Nat) : Prop := k < W.heap.size ∧ ∃ cells, W.heap[k]? = some (.cells cells 41 (0, 0))

theorem RowsAt.mono {B : Nat} {W : World} : ∀ {ok ok' : Nat → Prop} {us : List Value} {xs : List (List S41)}, (∀ k, ok k → ok' k) → RowsAt B W ok us xs → RowsAt B W ok' us xs
  | _, _, [], [], _, _ => trivial
  | _, _, _ :: _, _ :: _, h, ⟨ok1, ok2, h1, h2, h3, h4⟩ => ⟨ok1, ok2, fun k hk => ⟨h k (h1 k hk).1, (h1 k hk).2⟩, fun k hk => h k (h2 k hk), h3, h4⟩
  | _, _, [], _ :: _, _, h => h
  | _, _, _ :: _, [], _, h => h
theorem RowsAt.length {B : Nat} {W : World} : ∀ {ok : Nat → Prop} {us : List Value} {xs : List (List S41)}, RowsAt B W ok us xs → us.length = xs.length
  | _, [], [], _ => rfl
  | _, _ :: _, _ :: _, ⟨_, _, _, _, _, h4⟩ => by simp [RowsAt.length h4]
  | _, [], _ :: _, h => h.elim
  | _, _ :: _, [], h => h.elim
theorem R41_bound {B : Nat} {W : World} {ok : Nat → Prop} {u : Value} {x : List S41} (h : k41.R 41 W B ok u x) : k41.R 41 W B (fun k => ok k ∧ Blk41 W k) u x := by
  refine Kd.R_mono (Kd.R_bound h) fun k hk => ⟨hk.1, hk.2.2.1, ?_⟩
  obtain ⟨q, hq, cells, hc⟩ := hk.2.2.2
  have : q = 41 := by
    have hE : ∀ q, q ∈ (41 :: k41.E) → q = 41 := by intro q hq; simp [k41, Kd.fix] at hq; exact hq
    exact hE q hq
  subst this
  exact ⟨cells, hc⟩
theorem M41_bound {B : Nat} {W : World} {ok : Nat → Prop} {p : S41} {cs : List Value} (h : k41.M W B ok p cs) : k41.M W B (fun k => ok k ∧ Blk41 W k) p cs := by
  refine k41.M_mono (fun k hk => ⟨hk.1, hk.2.2.1, ?_⟩) (k41.M_bound h)
  obtain ⟨q, hq, cells, hc⟩ := hk.2.2.2
  have : q = 41 := by
    have hE : ∀ q, q ∈ k41.E → q = 41 := by intro q hq; simp [k41, Kd.fix] at hq; exact hq
    exact hE q hq
  subst this
  exact ⟨cells, hc⟩
theorem RowsAt.bound {B : Nat} {W : World} : ∀ {ok : Nat → Prop} {us : List Value} {xs : List (List S41)}, RowsAt B W ok us xs → RowsAt B W (fun k => ok k ∧ Blk41 W k) us xs
  | _, [], [], _ => trivial
  | _, _ :: _, _ :: _, ⟨ok1, ok2, h1, h2, h3, h4⟩ => ⟨fun k => ok1 k ∧ Blk41 W k, fun k => ok2 k ∧ Blk41 W k, fun k hk => ⟨⟨(h1 k hk.1).1, hk.2⟩, fun h => (h1 k hk.1).2 h.1⟩, fun k hk => ⟨h2 k hk.1, hk.2⟩, R41_bound h3, h4.bound⟩
  | _, [], _ :: _, h => h.elim
  | _, _ :: _, [], h => h.elim
theorem RowsAt.move {B : Nat} {W W' : World} : ∀ {ok : Nat → Prop} {us : List Value} {xs : List (List S41)}, RowsAt B W ok us xs → (∀ k, ok k → W'.heap[k]? = W.heap[k]?) → RowsAt B W' ok us xs
  | _, [], [], _, _ => trivial
  | _, _ :: _, _ :: _, ⟨ok1, ok2, h1, h2, h3, h4⟩, hm => ⟨ok1, ok2, h1, h2, Kd.R_move h3 (fun k hk => hm k (h1 k hk).1), h4.move (fun k hk => hm k (h2 k hk))⟩
  | _, [], _ :: _, h, _ => h.elim
  | _, _ :: _, [], h, _ => h.elim
/-- Blocks of rows of trees lie as they lay: so do the rows. -/
theorem RowsAt.step {B : Nat} {W W' : World} {ok : Nat → Prop} {us : List Value} {xs : List (List S41)} (h : RowsAt B W ok us xs) (hm : ∀ k, ok k → Blk41 W k → W'.heap[k]? = W.heap[k]?) : RowsAt B W' ok us xs :=
  (h.bound.move (fun k hk => hm k hk.1 hk.2)).mono (fun _ hk => hk.1)

/-- A row grows by a tree. -/
theorem R41_put {B go n : Nat} {curo : Array Value} {u : Value} {x : List S41} {inner : List Value} {s kv : Value} {p : S41} {ok1 okp : Nat → Prop} {W W' : World}
    (hgo : ∃ cells, W.heap[go]? = some (.cells cells 23 (0, 0)))
    (hu : ∀ k, u.ownBlock = some k → ok1 k) (hr : Reps (k41.M W B (fun k => ok1 k ∧ some k ≠ u.ownBlock)) 2 x inner)
    (hp : k41.M W B okp p [s, kv]) (hdis : ∀ k, okp k → ¬ ok1 k)
    (hpost : PutPost B go n x.length curo u inner s kv W W') :
    ∃ v1, k41.R 41 W' B (fun k => ok1 k ∨ okp k ∨ W.heap.size ≤ k) v1 (x ++ [p]) ∧ W'.heap[go]? = some (.cells (curo.setIfInBounds n v1) 23 (0, 0)) := by
  obtain ⟨v1, hown, hgo', hkeep, hat, hne, hb⟩ := hpost
  obtain ⟨cgo, hgo⟩ := hgo
  have hbu : ∀ k, u.ownBlock = some k → ¬ okp k := fun k hk h => hdis k h (hu k hk)
  have hsame : ∀ k, Blk41 W k → some k ≠ u.ownBlock → W'.heap[k]? = W.heap[k]? := fun k hk hku => hkeep k hk.1 (by
    rintro rfl
    obtain ⟨c, hc⟩ := hk.2
    rw [hgo] at hc; injection hc with hc; injection hc with _ hc; cases hc) hku
  have hv1 : ∀ k, some k ≠ u.ownBlock → k < W.heap.size → some k ≠ v1.ownBlock := by
    intro k hk hlt
    rcases hat with h | ⟨b, h, hbb⟩
    · rw [h]; exact hk
    · rw [h]; intro e; injection e with e; omega
  have stepM : ∀ {q : S41} {c : List Value} {o : Nat → Prop}, k41.M W B o q c → (∀ k, o k → (ok1 k ∨ okp k) ∧ some k ≠ u.ownBlock) →
      k41.M W' B (fun k => (ok1 k ∨ okp k ∨ W.heap.size ≤ k) ∧ some k ≠ v1.ownBlock) q c := by
    intro q c o hq ho
    have h1 := k41.M_move (w1 := W') (fun k hk => hsame k hk.2 (ho k hk.1).2) (M41_bound hq)
    exact k41.M_mono (fun k hk => ⟨(ho k hk.1).1.elim .inl (fun h => .inr (.inl h)), hv1 k (ho k hk.1).2 hk.2.1⟩) h1
  refine ⟨v1, ⟨fun k hk => ?_, inner ++ [s, kv], by rw [List.length_append]; exact hown, ?_⟩, hgo'⟩
  · rcases hat with h | ⟨b, h, hbb⟩
    · exact .inl (hu k (h ▸ hk))
    · rw [h] at hk; injection hk with hk; exact .inr (.inr (by omega))
  · exact (hr.imp_ (fun _ _ hq => stepM hq (fun k hk => ⟨.inl hk.1, hk.2⟩))).snoc (stepM hp (fun k hk => ⟨.inr hk, fun e => hbu k e.symm hk⟩)) rfl

/-- A reader: its struct, the slice of its rows, the rows. -/
def ReaderAt (B Br : Nat) (W : World) (st : List (List S41)) : Prop :=
  B ≤ Br ∧ ∃ v us ok, W.heap[Br]? = some (.cells #[v] 60 (0, 0)) ∧ W.ownsRow B 23 1 v st.length us.reverse ∧ RowsAt B W ok us st
theorem ReaderAt.step {B Br : Nat} {W W' : World} {st : List (List S41)} (h : ReaderAt B Br W st)
    (hm : ∀ k, B ≤ k → k < W.heap.size → (∃ c e, (e = 60 ∨ e = 23 ∨ e = 41) ∧ W.heap[k]? = some (.cells c e (0, 0))) → W'.heap[k]? = W.heap[k]?) : ReaderAt B Br W' st := by
  obtain ⟨hB, v, us, ok, h1, h2, h3⟩ := h
  refine ⟨hB, v, us, fun k => ok k ∧ B ≤ k, (hm Br hB (Array.getElem?_eq_some_iff.1 h1).1 ⟨_, 60, .inl rfl, h1⟩).trans h1, ?_, ?_⟩
  · refine own_move h2 fun k hk => ?_
    obtain ⟨c, hc⟩ := own_typed h2 k hk
    exact hm k (own_base h2 k hk) (own_lt h2 k hk) ⟨c, 23, .inr (.inl rfl), hc⟩
  · have lift : ∀ {ok : Nat → Prop} {us : List Value} {xs : List (List S41)}, RowsAt B W ok us xs → RowsAt B W' (fun k => ok k ∧ B ≤ k) us xs := by
      intro ok us
      induction us generalizing ok with
      | nil => intro xs h; cases xs with
        | nil => trivial
        | cons => exact h
      | cons u us ih =>
        intro xs h
        cases xs with
        | nil => exact h
        | cons x xs =>
          obtain ⟨ok1, ok2, g1, g2, g3, g4⟩ := h
          refine ⟨fun k => ok1 k ∧ B ≤ k, fun k => ok2 k ∧ B ≤ k, fun k hk => ⟨⟨(g1 k hk.1).1, hk.2⟩, fun h => (g1 k hk.1).2 h.1⟩, fun k hk => ⟨g2 k hk.1, hk.2⟩, ?_, ih g4⟩
          have hb := Kd.R_bound g3
          refine Kd.R_mono (Kd.R_move hb fun k hk => ?_) (fun k hk => ⟨hk.1, hk.2.1⟩)
          obtain ⟨q, hq, cells, hc⟩ := hk.2.2.2
          have hE : ∀ q, q ∈ (41 :: k41.E) → q = 41 := by intro q hq; simp [k41, Kd.fix] at hq; exact hq
          exact hm k hk.2.1 hk.2.2.1 ⟨cells, q, .inr (.inr (hE q hq)), hc⟩
    exact lift h3
theorem ReaderAt.below {B Br : Nat} {W W' : World} {st : List (List S41)} (h : ReaderAt B Br W st) (hb : Below W.heap.size W W') : ReaderAt B Br W' st :=
  h.step fun k _ hk _ => hb.block k hk
end Go.Proofs.YtmjnodjjnjckiaaDoor

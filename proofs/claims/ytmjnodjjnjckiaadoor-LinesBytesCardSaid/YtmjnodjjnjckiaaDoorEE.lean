/- The rows of the document's trees: as the program's, at the document's types. -/
import Derived.Test.YtmjnodjjnjckiaaDoorE
import Derived.Test.YtmjnodjjnjckiaaDoorBB
namespace Go.Proofs.YtmjnodjjnjckiaaDoor.Q44
open Go.Proofs.YtmjnodjjnjckiaaDoor PLines
open Go.RowKit Go.Shelf Go.Proofs.YtmjnodjjnjckiaaDoorW.PrintWords

/-- Behind the append of a zero tree: where it lies. -/
theorem put_mid {B go n m cu : Nat} {curo : Array Value} {Au : Option Addr} {inner : List Value} {W1 w1 : World} {v1 : Value}
    (hgo : W1.heap[go]? = some (.cells curo 27 (0, 0))) (hcu : curo[n]? = some (.slice Au m cu)) (hne : some go ≠ (Value.slice Au m cu).ownBlock)
    (hil : inner.length = m * 2)
    (hown1 : w1.ownsRow B 44 2 v1 (m + 1) (inner ++ [.string ⟨#[]⟩, .slice none 0 0])) (hg1 : W1.grownBy w1 (Value.slice Au m cu).ownBlock)
    (hat1 : v1.ownBlock = (Value.slice Au m cu).ownBlock ∨ ∃ b, v1.ownBlock = some b ∧ W1.heap.size ≤ b) :
    ∃ g1 cap1 cur1, v1 = .slice (some ⟨g1, 0, none⟩) (m + 1) cap1 ∧ B ≤ g1 ∧ g1 ≠ go ∧ w1.heap[g1]? = some (.cells cur1 44 (0, 0)) ∧ m + 1 ≤ cap1 ∧ cap1 ≤ maxLen ∧ cur1.size = cap1 * 2 ∧ cur1.toList.take (m * 2) = inner ∧
      w1.heap[go]? = some (.cells curo 27 (0, 0)) ∧ (some g1 = (Value.slice Au m cu).ownBlock ∨ W1.heap.size ≤ g1) ∧
      (w1.cell? ⟨go, n, none⟩ = some (.slice Au m cu) ∧ w1.frozen? ⟨go, n, none⟩ = false ∧
      w1.cell? ⟨g1, m * 2, none⟩ = some (.string ⟨#[]⟩) ∧ w1.cell? ⟨g1, m * 2 + 1, none⟩ = some (.slice none 0 0) ∧ w1.frozen? ⟨g1, m * 2, none⟩ = false ∧ w1.frozen? ⟨g1, m * 2 + 1, none⟩ = false) := by
  obtain ⟨g1, cap1, cur1, hv1, hBg1, hh1, hn1, hm1, hz1, ht1⟩ := hown1.2.resolve_left (by omega)
  subst hv1
  have hgoS : go < W1.heap.size := (Array.getElem?_eq_some_iff.1 hgo).1
  have hgne : g1 ≠ go := by
    rcases hat1 with h | ⟨b, h, hb⟩
    · intro e; subst e; exact hne (by rw [← h]; rfl)
    · simp [Value.ownBlock] at h; omega
  have hgo1 : w1.heap[go]? = some (.cells curo 27 (0, 0)) := (hg1.block go hgoS hne).trans hgo
  have hl : ∀ j, j < (m + 1) * 2 → cur1[j]? = (inner ++ [.string ⟨#[]⟩, .slice none 0 0])[j]? := fun j hj => by
    rw [← ht1, List.getElem?_take_of_lt hj, Array.getElem?_toList]
  have e0 : cur1[m * 2]? = some (.string ⟨#[]⟩) := by rw [hl _ (by omega), ← hil]; simp
  have e1 : cur1[m * 2 + 1]? = some (.slice none 0 0) := by rw [hl _ (by omega), ← hil]; simp
  refine ⟨g1, cap1, cur1, rfl, hBg1, hgne, hh1, hn1, hm1, hz1, ?_, hgo1, ?_, ?_, ?_, ?_, ?_, ?_, ?_⟩
  · have := congrArg (List.take (m * 2)) ht1
    rw [List.take_take, Nat.min_eq_left (by omega)] at this
    rw [this, ← hil, List.take_left']
    rfl
  · rcases hat1 with h | ⟨b, h, hb⟩
    · exact .inl (by rw [← h]; rfl)
    · simp [Value.ownBlock] at h; exact .inr (by omega)
  · simp [World.cell?, hgo1, hcu]
  · simp [World.frozen?, hgo1]
  · simp [World.cell?, hh1, e0]
  · simp [World.cell?, hh1, e1]
  · simp [World.frozen?, hh1]
  · simp [World.frozen?, hh1]

/-- What put leaves: the row has one tree more; its header lies in its place; whatever else there was lies as it lay. -/
def PutPost (B go n m : Nat) (curo : Array Value) (u : Value) (inner : List Value) (s k : Value) (W W' : World) : Prop :=
  ∃ v1, W'.ownsRow B 44 2 v1 (m + 1) (inner ++ [s, k]) ∧ W'.heap[go]? = some (.cells (curo.setIfInBounds n v1) 27 (0, 0)) ∧
    (∀ k, k < W.heap.size → k ≠ go → some k ≠ u.ownBlock → W'.heap[k]? = W.heap[k]?) ∧ (v1.ownBlock = u.ownBlock ∨ ∃ b, v1.ownBlock = some b ∧ W.heap.size ≤ b) ∧ some go ≠ v1.ownBlock ∧ Below 0 W W'

theorem put_end {B go n m cu g1 cap1 : Nat} {curo cur1 : Array Value} {Au : Option Addr} {inner : List Value} {s k : Value} {o1 : Obj} {W W1 w1 w2 : World}
    (hW1 : W.alloc o1 = W1) (hil : inner.length = m * 2) (hBg : B ≤ g1) (hne : g1 ≠ go) (hn1 : m + 1 ≤ cap1) (hm1 : cap1 ≤ maxLen) (hz : cur1.size = cap1 * 2) (ht : cur1.toList.take (m * 2) = inner)
    (hg : W1.drew.grownBy w1 (Value.slice Au m cu).ownBlock) (hat : some g1 = (Value.slice Au m cu).ownBlock ∨ W1.drew.heap.size ≤ g1)
    (hA : w2.heap[g1]? = some (.cells ((cur1.setIfInBounds (m * 2) s).setIfInBounds (m * 2 + 1) k) 44 (0, 0)))
    (hB : w2.heap[go]? = some (.cells (curo.setIfInBounds n (.slice (some ⟨g1, 0, none⟩) (m + 1) cap1)) 27 (0, 0)))
    (hC : ∀ j, j ≠ g1 → j ≠ go → w2.heap[j]? = w1.heap[j]?) (hD : Below 0 w1 w2) : PutPost B go n m curo (.slice Au m cu) inner s k W w2 := by
  have hsz : W1.heap.size = W.heap.size + 1 := by rw [← hW1]; simp
  refine ⟨.slice (some ⟨g1, 0, none⟩) (m + 1) cap1, ⟨by simp [hil]; omega, .inr ⟨g1, cap1, _, rfl, hBg, hA, hn1, hm1, by simp [hz], ?_⟩⟩, hB, ?_, ?_, ?_, ?_⟩
  · have hl : cur1.toList.length = cap1 * 2 := by simp [hz]
    rw [Array.toList_setIfInBounds, Array.toList_setIfInBounds]
    apply List.ext_getElem?
    intro j
    rw [List.getElem?_take]
    split
    · rename_i hj
      rw [List.getElem?_set, List.getElem?_set]
      by_cases h1 : m * 2 + 1 = j
      · rw [if_pos h1, if_pos (by simp [hz]; omega), List.getElem?_append_right (by omega), ← h1, hil]; simp
      · rw [if_neg h1]
        by_cases h0 : m * 2 = j
        · rw [if_pos h0, if_pos (by omega), List.getElem?_append_right (by omega), ← h0, hil]; simp
        · rw [if_neg h0, List.getElem?_append_left (by omega), ← ht, List.getElem?_take_of_lt (by omega)]
    · rw [List.getElem?_eq_none]; simp; omega
  · intro j hj hjo hju
    by_cases hj1 : j = g1
    · subst hj1
      rcases hat with h | h
      · exact absurd h hju
      · simp at h; omega
    · rw [hC j hj1 hjo, hg.block j (by simp; omega) hju, ← hW1]
      exact Below.heap_alloc _ _ _ hj
  · rcases hat with h | h
    · exact .inl h
    · exact .inr ⟨g1, rfl, by simp at h; omega⟩
  · simp only [Value.ownBlock]; intro e; injection e with e; exact hne e.symm
  · refine Below.trans (b := w1) ?_ hD
    exact ⟨hg.os.trans (by rw [← hW1]; rfl), hg.tape.trans (by rw [← hW1]; rfl), hg.output.trans (by rw [← hW1]; rfl), Nat.le_trans (by simp; omega) hg.size, fun _ h => absurd h (by omega)⟩

theorem put_endA {B go n m cu g1 cap1 : Nat} {curo cur1 : Array Value} {Au : Option Addr} {inner : List Value} {s k : Value} {o1 : Obj} {W W1 w1 : World}
    (hW1 : W.alloc o1 = W1) (hil : inner.length = m * 2) (hBg : B ≤ g1) (hne : g1 ≠ go) (hn1 : m + 1 ≤ cap1) (hm1 : cap1 ≤ 2 ^ 63 - 1) (hz : cur1.size = cap1 * 2) (ht : cur1.toList.take (m * 2) = inner)
    (hg : W1.drew.grownBy w1 (Value.slice Au m cu).ownBlock) (hat : some g1 = (Value.slice Au m cu).ownBlock ∨ W1.drew.heap.size ≤ g1)
    (hh : w1.heap[g1]? = some (.cells cur1 44 (0, 0))) (ho : w1.heap[go]? = some (.cells curo 27 (0, 0))) :
    PutPost B go n m curo (.slice Au m cu) inner s k W (((w1.setCell ⟨g1, m * 2, none⟩ s).setCell ⟨g1, m * 2 + 1, none⟩ k).setCell ⟨go, n, none⟩ (.slice (some ⟨g1, 0, none⟩) (m + 1) cap1)) :=
  put_end hW1 hil hBg hne hn1 hm1 hz ht hg hat (blk_far (blk_set (blk_set hh _ _) _ _) hne _) (blk_set (blk_far (blk_far ho hne.symm _) hne.symm _) _ _)
    (fun _ h1 h2 => (Below.heap_setCell _ _ _ _ h2).trans ((Below.heap_setCell _ _ _ _ h1).trans (Below.heap_setCell _ _ _ _ h1)))
    ((((Below.refl 0 _).setCell (Nat.zero_le _) _).setCell (Nat.zero_le _) _).setCell (Nat.zero_le _) _)
theorem put_endB {B go n m cu g1 cap1 : Nat} {curo cur1 : Array Value} {Au : Option Addr} {inner : List Value} {s k : Value} {o1 : Obj} {W W1 w1 : World}
    (hW1 : W.alloc o1 = W1) (hil : inner.length = m * 2) (hBg : B ≤ g1) (hne : g1 ≠ go) (hn1 : m + 1 ≤ cap1) (hm1 : cap1 ≤ 2 ^ 63 - 1) (hz : cur1.size = cap1 * 2) (ht : cur1.toList.take (m * 2) = inner)
    (hg : W1.drew.grownBy w1 (Value.slice Au m cu).ownBlock) (hat : some g1 = (Value.slice Au m cu).ownBlock ∨ W1.drew.heap.size ≤ g1)
    (hh : w1.heap[g1]? = some (.cells cur1 44 (0, 0))) (ho : w1.heap[go]? = some (.cells curo 27 (0, 0))) :
    PutPost B go n m curo (.slice Au m cu) inner s k W (((w1.setCell ⟨go, n, none⟩ (.slice (some ⟨g1, 0, none⟩) (m + 1) cap1)).setCell ⟨g1, m * 2, none⟩ s).setCell ⟨g1, m * 2 + 1, none⟩ k) :=
  put_end hW1 hil hBg hne hn1 hm1 hz ht hg hat (blk_set (blk_set (blk_far hh hne _) _ _) _ _) (blk_far (blk_far (blk_set ho _ _) hne.symm _) hne.symm _)
    (fun _ h1 h2 => (Below.heap_setCell _ _ _ _ h1).trans ((Below.heap_setCell _ _ _ _ h1).trans (Below.heap_setCell _ _ _ _ h2)))
    ((((Below.refl 0 _).setCell (Nat.zero_le _) _).setCell (Nat.zero_le _) _).setCell (Nat.zero_le _) _)
theorem put_endAB {B go n m cu g1 cap1 : Nat} {curo cur1 : Array Value} {Au : Option Addr} {inner : List Value} {s k : Value} {o1 : Obj} {W W1 w1 w2 : World}
    (hW1 : W.alloc o1 = W1) (hil : inner.length = m * 2) (hBg : B ≤ g1) (hne : g1 ≠ go) (hn1 : m + 1 ≤ cap1) (hm1 : cap1 ≤ 2 ^ 63 - 1) (hz : cur1.size = cap1 * 2) (ht : cur1.toList.take (m * 2) = inner)
    (hg : W1.drew.grownBy w1 (Value.slice Au m cu).ownBlock) (hat : some g1 = (Value.slice Au m cu).ownBlock ∨ W1.drew.heap.size ≤ g1)
    (hh : w1.heap[g1]? = some (.cells cur1 44 (0, 0))) (ho : w1.heap[go]? = some (.cells curo 27 (0, 0))) 
    (hw : w2 = ((w1.setCell ⟨g1, m * 2, none⟩ s).setCell ⟨g1, m * 2 + 1, none⟩ k).setCell ⟨go, n, none⟩ (.slice (some ⟨g1, 0, none⟩) (m + 1) cap1) ∨ w2 = ((w1.setCell ⟨go, n, none⟩ (.slice (some ⟨g1, 0, none⟩) (m + 1) cap1)).setCell ⟨g1, m * 2, none⟩ s).setCell ⟨g1, m * 2 + 1, none⟩ k) :
    PutPost B go n m curo (.slice Au m cu) inner s k W w2 := by
  rcases hw with rfl | rfl
  · exact put_endA hW1 hil hBg hne hn1 hm1 hz ht hg hat hh ho
  · exact put_endB hW1 hil hBg hne hn1 hm1 hz ht hg hat hh ho
/-- Rows, the last one first; no block is two rows'. -/
def RowsAt (B : Nat) (W : World) : (Nat → Prop) → List Value → List (List S44) → Prop
  | _, [], [] => True
  | ok, u :: us, x :: xs => ∃ ok1 ok2 : Nat → Prop, (∀ k, ok1 k → ok k ∧ ¬ ok2 k) ∧ (∀ k, ok2 k → ok k) ∧ k44.R 44 W B ok1 u x ∧ RowsAt B W ok2 us xs
  | _, _, _ => False

/-- A block of a row of trees. -/
def Blk44 (W : World) (k : Nat) : Prop := k < W.heap.size ∧ ∃ cells, W.heap[k]? = some (.cells cells 44 (0, 0))

theorem RowsAt.mono {B : Nat} {W : World} : ∀ {ok ok' : Nat → Prop} {us : List Value} {xs : List (List S44)}, (∀ k, ok k → ok' k) → RowsAt B W ok us xs → RowsAt B W ok' us xs
  | _, _, [], [], _, _ => trivial
  | _, _, _ :: _, _ :: _, h, ⟨ok1, ok2, h1, h2, h3, h4⟩ => ⟨ok1, ok2, fun k hk => ⟨h k (h1 k hk).1, (h1 k hk).2⟩, fun k hk => h k (h2 k hk), h3, h4⟩
  | _, _, [], _ :: _, _, h => h
  | _, _, _ :: _, [], _, h => h
theorem RowsAt.length {B : Nat} {W : World} : ∀ {ok : Nat → Prop} {us : List Value} {xs : List (List S44)}, RowsAt B W ok us xs → us.length = xs.length
  | _, [], [], _ => rfl
  | _, _ :: _, _ :: _, ⟨_, _, _, _, _, h4⟩ => by simp [RowsAt.length h4]
  | _, [], _ :: _, h => h.elim
  | _, _ :: _, [], h => h.elim
theorem R44_bound {B : Nat} {W : World} {ok : Nat → Prop} {u : Value} {x : List S44} (h : k44.R 44 W B ok u x) : k44.R 44 W B (fun k => ok k ∧ Blk44 W k) u x := by
  refine Kd.R_mono (Kd.R_bound h) fun k hk => ⟨hk.1, hk.2.2.1, ?_⟩
  obtain ⟨q, hq, cells, hc⟩ := hk.2.2.2
  have : q = 44 := by
    have hE : ∀ q, q ∈ (44 :: k44.E) → q = 44 := by intro q hq; simp [k44, Kd.fix] at hq; exact hq
    exact hE q hq
  subst this
  exact ⟨cells, hc⟩
theorem M44_bound {B : Nat} {W : World} {ok : Nat → Prop} {p : S44} {cs : List Value} (h : k44.M W B ok p cs) : k44.M W B (fun k => ok k ∧ Blk44 W k) p cs := by
  refine k44.M_mono (fun k hk => ⟨hk.1, hk.2.2.1, ?_⟩) (k44.M_bound h)
  obtain ⟨q, hq, cells, hc⟩ := hk.2.2.2
  have : q = 44 := by
    have hE : ∀ q, q ∈ k44.E → q = 44 := by intro q hq; simp [k44, Kd.fix] at hq; exact hq
    exact hE q hq
  subst this
  exact ⟨cells, hc⟩
theorem RowsAt.bound {B : Nat} {W : World} : ∀ {ok : Nat → Prop} {us : List Value} {xs : List (List S44)}, RowsAt B W ok us xs → RowsAt B W (fun k => ok k ∧ Blk44 W k) us xs
  | _, [], [], _ => trivial
  | _, _ :: _, _ :: _, ⟨ok1, ok2, h1, h2, h3, h4⟩ => ⟨fun k => ok1 k ∧ Blk44 W k, fun k => ok2 k ∧ Blk44 W k, fun k hk => ⟨⟨(h1 k hk.1).1, hk.2⟩, fun h => (h1 k hk.1).2 h.1⟩, fun k hk => ⟨h2 k hk.1, hk.2⟩, R44_bound h3, h4.bound⟩
  | _, [], _ :: _, h => h.elim
  | _, _ :: _, [], h => h.elim
theorem RowsAt.move {B : Nat} {W W' : World} : ∀ {ok : Nat → Prop} {us : List Value} {xs : List (List S44)}, RowsAt B W ok us xs → (∀ k, ok k → W'.heap[k]? = W.heap[k]?) → RowsAt B W' ok us xs
  | _, [], [], _, _ => trivial
  | _, _ :: _, _ :: _, ⟨ok1, ok2, h1, h2, h3, h4⟩, hm => ⟨ok1, ok2, h1, h2, Kd.R_move h3 (fun k hk => hm k (h1 k hk).1), h4.move (fun k hk => hm k (h2 k hk))⟩
  | _, [], _ :: _, h, _ => h.elim
  | _, _ :: _, [], h, _ => h.elim
/-- Blocks of rows of trees lie as they lay: so do the rows. -/
theorem RowsAt.step {B : Nat} {W W' : World} {ok : Nat → Prop} {us : List Value} {xs : List (List S44)} (h : RowsAt B W ok us xs) (hm : ∀ k, ok k → Blk44 W k → W'.heap[k]? = W.heap[k]?) : RowsAt B W' ok us xs :=
  (h.bound.move (fun k hk => hm k hk.1 hk.2)).mono (fun _ hk => hk.1)

/-- A row grows by a tree. -/
theorem R44_put {B go n : Nat} {curo : Array Value} {u : Value} {x : List S44} {inner : List Value} {s kv : Value} {p : S44} {ok1 okp : Nat → Prop} {W W' : World}
    (hgo : ∃ cells, W.heap[go]? = some (.cells cells 27 (0, 0)))
    (hu : ∀ k, u.ownBlock = some k → ok1 k) (hr : Reps (k44.M W B (fun k => ok1 k ∧ some k ≠ u.ownBlock)) 2 x inner)
    (hp : k44.M W B okp p [s, kv]) (hdis : ∀ k, okp k → ¬ ok1 k)
    (hpost : PutPost B go n x.length curo u inner s kv W W') :
    ∃ v1, k44.R 44 W' B (fun k => ok1 k ∨ okp k ∨ W.heap.size ≤ k) v1 (x ++ [p]) ∧ W'.heap[go]? = some (.cells (curo.setIfInBounds n v1) 27 (0, 0)) := by
  obtain ⟨v1, hown, hgo', hkeep, hat, hne, hb⟩ := hpost
  obtain ⟨cgo, hgo⟩ := hgo
  have hbu : ∀ k, u.ownBlock = some k → ¬ okp k := fun k hk h => hdis k h (hu k hk)
  have hsame : ∀ k, Blk44 W k → some k ≠ u.ownBlock → W'.heap[k]? = W.heap[k]? := fun k hk hku => hkeep k hk.1 (by
    rintro rfl
    obtain ⟨c, hc⟩ := hk.2
    rw [hgo] at hc; injection hc with hc; injection hc with _ hc; cases hc) hku
  have hv1 : ∀ k, some k ≠ u.ownBlock → k < W.heap.size → some k ≠ v1.ownBlock := by
    intro k hk hlt
    rcases hat with h | ⟨b, h, hbb⟩
    · rw [h]; exact hk
    · rw [h]; intro e; injection e with e; omega
  have stepM : ∀ {q : S44} {c : List Value} {o : Nat → Prop}, k44.M W B o q c → (∀ k, o k → (ok1 k ∨ okp k) ∧ some k ≠ u.ownBlock) →
      k44.M W' B (fun k => (ok1 k ∨ okp k ∨ W.heap.size ≤ k) ∧ some k ≠ v1.ownBlock) q c := by
    intro q c o hq ho
    have h1 := k44.M_move (w1 := W') (fun k hk => hsame k hk.2 (ho k hk.1).2) (M44_bound hq)
    exact k44.M_mono (fun k hk => ⟨(ho k hk.1).1.elim .inl (fun h => .inr (.inl h)), hv1 k (ho k hk.1).2 hk.2.1⟩) h1
  refine ⟨v1, ⟨fun k hk => ?_, inner ++ [s, kv], by rw [List.length_append]; exact hown, ?_⟩, hgo'⟩
  · rcases hat with h | ⟨b, h, hbb⟩
    · exact .inl (hu k (h ▸ hk))
    · rw [h] at hk; injection hk with hk; exact .inr (.inr (by omega))
  · exact (hr.imp_ (fun _ _ hq => stepM hq (fun k hk => ⟨.inl hk.1, hk.2⟩))).snoc (stepM hp (fun k hk => ⟨.inr hk, fun e => hbu k e.symm hk⟩)) rfl

end Go.Proofs.YtmjnodjjnjckiaaDoor.Q44

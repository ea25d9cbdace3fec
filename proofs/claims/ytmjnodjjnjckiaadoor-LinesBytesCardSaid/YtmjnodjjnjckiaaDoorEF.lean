/- The simple form of put: the tree itself is appended, then the row is stored. -/
import Derived.Test.YtmjnodjjnjckiaaDoorEE
namespace Go.Proofs.YtmjnodjjnjckiaaDoor.Q44
open Go.Proofs.YtmjnodjjnjckiaaDoor PLines
open Go.RowKit Go.Shelf Go.Proofs.YtmjnodjjnjckiaaDoorW.PrintWords

theorem put_one {B go n m cu : Nat} {curo : Array Value} {Au : Option Addr} {inner : List Value} {s k : Value} {o1 : Obj} {W W1 w1 : World} {v1 : Value}
    (hW1 : W.alloc o1 = W1) (hgo : W1.drew.heap[go]? = some (.cells curo 27 (0, 0))) (hne : some go ≠ (Value.slice Au m cu).ownBlock)
    (hown1 : w1.ownsRow B 44 2 v1 (m + 1) (inner ++ [s, k])) (hg1 : W1.drew.grownBy w1 (Value.slice Au m cu).ownBlock)
    (hat1 : v1.ownBlock = (Value.slice Au m cu).ownBlock ∨ ∃ b, v1.ownBlock = some b ∧ W1.drew.heap.size ≤ b) :
    PutPost B go n m curo (.slice Au m cu) inner s k W (w1.setCell ⟨go, n, none⟩ v1) := by
  have hsz : W1.heap.size = W.heap.size + 1 := by rw [← hW1]; simp
  have hgoS : go < W1.drew.heap.size := (Array.getElem?_eq_some_iff.1 hgo).1
  have hgo1 : w1.heap[go]? = some (.cells curo 27 (0, 0)) := (hg1.block go hgoS hne).trans hgo
  have hgv : some go ≠ v1.ownBlock := by
    rcases hat1 with h | ⟨b, h, hb⟩
    · rw [h]; exact hne
    · rw [h]; intro e; injection e with e; omega
  obtain ⟨hl, g1, cap1, cur1, hv1, hBg1, hh1, hn1, hm1, hz1, ht1⟩ : _ ∧ _ := ⟨hown1.1, hown1.2.resolve_left (by omega)⟩
  subst hv1
  have hgne : g1 ≠ go := fun e => hgv (by rw [← e]; rfl)
  refine ⟨_, ⟨hl, .inr ⟨g1, cap1, cur1, rfl, hBg1, blk_far hh1 hgne _, hn1, hm1, hz1, ht1⟩⟩, blk_set hgo1 _ _, ?_, ?_, hgv, ?_⟩
  · intro j hj hjo hju
    rw [Below.heap_setCell _ _ _ _ hjo, hg1.block j (by simp; omega) hju]
    rw [← hW1]
    exact Below.heap_alloc _ _ _ hj
  · rcases hat1 with h | ⟨b, h, hb⟩
    · exact .inl h
    · exact .inr ⟨b, h, by simp at hb; omega⟩
  · refine Below.trans (b := w1) ?_ ((Below.refl 0 _).setCell (Nat.zero_le _) _)
    exact ⟨hg1.os.trans (by rw [← hW1]; rfl), hg1.tape.trans (by rw [← hW1]; rfl), hg1.output.trans (by rw [← hW1]; rfl), Nat.le_trans (by simp; omega) hg1.size, fun _ h => absurd h (by omega)⟩
end Go.Proofs.YtmjnodjjnjckiaaDoor.Q44

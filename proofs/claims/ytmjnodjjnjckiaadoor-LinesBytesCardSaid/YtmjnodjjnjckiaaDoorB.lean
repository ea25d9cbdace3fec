/- package lines: (open).put: the last row of a slice of rows grows by one tree. -/
import Derived.Test.YtmjnodjjnjckiaaDoorA
import Derived.Deep.RegionLaw
import Derived.Deep.AppendLies
namespace Go.Proofs.YtmjnodjjnjckiaaDoor
open Go.RowKit Go.Shelf Go.Proofs.YtmjnodjjnjckiaaDoorW.PrintWords

/-- Behind the append of a zero tree: where it lies. -/
theorem put_mid {B go n m cu : Nat} {curo : Array Value} {Au : Option Addr} {inner : List Value} {W1 w1 : World} {v1 : Value}
    (hgo : W1.heap[go]? = some (.cells curo 23 (0, 0))) (hcu : curo[n]? = some (.slice Au m cu)) (hne : some go ≠ (Value.slice Au m cu).ownBlock)
    (hil : inner.length = m * 2)
    (hown1 : w1.ownsRow B 41 2 v1 (m + 1) (inner ++ [.string ⟨#[]⟩, .slice none 0 0])) (hg1 : W1.grownBy w1 (Value.slice Au m cu).ownBlock)
    (hat1 : v1.ownBlock = (Value.slice Au m cu).ownBlock ∨ ∃ b, v1.ownBlock = some b ∧ W1.heap.size ≤ b) :
    ∃ g1 cap1 cur1, v1 = .slice (some ⟨g1, 0, none⟩) (m + 1) cap1 ∧ B ≤ g1 ∧ g1 ≠ go ∧ w1.heap[g1]? = some (.cells cur1 41 (0, 0)) ∧ m + 1 ≤ cap1 ∧ cap1 ≤ maxLen ∧ cur1.size = cap1 * 2 ∧ cur1.toList.take (m * 2) = inner ∧
      w1.heap[go]? = some (.cells curo 23 (0, 0)) ∧ (some g1 = (Value.slice Au m cu).ownBlock ∨ W1.heap.size ≤ g1) ∧
      (w1.cell? ⟨go, n, none⟩ = some (.slice Au m cu) ∧ w1.frozen? ⟨go, n, none⟩ = false ∧
      w1.cell? ⟨g1, m * 2, none⟩ = some (.string ⟨#[]⟩) ∧ w1.cell? ⟨g1, m * 2 + 1, none⟩ = some (.slice none 0 0) ∧ w1.frozen? ⟨g1, m * 2, none⟩ = false ∧ w1.frozen? ⟨g1, m * 2 + 1, none⟩ = false) := by
  obtain ⟨g1, cap1, cur1, hv1, hBg1, hh1, hn1, hm1, hz1, ht1⟩ := hown1.2.resolve_left (by omega)
  subst hv1
  have hgoS : go < W1.heap.size := (Array.getElem?_eq_some_iff.1 hgo).1
  have hgne : g1 ≠ go := by
    rcases hat1 with h | ⟨b, h, hb⟩
    · intro e; subst e; exact hne (by rw [← h]; rfl)
    · simp [Value.ownBlock] at h; omega
  have hgo1 : w1.heap[go]? = some (.cells curo 23 (0, 0)) := (hg1.block go hgoS hne).trans hgo
  have hl : ∀ j, j < (m + 1) * 2 → cur1[j]? = (inner ++ [.string ⟨#[]⟩, .slice none 0 0])[j]? := fun j hj => by
    rw [← ht1, List.getElem?_take_of_lt hj, Array.getElem?_toList]
  have e0 : cur1[m * 2]? = some (.string ⟨#[]⟩) := by rw [hl _ (by omega), ← hil]; simp
  have e1 : cur1[m * 2 + 1]? = some (.slice none 0 0) := by rw [hl _ (by omega), ← hil]; simp
  refine ⟨g1, cap1, cur1, rfl, hBg1, hgne, hh1, hn1, hm1, hz1, ?_, hgo1, ?_, ?_, ?_, ?_, ?_, ?_, ?_⟩
  · have := congrArg (List.take (m * 2)) ht1
    rw [List.take_take, Nat.min_eq_left (by omega)] at this
    rw [this, ← hil, List.take_left']
    rfl
  · rcases hat1 with h | ⟨b, h, hb⟩
    · exact .inl (by rw [← h]; rfl)
    · simp [Value.ownBlock] at h; exact .inr (by omega)
  · simp [World.cell?, hgo1, hcu]
  · simp [World.frozen?, hgo1]
  · simp [World.cell?, hh1, e0]
  · simp [World.cell?, hh1, e1]
  · simp [World.frozen?, hh1]
  · simp [World.frozen?, hh1]

/-- What put leaves: the row has one tree more; its header lies in its place; whatever else there was lies as it lay. -/
def PutPost (B go n m : Nat) (curo : Array Value) (u : Value) (inner : List Value) (s k : Value) (W W' : World) : Prop :=
  ∃ v1, W'.ownsRow B 41 2 v1 (m + 1) (inner ++ [s, k]) ∧ W'.heap[go]? = some (.cells (curo.setIfInBounds n v1) 23 (0, 0)) ∧
    (∀ k, k < W.heap.size → k ≠ go → some k ≠ u.ownBlock → W'.heap[k]? = W.heap[k]?) ∧ (v1.ownBlock = u.ownBlock ∨ ∃ b, v1.ownBlock = some b ∧ W.heap.size ≤ b) ∧ some go ≠ v1.ownBlock ∧ Below 0 W W'

theorem put_end {B go n m cu g1 cap1 : Nat} {curo cur1 : Array Value} {Au : Option Addr} {inner : List Value} {s k : Value} {o1 : Obj} {W W1 w1 w2 : World}
    (hW1 : W.alloc o1 = W1) (hil : inner.length = m * 2) (hBg : B ≤ g1) (hne : g1 ≠ go) (hn1 : m + 1 ≤ cap1) (hm1 : cap1 ≤ maxLen) (hz : cur1.size = cap1 * 2) (ht : cur1.toList.take (m * 2) = inner)
    (hg : W1.drew.grownBy w1 (Value.slice Au m cu).ownBlock) (hat : some g1 = (Value.slice Au m cu).ownBlock ∨ W1.drew.heap.size ≤ g1)
    (hA : w2.heap[g1]? = some (.cells ((cur1.setIfInBounds (m * 2) s).setIfInBounds (m * 2 + 1) k) 41 (0, 0)))
    (hB : w2.heap[go]? = some (.cells (curo.setIfInBounds n (.slice (some ⟨g1, 0, none⟩) (m + 1) cap1)) 23 (0, 0)))
    (hC : ∀ j, j ≠ g1 → j ≠ go → w2.heap[j]? = w1.heap[j]?) (hD : Below 0 w1 w2) : PutPost B go n m curo (.slice Au m cu) inner s k W w2 := by
  have hsz : W1.heap.size = W.heap.size + 1 := by rw [← hW1]; simp
  refine ⟨.slice (some ⟨g1, 0, none⟩) (m + 1) cap1, ⟨by simp [hil]; omega, .inr ⟨g1, cap1, _, rfl, hBg, hA, hn1, hm1, by simp [hz], ?_⟩⟩, hB, ?_, ?_, ?_, ?_⟩
  · have hl : cur1.toList.length = cap1 * 2 := by simp [hz]
    rw [Array.toList_setIfInBounds, Array.toList_setIfInBounds]
    apply List.ext_getElem?
    intro j
    rw [List.getElem?_take]
    split
    · rename_i hj
      rw [List.getElem?_set, List.getElem?_set]
      by_cases h1 : m * 2 + 1 = j
      · rw [if_pos h1, if_pos (by simp [hz]; omega), List.getElem?_append_right (by omega), ← h1, hil]; simp
      · rw [if_neg h1]
        by_cases h0 : m * 2 = j
        · rw [if_pos h0, if_pos (by omega), List.getElem?_append_right (by omega), ← h0, hil]; simp
        · rw [if_neg h0, List.getElem?_append_left (by omega), ← ht, List.getElem?_take_of_lt (by omega)]
    · rw [List.getElem?_eq_none]; simp; omega
  · intro j hj hjo hju
    by_cases hj1 : j = g1
    · subst hj1
      rcases hat with h | h
      · exact absurd h hju
      · simp at h; omega
    · rw [hC j hj1 hjo, hg.block j (by simp; omega) hju, ← hW1]
      exact Below.heap_alloc _ _ _ hj
  · rcases hat with h | h
    · exact .inl h
    · exact .inr ⟨g1, rfl, by simp at h; omega⟩
  · simp only [Value.ownBlock]; intro e; injection e with e; exact hne e.symm
  · refine Below.trans (b := w1) ?_ hD
    exact ⟨hg.os.trans (by rw [← hW1]; rfl), hg.tape.trans (by rw [← hW1]; rfl), hg.output.trans (by rw [← hW1]; rfl), Nat.le_trans (by simp; omega) hg.size, fun _ h => absurd h (by omega)⟩

theorem put_endA {B go n m cu g1 cap1 : Nat} {curo cur1 : Array Value} {Au : Option Addr} {inner : List Value} {s k : Value} {o1 : Obj} {W W1 w1 : World}
    (hW1 : W.alloc o1 = W1) (hil : inner.length = m * 2) (hBg : B ≤ g1) (hne : g1 ≠ go) (hn1 : m + 1 ≤ cap1) (hm1 : cap1 ≤ 2 ^ 63 - 1) (hz : cur1.size = cap1 * 2) (ht : cur1.toList.take (m * 2) = inner)
    (hg : W1.drew.grownBy w1 (Value.slice Au m cu).ownBlock) (hat : some g1 = (Value.slice Au m cu).ownBlock ∨ W1.drew.heap.size ≤ g1)
    (hh : w1.heap[g1]? = some (.cells cur1 41 (0, 0))) (ho : w1.heap[go]? = some (.cells curo 23 (0, 0))) :
    PutPost B go n m curo (.slice Au m cu) inner s k W (((w1.setCell ⟨g1, m * 2, none⟩ s).setCell ⟨g1, m * 2 + 1, none⟩ k).setCell ⟨go, n, none⟩ (.slice (some ⟨g1, 0, none⟩) (m + 1) cap1)) :=
  put_end hW1 hil hBg hne hn1 hm1 hz ht hg hat (blk_far (blk_set (blk_set hh _ _) _ _) hne _) (blk_set (blk_far (blk_far ho hne.symm _) hne.symm _) _ _)
    (fun _ h1 h2 => (Below.heap_setCell _ _ _ _ h2).trans ((Below.heap_setCell _ _ _ _ h1).trans (Below.heap_setCell _ _ _ _ h1)))
    ((((Below.refl 0 _).setCell (Nat.zero_le _) _).setCell (Nat.zero_le _) _).setCell (Nat.zero_le _) _)
theorem put_endB {B go n m cu g1 cap1 : Nat} {curo cur1 : Array Value} {Au : Option Addr} {inner : List Value} {s k : Value} {o1 : Obj} {W W1 w1 : World}
    (hW1 : W.alloc o1 = W1) (hil : inner.length = m * 2) (hBg : B ≤ g1) (hne : g1 ≠ go) (hn1 : m + 1 ≤ cap1) (hm1 : cap1 ≤ 2 ^ 63 - 1) (hz : cur1.size = cap1 * 2) (ht : cur1.toList.take (m * 2) = inner)
    (hg : W1.drew.grownBy w1 (Value.slice Au m cu).ownBlock) (hat : some g1 = (Value.slice Au m cu).ownBlock ∨ W1.drew.heap.size ≤ g1)
    (hh : w1.heap[g1]? = some (.cells cur1 41 (0, 0))) (ho : w1.heap[go]? = some (.cells curo 23 (0, 0))) :
    PutPost B go n m curo (.slice Au m cu) inner s k W (((w1.setCell ⟨go, n, none⟩ (.slice (some ⟨g1, 0, none⟩) (m + 1) cap1)).setCell ⟨g1, m * 2, none⟩ s).setCell ⟨g1, m * 2 + 1, none⟩ k) :=
  put_end hW1 hil hBg hne hn1 hm1 hz ht hg hat (blk_set (blk_set (blk_far hh hne _) _ _) _ _) (blk_far (blk_far (blk_set ho _ _) hne.symm _) hne.symm _)
    (fun _ h1 h2 => (Below.heap_setCell _ _ _ _ h1).trans ((Below.heap_setCell _ _ _ _ h1).trans (Below.heap_setCell _ _ _ _ h2)))
    ((((Below.refl 0 _).setCell (Nat.zero_le _) _).setCell (Nat.zero_le _) _).setCell (Nat.zero_le _) _)
theorem put_endAB {B go n m cu g1 cap1 : Nat} {curo cur1 : Array Value} {Au : Option Addr} {inner : List Value} {s k : Value} {o1 : Obj} {W W1 w1 w2 : World}
    (hW1 : W.alloc o1 = W1) (hil : inner.length = m * 2) (hBg : B ≤ g1) (hne : g1 ≠ go) (hn1 : m + 1 ≤ cap1) (hm1 : cap1 ≤ 2 ^ 63 - 1) (hz : cur1.size = cap1 * 2) (ht : cur1.toList.take (m * 2) = inner)
    (hg : W1.drew.grownBy w1 (Value.slice Au m cu).ownBlock) (hat : some g1 = (Value.slice Au m cu).ownBlock ∨ W1.drew.heap.size ≤ g1)
    (hh : w1.heap[g1]? = some (.cells cur1 41 (0, 0))) (ho : w1.heap[go]? = some (.cells curo 23 (0, 0))) 
    (hw : w2 = ((w1.setCell ⟨g1, m * 2, none⟩ s).setCell ⟨g1, m * 2 + 1, none⟩ k).setCell ⟨go, n, none⟩ (.slice (some ⟨g1, 0, none⟩) (m + 1) cap1) ∨ w2 = ((w1.setCell ⟨go, n, none⟩ (.slice (some ⟨g1, 0, none⟩) (m + 1) cap1)).setCell ⟨g1, m * 2, none⟩ s).setCell ⟨g1, m * 2 + 1, none⟩ k) :
    PutPost B go n m curo (.slice Au m cu) inner s k W w2 := by
  rcases hw with rfl | rfl
  · exact put_endA hW1 hil hBg hne hn1 hm1 hz ht hg hat hh ho
  · exact put_endB hW1 hil hBg hne hn1 hm1 hz ht hg hat hh ho
set_option maxHeartbeats 4000000 in
set_option maxRecDepth 100000 in
theorem put_cells (B go n cap m : Nat) (curo : Array Value) (u : Value) (inner : List Value) (wd : ByteArray) (Ax : Option Addr) (nx cx : Nat) (W : World)
    (hgo : W.heap[go]? = some (.cells curo 23 (0, 0))) (hcu : curo[n]? = some u) (hcap : n + 1 ≤ cap) (hcm : cap ≤ maxLen)
    (hown : W.ownsRow B 41 2 u m inner) (hne : some go ≠ u.ownBlock) (hB : B ≤ W.heap.size) (hm : m ≤ 1000000000000) :
    Calls Tryd.prog 53 #[.slice (some ⟨go, 0, none⟩) (n + 1) cap, .agg #[.string wd, .slice Ax nx cx]] W fun e w' => e = .returned (.tuple #[]) ∧ PutPost B go n m curo u inner (.string wd) (.slice Ax nx cx) W w' := by
  unfold maxLen at hcm
  obtain ⟨Au, cu, rfl⟩ := own_slice hown
  have hil := hown.1
  have hc : W.cell? ⟨go, n, none⟩ = some (.slice Au m cu) := by simp [World.cell?, hgo, hcu]
  go_enter Tryd.func53, Tryd.ntmps53
  go_wp2
  have hlt : (n : Int) < (n : Int) + 1 := by omega
  obtain ⟨W1, hW1⟩ : ∃ W1, W.alloc (Obj.cells #[Value.string wd, Value.slice Ax nx cx] 41) = W1 := ⟨_, rfl⟩
  have hgoS : go < W.heap.size := (Array.getElem?_eq_some_iff.1 hgo).1
  have hs1 : W1.heap.size = W.heap.size + 1 := by rw [← hW1]; simp
  have hgo1 : W1.heap[go]? = some (.cells curo 23 (0, 0)) := by rw [← hW1]; exact (Below.heap_alloc _ _ _ hgoS).trans hgo
  have hc1 : W1.cell? ⟨go, n, none⟩ = some (.slice Au m cu) := by simp [World.cell?, hgo1, hcu]
  have hx0 : W1.cell? ⟨W.heap.size, 0, none⟩ = some (.string wd) := by rw [← hW1]; simp
  have hx1 : W1.cell? ⟨W.heap.size, 1, none⟩ = some (.slice Ax nx cx) := by rw [← hW1]; simp
  have hc1a : (W1.alloc (Obj.cells #[Value.string ⟨#[]⟩, Value.slice none 0 0] 41)).cell? ⟨go, n, none⟩ = some (.slice Au m cu) := (World.cell?_alloc_past _ _ _ (by omega)).trans hc1
  have hx0a : (W1.alloc (Obj.cells #[Value.string ⟨#[]⟩, Value.slice none 0 0] 41)).cell? ⟨W.heap.size, 0, none⟩ = some (.string wd) := (World.cell?_alloc_past _ _ _ (by omega)).trans hx0
  have hx1a : (W1.alloc (Obj.cells #[Value.string ⟨#[]⟩, Value.slice none 0 0] 41)).cell? ⟨W.heap.size, 1, none⟩ = some (.slice Ax nx cx) := (World.cell?_alloc_past _ _ _ (by omega)).trans hx1
  have HS1 := Aside0.mk hs1
  have HGO := Aside0.mk hgo1
  have HW1 := Aside0.mk hW1
  have HCU := Aside0.mk hcu
  have HIL := Aside0.mk hil
  have HNE := Aside0.mk hne
  have HO1 : Aside0 (W1.drew.ownsRow B 41 2 (.slice Au m cu) m inner) := ⟨by rw [← hW1]; exact (hown.alloc _).drew⟩
  have HB1 : Aside0 (Below B W W1.drew) := ⟨by rw [← hW1]; exact ((Below.refl B W).alloc hB _).drew⟩
  rw [hW1]
  clear hs1 hgo hgo1 hc hW1 hown hcu hil hne
  go_region_law ((refine step_append_cells (w0 := W) (W := W1.drew) B rfl (.tmp 11) (.tmp 14) 23 41 (.agg #[.string ⟨#[]⟩, .slice none 0 0]) 2 40 rfl Tryd.underlying23 PLines.info41 rfl (by decide) (by decide) (.slice Au m cu) m inner [.string ⟨#[]⟩, .slice none 0 0] rfl rfl rfl (by simp [Value.oneCell']) HO1.out HB1.out (by have := HS1.out; simp; omega) (by omega) ?_); (intro v1 w1 hown1 hb1 hg1 hat1); (obtain ⟨g1, cap1, cur1, rfl, hBg1, hgne, hh1, hn1, hm1, hz1, ht1, hgo2, hat2, q0, q1, q2, q3, q4, q5⟩ := put_mid (go := go) (n := n) (by exact HGO.out) HCU.out HNE.out HIL.out hown1 hg1 hat1); (have hgne' := Ne.symm hgne); (have HB2 := Aside0.mk hb1); (have HG2 := Aside0.mk hg1); (have HH1 := Aside0.mk hh1); (have HZ1 := Aside0.mk hz1); (have HT1 := Aside0.mk ht1); (have HGO2 := Aside0.mk hgo2); (have HAT := Aside0.mk hat2); (clear hown1 hb1 hg1 hat1 hh1 hz1 ht1 hgo2 hat2); (unfold maxLen at hm1); (have hlt2 : (m : Int) < (m : Int) + 1 := by omega))
  all_goals go_end0
  all_goals refine ⟨rfl, put_endAB HW1.out HIL.out hBg1 hgne hn1 hm1 HZ1.out HT1.out HG2.out HAT.out HH1.out HGO2.out ?_⟩
  all_goals first
    | (left; with_reducible rfl)
    | (right; with_reducible rfl)
end Go.Proofs.YtmjnodjjnjckiaaDoor

/- package lines: strings.Builder's methods at a writer's builder (embedded: the block's type is the writer's). After the shelf's proofs for a builder of its own. -/
import Derived.Test.YtmjnodjjnjckiaaDoorA
import Derived.Shelf.Strings.Builder1
import Derived.Test.YtmjnodjjnjckiaaDoorK
namespace Go.Proofs.YtmjnodjjnjckiaaDoor
open Go.RowKit Go.Shelf

theorem size75 : (Tryd.prog.info? 75).map (·.size) = some 2 := by kernel_rfl
theorem lies77 : liesAt Tryd.prog Tryd.prog.depth 77 (2 / Tryd.prog.cellsOf 77) 0 75 1 = true := by kernel_rfl
theorem u73 : Tryd.prog.underlying 73 = some (.pointer 75) := by kernel_rfl
theorem u115 : Tryd.prog.underlying 115 = some .unsafePointer := by kernel_rfl
theorem u48 : Tryd.prog.underlying 48 = some (.slice 5) := by kernel_rfl
theorem u9 : Tryd.prog.underlying 9 = some .string := by kernel_rfl
theorem u100 : Tryd.prog.underlying 100 = some (.pointer 5) := by kernel_rfl
theorem infoByte : (Tryd.prog.info? 5).map (fun i => (i.zero, i.size, i.bytes)) = some (some (.int .u8 0), 1, 1) := by kernel_rfl
theorem cellsByte : Tryd.prog.cellsOf 5 = 1 := by kernel_rfl

set_option maxHeartbeats 1000000 in
set_option maxRecDepth 100000 in
theorem copy_used (b : Nat) (w : World) (h0 : w.cell? ⟨b, 0, none⟩ = some (.pointer (some ⟨b, 0, none⟩))) :
    Calls Tryd.prog 62 #[.pointer (some ⟨b, 0, none⟩)] w fun e w' => e = .returned (.tuple #[]) ∧ w' = w := by
  obtain ⟨j, hj, _⟩ := Option.map_eq_some_iff.1 size75
  go_enter Tryd.func62, Tryd.ntmps62
  go_wp2
  rw [Lib.run_neq_ptr_same w _ u73 hj]
  go_wp2
  go_end0
  exact ⟨rfl, rfl⟩

set_option maxHeartbeats 1000000 in
set_option maxRecDepth 100000 in
theorem copy_fresh (b : Nat) (w : World) (h0 : w.cell? ⟨b, 0, none⟩ = some (.pointer none)) (hsh : w.shape? b = some (77, 2)) (hfz : w.frozen? ⟨b, 0, none⟩ = false) :
    Calls Tryd.prog 62 #[.pointer (some ⟨b, 0, none⟩)] w fun e w' => e = .returned (.tuple #[]) ∧ w' = w.setCell ⟨b, 0, none⟩ (.pointer (some ⟨b, 0, none⟩)) := by
  obtain ⟨j, hj, hjs⟩ := Option.map_eq_some_iff.1 size75
  go_enter Tryd.func62, Tryd.ntmps62
  go_wp2
  rw [Lib.run_to_unsafe w ⟨b, 0, none⟩ u73 u115 hj (by rw [hjs]; decide) hsh (Nat.zero_lt_succ 1)]
  simp only [Result.andThen]
  rw [Oper.upon_value]
  go_wp2
  rw [run_callFunc_extern Tryd.func70 (by kernel_rfl) (by kernel_rfl) (by kernel_rfl) (e := Extern.AbiNoEscape.same) (by kernel_rfl)]
  rw [Lib.run_noEscape]
  simp only [Result.andThen]
  rw [Oper.upon_value]
  go_wp2
  rw [Lib.run_from_unsafe w ⟨b, 0, none⟩ u115 u73 hj hsh lies77]
  simp only [Result.andThen]
  rw [Oper.upon_value]
  go_wp2
  go_end0
  exact ⟨rfl, rfl⟩

/-- What a write leaves alone: whatever is no row of bytes of the builder's, nor the builder. -/
def KeepW (B b : Nat) (W W' : World) : Prop :=
  Below 0 W W' ∧ ∀ k, k < W.heap.size → k ≠ b → (∀ c, B ≤ k → W.heap[k]? ≠ some (.cells c 5 (0, 0))) → W'.heap[k]? = W.heap[k]?
theorem KeepW.refl (B b : Nat) (W : World) : KeepW B b W W := ⟨Below.refl _ _, fun _ _ _ _ => rfl⟩
theorem KeepW.trans {B b : Nat} {W W1 W2 : World} (h : KeepW B b W W1) (k : KeepW B b W1 W2) : KeepW B b W W2 :=
  ⟨h.1.trans k.1, fun j hj hjb hno => by
    have h1 := h.2 j hj hjb hno
    exact (k.2 j (Nat.lt_of_lt_of_le hj h.1.size) hjb (fun c hb hc => hno c hb (by rw [← h1]; exact hc))).trans h1⟩
theorem KeepW.below {B b n : Nat} {W W' : World} (h : KeepW B b W W') (hn : n ≤ W.heap.size) (hb : n ≤ b) (hB : n ≤ B) : Below n W W' :=
  ⟨h.1.os, h.1.tape, h.1.output, h.1.size, fun k hk => h.2 k (by omega) (by omega) (fun c hc => by omega)⟩
theorem KeepW.set {B b : Nat} (W : World) (j : Nat) (v : Value) : KeepW B b W (W.setCell ⟨b, j, none⟩ v) :=
  ⟨(Below.refl 0 W).setCell (p := ⟨b, j, none⟩) (Nat.zero_le _) v, fun k _ hk _ => Below.heap_setCell _ _ _ k hk⟩
theorem KeepW.of_below {B b : Nat} {W W' : World} (h : Below W.heap.size W W') : KeepW B b W W' :=
  ⟨⟨h.os, h.tape, h.output, h.size, fun _ hk => by omega⟩, fun k hk _ _ => h.block k hk⟩
theorem KeepW.grown {B b n : Nat} {W W' : World} {v : Value} {xs : List Value} (h : W.grownBy W' v.ownBlock) (hown : W.ownsRow B 5 1 v n xs) : KeepW B b W W' :=
  ⟨⟨h.os, h.tape, h.output, h.size, fun _ hk => by omega⟩, fun k hk _ hno => h.block k hk (fun e => by
    rcases hown.2 with ⟨hv, _⟩ | ⟨g, cap, cur, hv, hg, hc, _⟩
    · rw [hv] at e; cases e
    · rw [hv] at e; injection e with e; subst e
      exact hno cur hg hc)⟩

theorem copy_any (B b : Nat) (bs : List Value) (w : World) (h : Lib.IsBuilder 77 5 B b bs w) :
    Calls Tryd.prog 62 #[.pointer (some ⟨b, 0, none⟩)] w fun e w' => e = .returned (.tuple #[]) ∧ (Lib.BuilderAt 77 5 B b (.pointer (some ⟨b, 0, none⟩)) bs w' ∧ Below B w w' ∧ KeepW B b w w') := by
  rcases h with h | h
  · refine (copy_fresh b w h.cell0 h.shape h.frozen0).mono ?_
    rintro e w' ⟨rfl, rfl⟩
    exact ⟨rfl, h.used _, (Below.refl B w).setCell (p := ⟨b, 0, none⟩) h.1 _, KeepW.set _ _ _⟩
  · refine (copy_used b w h.cell0).mono ?_
    rintro e w' ⟨rfl, rfl⟩
    exact ⟨rfl, h, Below.refl B _, KeepW.refl _ _ _⟩

set_option maxHeartbeats 1000000 in
set_option maxRecDepth 100000 in
theorem builder_len (B b : Nat) (bs : List Value) (w : World) (h : Lib.IsBuilder 77 5 B b bs w) :
    Calls Tryd.prog 46 #[.pointer (some ⟨b, 0, none⟩)] w fun e w' => e = .returned (.int .i64 bs.length) ∧ w = w' := by
  obtain ⟨p, hB, v, hbk, hown, hne⟩ : ∃ p, Lib.BuilderAt 77 5 B b p bs w := by
    rcases h with h | h
    · exact ⟨_, h⟩
    · exact ⟨_, h⟩
  obtain ⟨ao, cap, rfl⟩ : ∃ ao cap, v = .slice ao bs.length cap := by
    rcases hown.2 with ⟨hv, h0⟩ | ⟨g, cap, cur, hv, _⟩
    · exact ⟨none, 0, by rw [hv, h0]⟩
    · exact ⟨_, _, hv⟩
  have c1 : w.cell? ⟨b, 1, none⟩ = some (.slice ao bs.length cap) := by rw [Lib.cell_of_heap hbk]; rfl
  go_enter Tryd.func46, Tryd.ntmps46
  go_wp2
  go_ret
  exact ⟨rfl, rfl⟩

set_option maxHeartbeats 2000000 in
set_option maxRecDepth 100000 in
theorem builder_put (B b : Nat) (bs : List Value) (s : ByteArray) (w : World) (h : Lib.IsBuilder 77 5 B b bs w) (hlen : bs.length + s.size ≤ 140737488355328) (hBw : B ≤ w.heap.size) :
    Calls Tryd.prog 45 #[.pointer (some ⟨b, 0, none⟩), .string s] w fun e w' => e = .returned (.tuple #[.int .i64 s.size, .nilIface]) ∧ (Lib.BuilderAt 77 5 B b (.pointer (some ⟨b, 0, none⟩)) (bs ++ Lib.strCells s) w' ∧ Below B w w' ∧ KeepW B b w w') := by
  obtain ⟨i0, hi, hz0, hz1, hz2⟩ := info_parts infoByte
  go_enter Tryd.func45, Tryd.ntmps45
  go_wp2_with (go_at_call 62; refine (copy_any B b bs _ h).mono ?_)
  rintro e w1 ⟨rfl, h1, hb1, hk1⟩
  obtain ⟨hB, v, hbk, hown, hne⟩ := h1
  have c0 : w1.cell? ⟨b, 0, none⟩ = some (.pointer (some ⟨b, 0, none⟩)) := by rw [Lib.cell_of_heap hbk]; rfl
  have c1 : w1.cell? ⟨b, 1, none⟩ = some v := by rw [Lib.cell_of_heap hbk]; rfl
  go_wp2_with (at_builtin; refine Lib.wpList_append_own_string _ rfl _ _ 48 9 rfl B 5 i0 u48 u9 hi hz0 hz1 hz2 _ _ _ rfl hown s rfl ?c3 ?c4 ?c5 ?_)
  case c3 => unfold maxLen; omega
  case c4 => omega
  case c5 => have := hb1.size; omega
  intro v' w2 hown' hgrow _
  have hlt : b < w1.heap.size := by
    rcases Nat.lt_or_ge b w1.heap.size with h' | h'
    · exact h'
    · simp [Array.getElem?_eq_none h'] at hbk
  have hb2 : w2.heap[b]? = some (.cells #[.pointer (some ⟨b, 0, none⟩), v] 77 (0, 0)) := by
    rw [hgrow.block b hlt (fun e => hne e.symm)]
    exact hbk
  have d0 : w2.cell? ⟨b, 0, none⟩ = some (.pointer (some ⟨b, 0, none⟩)) := by rw [Lib.cell_of_heap hb2]; rfl
  have d1 : w2.cell? ⟨b, 1, none⟩ = some v := by rw [Lib.cell_of_heap hb2]; rfl
  have f1 : w2.frozen? ⟨b, 1, none⟩ = false := Lib.frozen_of_heap hb2 1
  obtain ⟨ao, n', cap, rfl⟩ : ∃ ao n' cap, v' = .slice ao n' cap := by
    rcases hown'.2 with ⟨hv, _⟩ | ⟨g, cap, cur, hv, _⟩
    · exact ⟨_, _, _, hv⟩
    · exact ⟨_, _, _, hv⟩
  go_wp2
  go_ret2
  refine ⟨rfl, ?_, ?_, (hk1.trans (KeepW.grown hgrow hown)).trans (KeepW.set _ _ _)⟩
  · exact Lib.BuilderAt.put (T := 77) (e := 5) hB hb2 (bs' := bs ++ Lib.strCells s) (by simpa [Lib.strCells_length] using hown') (by decide)
  · exact (hb1.grown hgrow (by have := hb1.size; omega) (fun k hk => (hown.lt k hk).1)).setCell (p := ⟨b, 1, none⟩) hB _

set_option maxHeartbeats 1000000 in
set_option maxRecDepth 100000 in
theorem builder_told (B b : Nat) (l : List UInt8) (w : World) (h : Lib.IsBuilder 77 5 B b (Lib.byteCells l) w) (h0 : l ≠ []) :
    Calls Tryd.prog 38 #[.pointer (some ⟨b, 0, none⟩)] w fun e w' => e = .returned (.string ⟨l.toArray⟩) ∧ Below B w w' := by
  obtain ⟨p, hAt⟩ : ∃ p, Lib.BuilderAt 77 5 B b p (Lib.byteCells l) w := by
    rcases h with h | h
    · exact ⟨_, h⟩
    · exact ⟨_, h⟩
  obtain ⟨hB, v, hbk, hown, hne⟩ := hAt
  have hl0 : l.length ≠ 0 := by simpa using h0
  rw [Lib.byteCells_length] at hown
  obtain ⟨g, cap, cur, rfl, hbg, hg, hnc, hcm, hcs, htake⟩ : ∃ g cap cur, v = .slice (some ⟨g, 0, none⟩) l.length cap ∧ B ≤ g ∧ w.heap[g]? = some (.cells cur 5 (0, 0)) ∧ l.length ≤ cap ∧ cap ≤ maxLen ∧ cur.size = cap * 1 ∧ cur.toList.take (l.length * 1) = Lib.byteCells l := by
    rcases hown.2 with ⟨_, hz⟩ | ⟨g, cap, cur, hv, r⟩
    · exact absurd hz hl0
    · exact ⟨g, cap, cur, hv, r⟩
  have c1 : w.drew.cell? ⟨b, 1, none⟩ = some (.slice (some ⟨g, 0, none⟩) l.length cap) := by
    have : w.drew.heap[b]? = some (.cells #[p, .slice (some ⟨g, 0, none⟩) l.length cap] 77 (0, 0)) := hbk
    rw [Lib.cell_of_heap this]; rfl
  have hSD : (Builtin.unsafeSliceData_ #[48] 100 #[.slice (some ⟨g, 0, none⟩) l.length cap]).run Tryd.prog w.drew = .ok (.pointer (some ⟨g, 0, none⟩)) w.drew :=
    Lib.run_unsafeSliceData_row _ _ _ _ _ _ (by omega)
  have hUS : (Builtin.unsafeString_ #[100, 3] 9 #[.pointer (some ⟨g, 0, none⟩), .int .i64 l.length]).run Tryd.prog w.drew = .ok (.string ⟨l.toArray⟩) (w.drew.freeze ⟨g, 0, none⟩ l.length) := by
    refine Lib.run_unsafeString_row w.drew 100 3 9 5 u100 cellsByte g cur.size (by have hg' : w.drew.heap[g]? = some (.cells cur 5 (0, 0)) := hg; simp [World.shape?, hg']) l h0 (by omega) (by unfold maxLen at hcm; omega) ?_
    intro j x hx
    have := hown.cells (g := g) rfl j (.int .u8 x.toNat) (by simp [Lib.byteCells, hx])
    exact this
  have mixed : Tryd.prog.follows Departure.mixedOrders = true := by kernel_rfl
  go_enter Tryd.func38, Tryd.ntmps38
  go_wp2
  go_region_o
  all_goals (go_wp2; go_ret; exact ⟨rfl, Lib.below_freeze (Below.drew (Below.refl B w)) (p := ⟨g, 0, none⟩) hbg _⟩)

set_option maxHeartbeats 2000000 in
set_option maxRecDepth 100000 in
theorem builder_told_nil (B b : Nat) (p : Value) (w : World) (hbk : w.heap[b]? = some (.cells #[p, .slice none 0 0] 77 (0, 0))) :
    Calls Tryd.prog 38 #[.pointer (some ⟨b, 0, none⟩)] w fun e w' => e = .returned (.string ⟨#[]⟩) ∧ Below B w w' := by
  have hUS : ∀ (W : World) (q : Option Addr), (Builtin.unsafeString_ #[100, 3] 9 #[.pointer q, .int .i64 0]).run Tryd.prog W = .ok (.string .empty) W := fun W q => Lib.run_unsafeString_none W _ _ _ q
  have c1 : w.drew.cell? ⟨b, 1, none⟩ = some (.slice none 0 0) := by
    have : w.drew.heap[b]? = some (.cells #[p, .slice none 0 0] 77 (0, 0)) := hbk
    rw [Lib.cell_of_heap this]; rfl
  have hSD : (Builtin.unsafeSliceData_ #[48] 100 #[.slice none 0 0]).run Tryd.prog w.drew = .ok (.pointer none) w.drew := rfl
  have mixed : Tryd.prog.follows Departure.mixedOrders = true := by kernel_rfl
  go_enter Tryd.func38, Tryd.ntmps38
  go_wp2
  go_region_o
  all_goals (go_wp2; go_ret; exact ⟨rfl, Below.drew (Below.refl B w)⟩)
end Go.Proofs.YtmjnodjjnjckiaaDoor

/- package lines: right. -/
namespace Go.Proofs.YtmjnodjjnjckiaaDoor
open Go.RowKit Go.Shelf Go.Proofs.YtmjnodjjnjckiaaDoorW.PrintWords PLines

mutual
/-- Is a tree such as may be written? -/
def okT : S41 → Bool
  | ⟨w, ks⟩ => (!w.data.toList.any isEnd && (w.size == 0 || ks.isEmpty)) && okL ks
def okL : List S41 → Bool
  | [] => true
  | x :: xs => okT x && okL xs
end
theorem okL_take {l : List S41} : ∀ {i : Nat}, okL l = true → okL (l.take i) = true := by
  induction l with
  | nil => intro i _; simp [okL]
  | cons x xs ih =>
    intro i h
    cases i with
    | zero => rfl
    | succ i =>
      simp only [okL, Bool.and_eq_true] at h
      simp only [List.take_succ_cons, okL, Bool.and_eq_true]
      exact ⟨h.1, ih h.2⟩
theorem okL_mem {l : List S41} (h : okL l = true) : ∀ x ∈ l, okT x = true := by
  induction l with
  | nil => intro x hx; cases hx
  | cons y ys ih =>
    simp only [okL, Bool.and_eq_true] at h
    intro x hx
    rcases List.mem_cons.1 hx with rfl | hx
    · exact h.1
    · exact ih h.2 x hx
theorem okL_iff {l : List S41} : okL l = true ↔ ∀ x ∈ l, okT x = true := by
  refine ⟨okL_mem, fun h => ?_⟩
  induction l with
  | nil => rfl
  | cons y ys ih =>
    simp only [okL, Bool.and_eq_true]
    exact ⟨h y (by simp), ih (fun x hx => h x (by simp [hx]))⟩
theorem rd_mem {l : List S41} {i : Nat} (h : i < l.length) : rd_T41 l (i : Int) ∈ l := by
  unfold rd_T41
  simp [List.getD, h]
theorem size41 {l : List S41} {x : S41} (h : x ∈ l) : SizeOf.sizeOf x.f1 + 1 < SizeOf.sizeOf l := by
  have h1 := List.sizeOf_lt_of_mem h
  cases x
  simp only [S41.mk.sizeOf_spec] at h1 ⊢
  omega
theorem okT_eq (x : S41) : okT x = ((!x.f0.data.toList.any isEnd && (x.f0.size == 0 || x.f1.isEmpty)) && okL x.f1) := by
  cases x; rfl
/-- The number in a value. -/
def idx : Value → Nat
  | .int _ i => i.toNat
  | _ => 0
theorem okL_far {l : List S41} {i : Nat} (h : i < l.length) (hx : okT (rd_T41 l (i : Int)) = false) : okL l = false := by
  cases ho : okL l with
  | false => rfl
  | true => rw [okL_mem ho _ (rd_mem h)] at hx; cases hx
theorem okL_next {l : List S41} {i : Nat} (h : i < l.length) (h0 : ∀ j, j < i → okT (rd_T41 l (j : Int)) = true) (hx : okT (rd_T41 l (i : Int)) = true) : ∀ j, j < i + 1 → okT (rd_T41 l (j : Int)) = true := by
  intro j hj
  rcases Nat.lt_or_ge j i with hj' | hj'
  · exact h0 j hj'
  · obtain rfl : j = i := by omega
    exact hx
theorem okL_all {l : List S41} (h0 : ∀ j, j < l.length → okT (rd_T41 l (j : Int)) = true) : okL l = true := by
  rw [okL_iff]
  intro x hx
  obtain ⟨j, hj, rfl⟩ := List.getElem_of_mem hx
  have := h0 j hj
  unfold rd_T41 at this
  simpa [List.getD, hj] using this

theorem ahead_any : ∀ l : List UInt8, decide (ahead l < l.length) = l.any isEnd
  | [] => by simp [ahead]
  | c :: r => by
    have ih := ahead_any r
    cases hc : isEnd c with
    | true => rw [ahead_end hc]; simp [hc]
    | false => rw [ahead_cons hc, List.any_cons, hc, ← ih]; simp
theorem contains_any (s : ByteArray) (w : World) :
    Calls Tryd.prog 57 #[.string s, .func (.func 51) #[] #[]] w fun e w' => e = .returned (.bool (s.data.toList.any isEnd)) ∧ Below w.heap.size w w' := by
  refine (contains_ends s w).mono ?_
  rintro e w' ⟨rfl, hb⟩
  refine ⟨?_, hb⟩
  rw [idx_ends, ← ahead_any]
  congr 2
  by_cases h : ahead s.data.toList < s.data.toList.length
  · rw [if_pos h, decide_eq_true h, decide_eq_true (by omega)]
  · rw [if_neg h, decide_eq_false h, decide_eq_false (by omega)]
theorem empty_size (s : ByteArray) : s.toList.isEmpty = (s.size == 0) := by
  rw [ByteArray.toList_eq, size_eq]; cases s.data.toList <;> rfl
theorem len_zero {α : Type} (l : List α) : (((l.length : Nat) : Int) == 0) = l.isEmpty := by
  cases l with
  | nil => rfl
  | cons a l => rw [beq_eq_false_iff_ne.2 (by simp; omega)]; rfl
theorem wrap_i {i : Nat} (h : i < 9223372036854775807) : wrap64 ((i : Int) + 1) = ((i + 1 : Nat) : Int) := by
  unfold wrap64; omega
theorem C_len {W : World} {A : Option Addr} {l : List S41} (h : Kd.C k41 W A l.length l) : l.length ≤ 9223372036854775807 := h.2.1
/-- A round's box, behind a call. -/
theorem round_box {W wr w2 w3 : World} {gb : Nat} {x y a b : Value} (HB : Below W.heap.size W wr) (hb2 : Below wr.heap.size wr w2) (hg : gb = wr.heap.size) (hbox : w2.heap[gb]? = some (.cells #[x, y] 41 (0, 0)))
    (hb3 : Below ((w2.setCell ⟨gb, 0, none⟩ a).setCell ⟨gb, 1, none⟩ b).heap.size ((w2.setCell ⟨gb, 0, none⟩ a).setCell ⟨gb, 1, none⟩ b) w3) :
    w3.heap[gb]? = some (.cells #[a, b] 41 (0, 0)) ∧ Below W.heap.size W w3 := by
  have h1 : ((w2.setCell ⟨gb, 0, none⟩ a).setCell ⟨gb, 1, none⟩ b).heap[gb]? = some (.cells #[a, b] 41 (0, 0)) := by
    have := blk_set (blk_set hbox 0 a) 1 b
    simpa using this
  have hs := HB.size
  refine ⟨(hb3.block gb (size_of h1)).trans h1, ?_⟩
  have hb := ((HB.trans (hb2.mono hs)).setCell (p := ⟨gb, 0, none⟩) (by simp; omega) a).setCell (p := ⟨gb, 1, none⟩) (by simp; omega) b
  exact hb.trans (hb3.mono hb.size)

set_option maxHeartbeats 4000000 in
set_option maxRecDepth 100000 in
theorem right_calls (n : Nat) : ∀ (A : Option Addr) (c : Nat) (l : List S41) (W : World) (hr : Kd.C k41 W A l.length l) (hc : l.length ≤ c) (hn : SizeOf.sizeOf l ≤ n),
    Calls Tryd.prog 36 #[.slice A l.length c] W fun e w' => Below W.heap.size W w' ∧ ((okL l = true ∧ e = .returned (.tuple #[])) ∨ (okL l = false ∧ e = .panicked (thrown 4))) := by
  induction n with
  | zero => intro A c l W _ _ hn; cases l <;> simp at hn
  | succ n ih =>
  intro A c l W hr hc hn
  have HR := Aside0.mk hr
  have HC := Aside0.mk hc
  have HL := Aside0.mk (C_len hr)
  have HN := Aside0.mk hn
  have IH := Aside0.mk ih
  clear hr hc hn ih
  go_enter Tryd.func36, Tryd.ntmps36
  go_wp2
  go_loopw [6] (fun v wr => ∃ i : Nat, v = .int .i64 i ∧ i ≤ l.length ∧ (∀ j, j < i → okT (rd_T41 l (j : Int)) = true) ∧ Below W.heap.size W wr) (fun v _ => l.length - idx v)
  case atStart => exact ⟨0, rfl, Nat.zero_le _, fun j hj => by omega, Below.refl _ _⟩
  case round =>
    obtain ⟨i, rfl, hil, hok, hb⟩ := hrel
    have HOK := Aside0.mk hok
    have HB := Aside0.mk hb
    have HI := Aside0.mk hil
    clear hok hb hil
    by_cases hi : i < l.length
    · have hi0 : decide ((i : Int) < (l.length : Int)) = true := by simp; exact hi
      obtain ⟨ad, A1, c1, rfl, hx0, hx1, hl1, hk1⟩ := at_T41 HR.out (i : Int) (by omega) (by omega)
      obtain ⟨x, hx⟩ : ∃ x, rd_T41 l (i : Int) = x := ⟨_, rfl⟩
      rw [hx] at hx0 hx1 hl1 hk1
      replace hx0 := (HB.out.cell (World.block_lt_of_cell? W _ hx0)).trans hx0
      replace hx1 := (HB.out.cell (World.block_lt_of_cell? W _ hx1)).trans hx1
      have HX := Aside0.mk hx
      have HL1 := Aside0.mk hl1
      have HK1 := Aside0.mk hk1
      clear hx hl1 hk1
      obtain ⟨ii, hii⟩ : ∃ ii : Int, (i : Int) = ii := ⟨_, rfl⟩
      rw [hii] at hi0 hx0 hx1 ⊢
      have p1 : (0 ≤ ii) = True := eq_true (by omega)
      have p2 : (ii < (l.length : Int)) = True := eq_true (by omega)
      have HII := Aside0.mk hi
      have HIJ := Aside0.mk hii
      clear hi hii
      go_wp2_with (first | ((with_reducible refine gate_dst (N := 3) rfl ?_); refine box_event ?hg (N := 3) ?hd (cs := #[.string (⟨#[]⟩ : ByteArray), .slice none 0 0]) (t := 41) ?hr ?_; (case hd => rfl); (case hg => rfl); (case hr => first | (go_simp; done) | (go_simp; rfl)); intro gb hg w2 hbox hb; have HB2 := Aside0.mk hb; have HG := Aside0.mk hg; have BK := Aside0.mk hbox; have hcz0 : w2.cell? ⟨gb, 0, none⟩ = some (.string (⟨#[]⟩ : ByteArray)) := cell_blk hbox 0 _ rfl; have hcz1 : w2.cell? ⟨gb, 1, none⟩ = some (.slice none 0 0) := cell_blk hbox 1 _ rfl; have hfz0 := frozen_blk hbox 0; have hfz1 := frozen_blk hbox 1; clear hb hbox hg))
      have hcb : ∃ cb, x.f0.data.toList.any isEnd = cb := ⟨_, rfl⟩
      obtain ⟨cb, hcb⟩ := hcb
      have hW := contains_any x.f0
      rw [hcb] at hW
      refine (hW _).mono ?_
      rintro e w3 ⟨rfl, hb3⟩
      obtain ⟨hbk3, hbw3⟩ := round_box HB.out HB2.out HG.out BK.out hb3
      have hd0 : w3.cell? ⟨gb, 0, none⟩ = some (.string x.f0) := cell_blk hbk3 0 _ rfl
      have hd1 : w3.cell? ⟨gb, 1, none⟩ = some (.slice A1 x.f1.length c1) := cell_blk hbk3 1 _ rfl
      have BW := Aside0.mk hbw3
      have HCB := Aside0.mk hcb
      clear hb3 hbk3 hbw3 hcb hW hcz0 hcz1 hfz0 hfz1 hx0 hx1
      have hka := IH.out A1 c1 x.f1 w3 (Kd.C_below HK1.out BW.out) HL1.out (by have h1 := size41 (rd_mem HII.out); rw [HX.out] at h1; have h2 := HN.out; omega)
      have HKA := Aside0.mk hka
      clear hka
      cases cb with
      | true =>
        go_wp2_with (go_at_call 28; refine (must_no _ _).mono ?_; rintro e w' ⟨rfl, rfl⟩)
        refine ⟨rfl, BW.out, .inr ⟨okL_far HII.out ?_, rfl⟩⟩
        rw [HX.out, okT_eq, HCB.out]
        rfl
      | false =>
        cases he1 : x.f0.toList.isEmpty with
        | true =>
          have HE1 := Aside0.mk ((empty_size x.f0).symm.trans he1)
          go_wp2_with (go_at_call 28; refine (must_ok _ _).mono ?_; rintro e w' ⟨rfl, rfl⟩)
          have hkids : okL x.f1 = okT x := by rw [okT_eq, HCB.out]; rw [HE1.out]; rfl
          cases hko : okL x.f1 with
          | true =>
            have HK : Calls Tryd.prog 36 #[.slice A1 x.f1.length c1] w3 fun e w' => e = .returned (.tuple #[]) ∧ Below w3.heap.size w3 w' := by
              refine HKA.out.mono ?_
              rintro e w4 ⟨hb4, (⟨_, rfl⟩ | ⟨hbad, _⟩)⟩
              · exact ⟨rfl, hb4⟩
              · rw [hko] at hbad; cases hbad
            have HKO := Aside0.mk (hkids.symm.trans hko)
            have HKK := Aside0.mk HK
            clear hkids hko HK
            go_wp2_with (go_at_call 36; refine HKK.out.mono ?_; rintro e w4 ⟨rfl, hb4⟩; have HB4 := Aside0.mk hb4; clear hb4)
            go_roundw
            case rel => exact ⟨i + 1, by rw [← HIJ.out, wrap_i (by have := HII.out; have := HC.out; have := HL.out; omega)], HII.out, okL_next HII.out HOK.out (by rw [HX.out]; exact HKO.out), BW.out.trans (HB4.out.mono BW.out.size)⟩
            case measure => rw [← HIJ.out, wrap_i (by have := HII.out; have := HC.out; have := HL.out; omega)]; all_goals (have := HII.out; simp [idx]; try omega)
          | false =>
            have HK : Calls Tryd.prog 36 #[.slice A1 x.f1.length c1] w3 fun e w' => e = .panicked (thrown 4) ∧ Below w3.heap.size w3 w' := by
              refine HKA.out.mono ?_
              rintro e w4 ⟨hb4, (⟨hbad, _⟩ | ⟨_, rfl⟩)⟩
              · rw [hko] at hbad; cases hbad
              · exact ⟨rfl, hb4⟩
            have HKO := Aside0.mk (hkids.symm.trans hko)
            have HKK := Aside0.mk HK
            clear hkids hko HK
            go_wp2_with (go_at_call 36; refine HKK.out.mono ?_; rintro e w4 ⟨rfl, hb4⟩; have HB4 := Aside0.mk hb4; clear hb4)
            exact ⟨rfl, BW.out.trans (HB4.out.mono BW.out.size), .inr ⟨okL_far HII.out (by rw [HX.out]; exact HKO.out), rfl⟩⟩
        | false =>
          have HE1 := Aside0.mk ((empty_size x.f0).symm.trans he1)
          cases he2 : (((x.f1.length : Nat) : Int) == 0) with
          | true =>
            have HE2 := Aside0.mk ((len_zero x.f1).symm.trans he2)
            go_wp2_with (go_at_call 28; refine (must_ok _ _).mono ?_; rintro e w' ⟨rfl, rfl⟩)
            have hkids : okL x.f1 = okT x := by rw [okT_eq, HCB.out]; rw [HE2.out]; simp
            cases hko : okL x.f1 with
            | true =>
              have HK : Calls Tryd.prog 36 #[.slice A1 x.f1.length c1] w3 fun e w' => e = .returned (.tuple #[]) ∧ Below w3.heap.size w3 w' := by
                refine HKA.out.mono ?_
                rintro e w4 ⟨hb4, (⟨_, rfl⟩ | ⟨hbad, _⟩)⟩
                · exact ⟨rfl, hb4⟩
                · rw [hko] at hbad; cases hbad
              have HKO := Aside0.mk (hkids.symm.trans hko)
              have HKK := Aside0.mk HK
              clear hkids hko HK
              go_wp2_with (go_at_call 36; refine HKK.out.mono ?_; rintro e w4 ⟨rfl, hb4⟩; have HB4 := Aside0.mk hb4; clear hb4)
              go_roundw
              case rel => exact ⟨i + 1, by rw [← HIJ.out, wrap_i (by have := HII.out; have := HC.out; have := HL.out; omega)], HII.out, okL_next HII.out HOK.out (by rw [HX.out]; exact HKO.out), BW.out.trans (HB4.out.mono BW.out.size)⟩
              case measure => rw [← HIJ.out, wrap_i (by have := HII.out; have := HC.out; have := HL.out; omega)]; all_goals (have := HII.out; simp [idx]; try omega)
            | false =>
              have HK : Calls Tryd.prog 36 #[.slice A1 x.f1.length c1] w3 fun e w' => e = .panicked (thrown 4) ∧ Below w3.heap.size w3 w' := by
                refine HKA.out.mono ?_
                rintro e w4 ⟨hb4, (⟨hbad, _⟩ | ⟨_, rfl⟩)⟩
                · rw [hko] at hbad; cases hbad
                · exact ⟨rfl, hb4⟩
              have HKO := Aside0.mk (hkids.symm.trans hko)
              have HKK := Aside0.mk HK
              clear hkids hko HK
              go_wp2_with (go_at_call 36; refine HKK.out.mono ?_; rintro e w4 ⟨rfl, hb4⟩; have HB4 := Aside0.mk hb4; clear hb4)
              exact ⟨rfl, BW.out.trans (HB4.out.mono BW.out.size), .inr ⟨okL_far HII.out (by rw [HX.out]; exact HKO.out), rfl⟩⟩
          | false =>
            have HE2 := Aside0.mk ((len_zero x.f1).symm.trans he2)
            go_wp2_with (go_at_call 28; refine (must_no _ _).mono ?_; rintro e w' ⟨rfl, rfl⟩)
            refine ⟨rfl, BW.out, .inr ⟨okL_far HII.out ?_, rfl⟩⟩
            rw [HX.out, okT_eq, HCB.out]
            rw [HE1.out, HE2.out]; rfl
    · have hi0 : decide ((i : Int) < (l.length : Int)) = false := by simp; omega
      go_wp2
      go_end0
      obtain rfl : i = l.length := by have := HI.out; omega
      exact ⟨HB.out, .inl ⟨okL_all HOK.out, rfl⟩⟩
end Go.Proofs.YtmjnodjjnjckiaaDoor

/- package lines: (*writer).add. -/
namespace Go.Proofs.YtmjnodjjnjckiaaDoor
open Go.RowKit Go.Shelf Go.Proofs.YtmjnodjjnjckiaaDoorW.PrintWords PLines

/-- A writer that holds bytes. -/
def WrAt (B b : Nat) (l : List UInt8) (W : World) : Prop :=
  Lib.IsBuilder 77 5 B b (Lib.byteCells l) W ∧ (l = [] → W.heap[b]? = some (.cells #[.pointer none, .slice none 0 0] 77 (0, 0)))
theorem strCells_byte (s : ByteArray) : Lib.strCells s = Lib.byteCells s.data.toList := rfl
theorem byteCells_append (a b : List UInt8) : Lib.byteCells (a ++ b) = Lib.byteCells a ++ Lib.byteCells b := by simp [Lib.byteCells]

set_option maxHeartbeats 2000000 in
set_option maxRecDepth 100000 in
theorem add_yes (B b : Nat) (l : List UInt8) (s : ByteArray) (w : World) (h : WrAt B b l w) (hB : B ≤ w.heap.size) (hs : 0 < s.size) (hle : l.length + s.size ≤ 262144) :
    Calls Tryd.prog 58 #[.pointer (some ⟨b, 0, none⟩), .string s] w fun e w' => e = .returned (.tuple #[]) ∧ WrAt B b (l ++ s.data.toList) w' ∧ KeepW B b w w' := by
  have hL := builder_len B b _ w h.1
  have hP := builder_put B b _ s w h.1 (by simp [Lib.byteCells]; omega) hB
  have hlen : (Lib.byteCells l).length = l.length := by simp [Lib.byteCells]
  rw [hlen] at hL
  have hb0 : decide ((l.length : Int) + (s.size : Int) ≤ 262144) = true := by simp; omega
  have hw : wrap64 ((l.length : Int) + (s.size : Int)) = (l.length : Int) + (s.size : Int) := by unfold wrap64; omega
  have HL := Aside0.mk hL
  have HP := Aside0.mk hP
  have HS := Aside0.mk hs
  clear hL hP h hlen hs hle
  go_enter Tryd.func58, Tryd.ntmps58
  go_wp2_with (first | (go_at_call 46; refine HL.out.mono ?_; rintro e w' ⟨rfl, rfl⟩) | (go_at_call 28; refine (must_ok _ _).mono ?_; rintro e w' ⟨rfl, rfl⟩) | (go_at_call 45; refine HP.out.mono ?_; rintro e w' ⟨rfl, hb, _, hk⟩; have HB := Aside0.mk hb; have HK := Aside0.mk hk; clear hb hk))
  go_end0
  refine ⟨rfl, ⟨.inr ?_, fun hn => ?_⟩, HK.out⟩
  · rw [byteCells_append]; exact HB.out
  · have := congrArg List.length hn
    have h2 := HS.out
    rw [List.length_append, ← size_eq, List.length_nil] at this
    omega
set_option maxHeartbeats 2000000 in
set_option maxRecDepth 100000 in
theorem add_no (B b : Nat) (l : List UInt8) (s : ByteArray) (w : World) (h : WrAt B b l w) (hs : s.size ≤ 1000000000000) (hl : l.length ≤ 262144) (hle : 262144 < l.length + s.size) :
    Calls Tryd.prog 58 #[.pointer (some ⟨b, 0, none⟩), .string s] w fun e w' => e = .panicked (thrown 3) ∧ w = w' := by
  have hL := builder_len B b _ w h.1
  have hlen : (Lib.byteCells l).length = l.length := by simp [Lib.byteCells]
  rw [hlen] at hL
  have hb0 : decide ((l.length : Int) + (s.size : Int) ≤ 262144) = false := by simp; omega
  have hw : wrap64 ((l.length : Int) + (s.size : Int)) = (l.length : Int) + (s.size : Int) := by unfold wrap64; omega
  have HL := Aside0.mk hL
  clear hL h hlen hle
  go_enter Tryd.func58, Tryd.ntmps58
  go_wp2_with (first | (go_at_call 46; refine HL.out.mono ?_; rintro e w' ⟨rfl, rfl⟩) | (go_at_call 28; refine (must_no _ _).mono ?_; rintro e w' ⟨rfl, rfl⟩))
  exact ⟨rfl, rfl, rfl⟩

mutual
/-- The text of a tree, and of trees, parted. -/
def outT : S41 → List UInt8
  | ⟨w, ks⟩ => if w.size = 0 then 40 :: (outL ks ++ [41]) else w.data.toList
def outL : List S41 → List UInt8
  | [] => []
  | x :: xs => outT x ++ outR xs
def outR : List S41 → List UInt8
  | [] => []
  | x :: xs => 32 :: (outT x ++ outR xs)
end
mutual
/-- No word is beyond all bounds. -/
def smT : S41 → Prop
  | ⟨w, ks⟩ => w.size ≤ 1000000000000 ∧ smL ks
def smL : List S41 → Prop
  | [] => True
  | x :: xs => smT x ∧ smL xs
end
theorem smT_eq (x : S41) : smT x = (x.f0.size ≤ 1000000000000 ∧ smL x.f1) := by cases x; rfl
theorem smL_iff {l : List S41} : smL l ↔ ∀ x ∈ l, smT x := by
  induction l with
  | nil => simp [smL]
  | cons x xs ih => simp [smL, ih]
theorem outT_eq (x : S41) : outT x = if x.f0.size = 0 then 40 :: (outL x.f1 ++ [41]) else x.f0.data.toList := by cases x; rfl

theorem out_take {l : List S41} {i : Nat} (h : i < l.length) : outL (l.take (i + 1)) = outL (l.take i) ++ ((if i = 0 then [] else [32]) ++ outT (rd_T41 l (i : Int))) := by
  have hR : ∀ (l : List S41) (i : Nat), i < l.length → outR (l.take (i + 1)) = outR (l.take i) ++ (32 :: outT (rd_T41 l (i : Int))) := by
    intro l
    induction l with
    | nil => intro i h; simp at h
    | cons x xs ih =>
      intro i h
      cases i with
      | zero => simp [outR, rd_T41]
      | succ i =>
        simp only [List.take_succ_cons, outR]
        rw [ih i (by simpa using h)]
        simp [rd_T41, List.getD]
  cases l with
  | nil => simp at h
  | cons x xs =>
    cases i with
    | zero => simp [outL, outR, rd_T41]
    | succ i =>
      simp only [List.take_succ_cons, outL]
      rw [hR xs i (by simpa using h)]
      simp [rd_T41, List.getD]
theorem outR_len : ∀ (l : List S41) (i : Nat), (outR (l.take i)).length ≤ (outR l).length
  | [], _ => by simp [outR]
  | x :: xs, 0 => by simp [outR]
  | x :: xs, i + 1 => by
    have := outR_len xs i
    simp only [List.take_succ_cons, outR, List.length_cons, List.length_append]; omega
theorem out_len (l : List S41) (i : Nat) : (outL (l.take i)).length ≤ (outL l).length := by
  cases l with
  | nil => simp [outL]
  | cons x xs =>
    cases i with
    | zero => simp [outL]
    | succ i =>
      have := outR_len xs i
      simp only [List.take_succ_cons, outL, List.length_append]; omega
theorem WrAt.move {B b : Nat} {l : List UInt8} {W W' : World} (h : WrAt B b l W) (hm : ∀ k, B ≤ k → k < W.heap.size → (k = b ∨ ∃ c, W.heap[k]? = some (.cells c 5 (0, 0))) → W'.heap[k]? = W.heap[k]?) : WrAt B b l W' := by
  have mv : ∀ {p : Value}, Lib.BuilderAt 77 5 B b p (Lib.byteCells l) W → Lib.BuilderAt 77 5 B b p (Lib.byteCells l) W' := by
    rintro p ⟨hB, v, hb, hown, hne⟩
    refine ⟨hB, v, (hm b hB (size_of hb) (.inl rfl)).trans hb, own_move hown fun k hk => ?_, hne⟩
    exact hm k (own_base hown k hk) (own_lt hown k hk) (.inr (own_typed hown k hk))
  refine ⟨h.1.elim (fun h => .inl (mv h)) (fun h => .inr (mv h)), fun hl => ?_⟩
  have hb := h.2 hl
  have hB : B ≤ b := h.1.elim (fun h => h.1) (fun h => h.1)
  exact (hm b hB (size_of hb) (.inl rfl)).trans hb
theorem box_world {wr w2 : World} {gb : Nat} {a v : Value} (hb2 : Below wr.heap.size wr w2) (hg : gb = wr.heap.size) :
    Below wr.heap.size wr ((w2.setCell ⟨gb, 0, none⟩ a).setCell ⟨gb, 1, none⟩ v) :=
  (hb2.setCell (p := ⟨gb, 0, none⟩) (by simp; omega) a).setCell (p := ⟨gb, 1, none⟩) (by simp; omega) v
theorem WrAt.lt {B b : Nat} {l : List UInt8} {W : World} (h : WrAt B b l W) : b < W.heap.size := by
  rcases h.1 with h | h
  · obtain ⟨_, v, hb, _⟩ := h; exact size_of hb
  · obtain ⟨_, v, hb, _⟩ := h; exact size_of hb
theorem box_kept {B b gb : Nat} {x y : Value} {w w' : World} (h : w.heap[gb]? = some (.cells #[x, y] 41 (0, 0))) (hk : KeepW B b w w') (hne : gb ≠ b) : w'.heap[gb]? = some (.cells #[x, y] 41 (0, 0)) :=
  (hk.2 gb (size_of h) hne (fun c _ hc => by rw [h] at hc; simp at hc)).trans h

/-- Within a round: the writer, the round's box, what is kept. -/
structure St (B b gb : Nat) (W w : World) (S : List UInt8) (x : S41) (A1 : Option Addr) (c1 : Nat) : Prop where
  wr : WrAt B b S w
  box : w.heap[gb]? = some (.cells #[.string x.f0, .slice A1 x.f1.length c1] 41 (0, 0))
  kp : KeepW B b W w
  ne : gb ≠ b
  hB : B ≤ w.heap.size
  len : S.length ≤ 262144
theorem St.next {B b gb : Nat} {W w w' : World} {S S' : List UInt8} {x : S41} {A1 : Option Addr} {c1 : Nat} (h : St B b gb W w S x A1 c1) (hw : WrAt B b S' w') (hk : KeepW B b w w') (hl : S'.length ≤ 262144) : St B b gb W w' S' x A1 c1 :=
  ⟨hw, box_kept h.box hk h.ne, h.kp.trans hk, h.ne, Nat.le_trans h.hB hk.1.size, hl⟩
theorem St.start {B b gb : Nat} {W wr w2 : World} {S : List UInt8} {x : S41} {A1 : Option Addr} {c1 : Nat} {u v : Value} (hw : WrAt B b S wr) (hk : KeepW B b W wr) (hB : B ≤ W.heap.size) (hl : S.length ≤ 262144)
    (hb2 : Below wr.heap.size wr w2) (hg : gb = wr.heap.size) (hbox : w2.heap[gb]? = some (.cells #[u, v] 41 (0, 0))) :
    St B b gb W ((w2.setCell ⟨gb, 0, none⟩ (.string x.f0)).setCell ⟨gb, 1, none⟩ (.slice A1 x.f1.length c1)) S x A1 c1 := by
  have hbw := box_world (a := .string x.f0) (v := .slice A1 x.f1.length c1) hb2 hg
  refine ⟨hw.move fun k _ hk _ => hbw.block k hk, by simpa using blk_set (blk_set hbox 0 (.string x.f0)) 1 (.slice A1 x.f1.length c1), hk.trans (KeepW.of_below hbw), ?_, ?_, hl⟩
  · have := hw.lt; omega
  · have h1 := hbw.size; have h2 := hk.1.size; omega
theorem St.word {B b gb : Nat} {W w : World} {S : List UInt8} {x : S41} {A1 : Option Addr} {c1 : Nat} (h : St B b gb W w S x A1 c1) : w.cell? ⟨gb, 0, none⟩ = some (.string x.f0) := cell_blk h.box 0 _ rfl
theorem St.kids {B b gb : Nat} {W w : World} {S : List UInt8} {x : S41} {A1 : Option Addr} {c1 : Nat} (h : St B b gb W w S x A1 c1) : w.cell? ⟨gb, 1, none⟩ = some (.slice A1 x.f1.length c1) := cell_blk h.box 1 _ rfl
theorem tot_len {t : List UInt8} {l : List S41} {i : Nat} (h : i < l.length) : (t ++ outL (l.take i)).length + (if i = 0 then [] else [(32 : UInt8)]).length + (outT (rd_T41 l (i : Int))).length ≤ (t ++ outL l).length := by
  have h1 := out_len l (i + 1)
  rw [out_take h] at h1
  simp only [List.length_append] at h1 ⊢
  omega
theorem fin_eq {t P : List UInt8} {l : List S41} {i : Nat} (h : i < l.length) (hp : (if i = 0 then [] else [32]) ++ outT (rd_T41 l (i : Int)) = P) : (t ++ outL (l.take i)) ++ P = t ++ outL (l.take (i + 1)) := by
  rw [out_take h, hp, List.append_assoc]

set_option maxHeartbeats 8000000 in
set_option maxRecDepth 100000 in
theorem row_calls (n : Nat) : ∀ (A : Option Addr) (c : Nat) (l : List S41) (B b : Nat) (t : List UInt8) (W0 W : World) (_ : Kd.C k41 W0 A l.length l) (_ : l.length ≤ c) (_ : SizeOf.sizeOf l ≤ n) (_ : smL l) (_ : WrAt B b t W) (_ : t.length ≤ 262144)
    (_ : B ≤ W.heap.size) (_ : W0.heap.size ≤ b) (_ : W0.heap.size ≤ B) (_ : Below W0.heap.size W0 W),
    Calls Tryd.prog 37 #[.pointer (some ⟨b, 0, none⟩), .slice A l.length c] W fun e w' =>
      ((t ++ outL l).length ≤ 262144 ∧ e = .returned (.tuple #[]) ∧ WrAt B b (t ++ outL l) w' ∧ KeepW B b W w') ∨ (262144 < (t ++ outL l).length ∧ e = .panicked (thrown 3) ∧ KeepW B b W w') := by
  induction n with
  | zero => intro A c l B b t W0 W _ _ hn; cases l <;> simp at hn
  | succ n ih =>
  intro A c l B b t W0 W hr hc hn hsm h ht hB hb hBb hW
  have HR := Aside0.mk hr
  have HC := Aside0.mk hc
  have HL := Aside0.mk (C_len hr)
  have HN := Aside0.mk hn
  have IH := Aside0.mk ih
  have HT := Aside0.mk ht
  have HB := Aside0.mk hB
  have Hb := Aside0.mk hb
  have HBb := Aside0.mk hBb
  have HW := Aside0.mk hW
  have HWR := Aside0.mk h
  have HSM := Aside0.mk hsm
  clear hr hc hn ih ht hB hb hBb hW h hsm
  go_enter Tryd.func37, Tryd.ntmps37
  go_wp2
  go_loopw [8] (fun v wr => ∃ i : Nat, v = .int .i64 i ∧ i ≤ l.length ∧ (t ++ outL (l.take i)).length ≤ 262144 ∧ WrAt B b (t ++ outL (l.take i)) wr ∧ KeepW B b W wr) (fun v _ => l.length - idx v)
  case atStart => exact ⟨0, rfl, Nat.zero_le _, by simp [outL]; exact HT.out, by simpa [outL] using HWR.out, KeepW.refl _ _ _⟩
  case round =>
    obtain ⟨i, rfl, hil, hti, hwr, hkw⟩ := hrel
    have HI := Aside0.mk hil
    have HTI := Aside0.mk hti
    have HWI := Aside0.mk hwr
    have HKI := Aside0.mk hkw
    clear HWR hil hti hwr hkw
    by_cases hi : i < l.length
    · have hi0 : decide ((i : Int) < (l.length : Int)) = true := by simp; exact hi
      obtain ⟨ad, A1, c1, rfl, hx0, hx1, hl1, hk1⟩ := at_T41 HR.out (i : Int) (by omega) (by omega)
      obtain ⟨x, hx⟩ : ∃ x, rd_T41 l (i : Int) = x := ⟨_, rfl⟩
      rw [hx] at hx0 hx1 hl1 hk1
      have hwb : Below W0.heap.size W0 wr := HW.out.trans (HKI.out.below HW.out.size Hb.out HBb.out)
      replace hx0 := (hwb.cell (World.block_lt_of_cell? W0 _ hx0)).trans hx0
      replace hx1 := (hwb.cell (World.block_lt_of_cell? W0 _ hx1)).trans hx1
      have HX := Aside0.mk hx
      have HL1 := Aside0.mk hl1
      have HK1 := Aside0.mk hk1
      have HWB := Aside0.mk hwb
      clear hx hl1 hk1 hwb
      obtain ⟨ii, hii⟩ : ∃ ii : Int, (i : Int) = ii := ⟨_, rfl⟩
      rw [hii] at hi0 hx0 hx1 ⊢
      have p1 : (0 ≤ ii) = True := eq_true (by omega)
      have p2 : (ii < (l.length : Int)) = True := eq_true (by omega)
      have HII := Aside0.mk hi
      have HIJ := Aside0.mk hii
      clear hi hii
      have HTOT := Aside0.mk (tot_len (t := t) HII.out)
      cases hz : decide (0 < ii) with
      | false =>
        have HI0 : Aside0 (i = 0) := ⟨by have h1 := of_decide_eq_false hz; have h2 := HIJ.out; omega⟩
        cases he : x.f0.toList.isEmpty with
        | false =>
          have HSZ : Aside0 (¬ x.f0.size = 0) := ⟨by rw [empty_size] at he; exact beq_eq_false_iff_ne.1 he⟩
          go_wp2_with (first | ((with_reducible refine gate_dst (N := 5) rfl ?_); refine box_event ?hg (N := 5) ?hd (cs := #[.string (⟨#[]⟩ : ByteArray), .slice none 0 0]) (t := 41) ?hr ?_; (case hd => rfl); (case hg => rfl); (case hr => first | (go_simp; done) | (go_simp; rfl)); intro gb hg w2 hbox hb; have HB2 := Aside0.mk hb; have HG := Aside0.mk hg; have BK := Aside0.mk hbox; have hcz0 : w2.cell? ⟨gb, 0, none⟩ = some (.string (⟨#[]⟩ : ByteArray)) := cell_blk hbox 0 _ rfl; have hcz1 : w2.cell? ⟨gb, 1, none⟩ = some (.slice none 0 0) := cell_blk hbox 1 _ rfl; have hfz0 := frozen_blk hbox 0; have hfz1 := frozen_blk hbox 1; clear hb hbox hg))
          have hst := St.start (x := x) (A1 := A1) (c1 := c1) HWI.out HKI.out HB.out HTI.out HB2.out HG.out BK.out
          obtain ⟨w3, hw3⟩ : ∃ w3, ((w2.setCell ⟨gb, 0, none⟩ (.string x.f0)).setCell ⟨gb, 1, none⟩ (.slice A1 x.f1.length c1)) = w3 := ⟨_, rfl⟩
          rw [hw3] at hst ⊢
          obtain ⟨T, hT⟩ : ∃ T, t ++ outL (l.take i) = T := ⟨_, rfl⟩
          rw [hT] at hst
          have HTD := Aside0.mk hT
          have HS := Aside0.mk hst
          have hd0 := HS.out.word
          have hd1 := HS.out.kids
          clear hst hw3 hT hcz0 hcz1 hfz0 hfz1 hx0 hx1
          by_cases hf : T.length + (x.f0 : ByteArray).size ≤ 262144
          · refine (add_yes B b T x.f0 _ HS.out.wr HS.out.hB (by have := HSZ.out; omega) hf).mono ?_
            rintro e w5 ⟨rfl, hwr5, hk5⟩
            have hs5 : St B b gb W w5 (T ++ x.f0.data.toList) x A1 c1 := HS.out.next hwr5 hk5 (by have h7 := size_eq (x.f0 : ByteArray); simp only [List.length_append] at hf ⊢; exact Nat.le_trans (Nat.le_of_eq (by first | rfl | (rw [h7]; rfl) | rw [h7])) hf)
            have HS := Aside0.mk hs5
            have hd0 := HS.out.word
            have hd1 := HS.out.kids
            clear hs5 hwr5 hk5 hf
            go_wp2_with fail
            go_roundw
            case rel =>
              have he := fin_eq (t := t) (P := (x.f0.data.toList)) HII.out (by rw [HX.out, outT_eq, if_pos HI0.out, if_neg HSZ.out]; simp)
              rw [HTD.out] at he
              have hs := HS.out
              rw [show (T ++ x.f0.data.toList) = t ++ outL (l.take (i + 1)) from by rw [← he]] at hs
              exact ⟨i + 1, by rw [← HIJ.out, wrap_i (by have := HII.out; have := HC.out; have := HL.out; omega)], HII.out, hs.len, hs.wr, hs.kp⟩
            case measure => rw [← HIJ.out, wrap_i (by have := HII.out; have := HC.out; have := HL.out; omega)]; have := HII.out; simp [idx]; try omega

          · refine (add_no B b T x.f0 _ HS.out.wr (by have h1 := smL_iff.1 HSM.out _ (rd_mem HII.out); rw [HX.out, smT_eq] at h1; exact h1.1) HS.out.len (by omega)).mono ?_
            rintro e w5 ⟨rfl, rfl⟩
            refine ⟨rfl, .inr ⟨?_, rfl, HS.out.kp⟩⟩
            have h1 := HTOT.out
            rw [HX.out, HTD.out, outT_eq, if_pos HI0.out, if_neg HSZ.out] at h1
            have h7 := size_eq x.f0
            have e32 : (⟨#[32]⟩ : ByteArray).size = 1 := rfl
            have e40 : (⟨#[40]⟩ : ByteArray).size = 1 := rfl
            have e41 : (⟨#[41]⟩ : ByteArray).size = 1 := rfl
            simp only [List.length_append, List.length_cons, List.length_nil] at h1 hf ⊢
            omega

        | true =>
          have HSZ : Aside0 (x.f0.size = 0) := ⟨by rw [empty_size] at he; exact eq_of_beq he⟩
          go_wp2_with (first | ((with_reducible refine gate_dst (N := 5) rfl ?_); refine box_event ?hg (N := 5) ?hd (cs := #[.string (⟨#[]⟩ : ByteArray), .slice none 0 0]) (t := 41) ?hr ?_; (case hd => rfl); (case hg => rfl); (case hr => first | (go_simp; done) | (go_simp; rfl)); intro gb hg w2 hbox hb; have HB2 := Aside0.mk hb; have HG := Aside0.mk hg; have BK := Aside0.mk hbox; have hcz0 : w2.cell? ⟨gb, 0, none⟩ = some (.string (⟨#[]⟩ : ByteArray)) := cell_blk hbox 0 _ rfl; have hcz1 : w2.cell? ⟨gb, 1, none⟩ = some (.slice none 0 0) := cell_blk hbox 1 _ rfl; have hfz0 := frozen_blk hbox 0; have hfz1 := frozen_blk hbox 1; clear hb hbox hg))
          have hst := St.start (x := x) (A1 := A1) (c1 := c1) HWI.out HKI.out HB.out HTI.out HB2.out HG.out BK.out
          obtain ⟨w3, hw3⟩ : ∃ w3, ((w2.setCell ⟨gb, 0, none⟩ (.string x.f0)).setCell ⟨gb, 1, none⟩ (.slice A1 x.f1.length c1)) = w3 := ⟨_, rfl⟩
          rw [hw3] at hst ⊢
          obtain ⟨T, hT⟩ : ∃ T, t ++ outL (l.take i) = T := ⟨_, rfl⟩
          rw [hT] at hst
          have HTD := Aside0.mk hT
          have HS := Aside0.mk hst
          have hd0 := HS.out.word
          have hd1 := HS.out.kids
          clear hst hw3 hT hcz0 hcz1 hfz0 hfz1 hx0 hx1
          by_cases hf : T.length + (⟨#[40]⟩ : ByteArray).size ≤ 262144
          · refine (add_yes B b T ⟨#[40]⟩ _ HS.out.wr HS.out.hB (by decide) hf).mono ?_
            rintro e w5 ⟨rfl, hwr5, hk5⟩
            have hs5 : St B b gb W w5 (T ++ [40]) x A1 c1 := HS.out.next hwr5 hk5 (by have h7 := size_eq (⟨#[40]⟩ : ByteArray); simp only [List.length_append] at hf ⊢; exact Nat.le_trans (Nat.le_of_eq (by first | rfl | (rw [h7]; rfl) | rw [h7])) hf)
            have HS := Aside0.mk hs5
            have hd0 := HS.out.word
            have hd1 := HS.out.kids
            clear hs5 hwr5 hk5 hf
            go_wp2_with fail
            refine (IH.out A1 c1 x.f1 B b (T ++ [40]) W0 _ HK1.out HL1.out (by have h1 := size41 (rd_mem HII.out); rw [HX.out] at h1; have h2 := HN.out; omega) (by have h1 := smL_iff.1 HSM.out _ (rd_mem HII.out); rw [HX.out, smT_eq] at h1; exact h1.2) HS.out.wr HS.out.len HS.out.hB Hb.out HBb.out (HW.out.trans (HS.out.kp.below HW.out.size Hb.out HBb.out))).mono ?_
            rintro e w6 (⟨hl6, rfl, hwr6, hk6⟩ | ⟨hl6, rfl, hk6⟩)
            · have hs6 := HS.out.next hwr6 hk6 hl6
              have HS := Aside0.mk hs6
              have hd0 := HS.out.word
              have hd1 := HS.out.kids
              clear hs6 hwr6 hk6 hl6
              go_wp2_with fail
              by_cases hf : ((T ++ [40]) ++ outL x.f1).length + (⟨#[41]⟩ : ByteArray).size ≤ 262144
              · refine (add_yes B b ((T ++ [40]) ++ outL x.f1) ⟨#[41]⟩ _ HS.out.wr HS.out.hB (by decide) hf).mono ?_
                rintro e w5 ⟨rfl, hwr5, hk5⟩
                have hs5 : St B b gb W w5 (((T ++ [40]) ++ outL x.f1) ++ [41]) x A1 c1 := HS.out.next hwr5 hk5 (by have h7 := size_eq (⟨#[41]⟩ : ByteArray); simp only [List.length_append] at hf ⊢; exact Nat.le_trans (Nat.le_of_eq (by first | rfl | (rw [h7]; rfl) | rw [h7])) hf)
                have HS := Aside0.mk hs5
                have hd0 := HS.out.word
                have hd1 := HS.out.kids
                clear hs5 hwr5 hk5 hf
                go_wp2_with fail
                go_roundw
                case rel =>
                  have he := fin_eq (t := t) (P := ((40 :: (outL x.f1 ++ [41])))) HII.out (by rw [HX.out, outT_eq, if_pos HI0.out, if_pos HSZ.out]; simp)
                  rw [HTD.out] at he
                  have hs := HS.out
                  rw [show (((T ++ [40]) ++ outL x.f1) ++ [41]) = t ++ outL (l.take (i + 1)) from by rw [← he]; try simp] at hs
                  exact ⟨i + 1, by rw [← HIJ.out, wrap_i (by have := HII.out; have := HC.out; have := HL.out; omega)], HII.out, hs.len, hs.wr, hs.kp⟩
                case measure => rw [← HIJ.out, wrap_i (by have := HII.out; have := HC.out; have := HL.out; omega)]; have := HII.out; simp [idx]; try omega

              · refine (add_no B b ((T ++ [40]) ++ outL x.f1) ⟨#[41]⟩ _ HS.out.wr (by decide) HS.out.len (by omega)).mono ?_
                rintro e w5 ⟨rfl, rfl⟩
                refine ⟨rfl, .inr ⟨?_, rfl, HS.out.kp⟩⟩
                have h1 := HTOT.out
                rw [HX.out, HTD.out, outT_eq, if_pos HI0.out, if_pos HSZ.out] at h1
                have h7 := size_eq x.f0
                have e32 : (⟨#[32]⟩ : ByteArray).size = 1 := rfl
                have e40 : (⟨#[40]⟩ : ByteArray).size = 1 := rfl
                have e41 : (⟨#[41]⟩ : ByteArray).size = 1 := rfl
                simp only [List.length_append, List.length_cons, List.length_nil] at h1 hf ⊢
                omega

            · refine ⟨rfl, .inr ⟨?_, rfl, HS.out.kp.trans hk6⟩⟩
              have h1 := HTOT.out
              rw [HX.out, HTD.out, outT_eq, if_pos HI0.out, if_pos HSZ.out] at h1
              have h7 := size_eq x.f0
              have e32 : (⟨#[32]⟩ : ByteArray).size = 1 := rfl
              have e40 : (⟨#[40]⟩ : ByteArray).size = 1 := rfl
              have e41 : (⟨#[41]⟩ : ByteArray).size = 1 := rfl
              simp only [List.length_append, List.length_cons, List.length_nil] at h1 hl6 ⊢
              omega

          · refine (add_no B b T ⟨#[40]⟩ _ HS.out.wr (by decide) HS.out.len (by omega)).mono ?_
            rintro e w5 ⟨rfl, rfl⟩
            refine ⟨rfl, .inr ⟨?_, rfl, HS.out.kp⟩⟩
            have h1 := HTOT.out
            rw [HX.out, HTD.out, outT_eq, if_pos HI0.out, if_pos HSZ.out] at h1
            have h7 := size_eq x.f0
            have e32 : (⟨#[32]⟩ : ByteArray).size = 1 := rfl
            have e40 : (⟨#[40]⟩ : ByteArray).size = 1 := rfl
            have e41 : (⟨#[41]⟩ : ByteArray).size = 1 := rfl
            simp only [List.length_append, List.length_cons, List.length_nil] at h1 hf ⊢
            omega

      | true =>
        have HI0 : Aside0 (¬ i = 0) := ⟨by have h1 := of_decide_eq_true hz; have h2 := HIJ.out; omega⟩
        cases he : x.f0.toList.isEmpty with
        | false =>
          have HSZ : Aside0 (¬ x.f0.size = 0) := ⟨by rw [empty_size] at he; exact beq_eq_false_iff_ne.1 he⟩
          go_wp2_with (first | ((with_reducible refine gate_dst (N := 5) rfl ?_); refine box_event ?hg (N := 5) ?hd (cs := #[.string (⟨#[]⟩ : ByteArray), .slice none 0 0]) (t := 41) ?hr ?_; (case hd => rfl); (case hg => rfl); (case hr => first | (go_simp; done) | (go_simp; rfl)); intro gb hg w2 hbox hb; have HB2 := Aside0.mk hb; have HG := Aside0.mk hg; have BK := Aside0.mk hbox; have hcz0 : w2.cell? ⟨gb, 0, none⟩ = some (.string (⟨#[]⟩ : ByteArray)) := cell_blk hbox 0 _ rfl; have hcz1 : w2.cell? ⟨gb, 1, none⟩ = some (.slice none 0 0) := cell_blk hbox 1 _ rfl; have hfz0 := frozen_blk hbox 0; have hfz1 := frozen_blk hbox 1; clear hb hbox hg))
          have hst := St.start (x := x) (A1 := A1) (c1 := c1) HWI.out HKI.out HB.out HTI.out HB2.out HG.out BK.out
          obtain ⟨w3, hw3⟩ : ∃ w3, ((w2.setCell ⟨gb, 0, none⟩ (.string x.f0)).setCell ⟨gb, 1, none⟩ (.slice A1 x.f1.length c1)) = w3 := ⟨_, rfl⟩
          rw [hw3] at hst ⊢
          obtain ⟨T, hT⟩ : ∃ T, t ++ outL (l.take i) = T := ⟨_, rfl⟩
          rw [hT] at hst
          have HTD := Aside0.mk hT
          have HS := Aside0.mk hst
          have hd0 := HS.out.word
          have hd1 := HS.out.kids
          clear hst hw3 hT hcz0 hcz1 hfz0 hfz1 hx0 hx1
          by_cases hf : T.length + (⟨#[32]⟩ : ByteArray).size ≤ 262144
          · refine (add_yes B b T ⟨#[32]⟩ _ HS.out.wr HS.out.hB (by decide) hf).mono ?_
            rintro e w5 ⟨rfl, hwr5, hk5⟩
            have hs5 : St B b gb W w5 (T ++ [32]) x A1 c1 := HS.out.next hwr5 hk5 (by have h7 := size_eq (⟨#[32]⟩ : ByteArray); simp only [List.length_append] at hf ⊢; exact Nat.le_trans (Nat.le_of_eq (by first | rfl | (rw [h7]; rfl) | rw [h7])) hf)
            have HS := Aside0.mk hs5
            have hd0 := HS.out.word
            have hd1 := HS.out.kids
            clear hs5 hwr5 hk5 hf
            go_wp2_with fail
            by_cases hf : (T ++ [32]).length + (x.f0 : ByteArray).size ≤ 262144
            · refine (add_yes B b (T ++ [32]) x.f0 _ HS.out.wr HS.out.hB (by have := HSZ.out; omega) hf).mono ?_
              rintro e w5 ⟨rfl, hwr5, hk5⟩
              have hs5 : St B b gb W w5 ((T ++ [32]) ++ x.f0.data.toList) x A1 c1 := HS.out.next hwr5 hk5 (by have h7 := size_eq (x.f0 : ByteArray); simp only [List.length_append] at hf ⊢; exact Nat.le_trans (Nat.le_of_eq (by first | rfl | (rw [h7]; rfl) | rw [h7])) hf)
              have HS := Aside0.mk hs5
              have hd0 := HS.out.word
              have hd1 := HS.out.kids
              clear hs5 hwr5 hk5 hf
              go_wp2_with fail
              go_roundw
              case rel =>
                have he := fin_eq (t := t) (P := (32 :: x.f0.data.toList)) HII.out (by rw [HX.out, outT_eq, if_neg HI0.out, if_neg HSZ.out]; simp)
                rw [HTD.out] at he
                have hs := HS.out
                rw [show ((T ++ [32]) ++ x.f0.data.toList) = t ++ outL (l.take (i + 1)) from by rw [← he]; try simp] at hs
                exact ⟨i + 1, by rw [← HIJ.out, wrap_i (by have := HII.out; have := HC.out; have := HL.out; omega)], HII.out, hs.len, hs.wr, hs.kp⟩
              case measure => rw [← HIJ.out, wrap_i (by have := HII.out; have := HC.out; have := HL.out; omega)]; have := HII.out; simp [idx]; try omega

            · refine (add_no B b (T ++ [32]) x.f0 _ HS.out.wr (by have h1 := smL_iff.1 HSM.out _ (rd_mem HII.out); rw [HX.out, smT_eq] at h1; exact h1.1) HS.out.len (by omega)).mono ?_
              rintro e w5 ⟨rfl, rfl⟩
              refine ⟨rfl, .inr ⟨?_, rfl, HS.out.kp⟩⟩
              have h1 := HTOT.out
              rw [HX.out, HTD.out, outT_eq, if_neg HI0.out, if_neg HSZ.out] at h1
              have h7 := size_eq x.f0
              have e32 : (⟨#[32]⟩ : ByteArray).size = 1 := rfl
              have e40 : (⟨#[40]⟩ : ByteArray).size = 1 := rfl
              have e41 : (⟨#[41]⟩ : ByteArray).size = 1 := rfl
              simp only [List.length_append, List.length_cons, List.length_nil] at h1 hf ⊢
              omega

          · refine (add_no B b T ⟨#[32]⟩ _ HS.out.wr (by decide) HS.out.len (by omega)).mono ?_
            rintro e w5 ⟨rfl, rfl⟩
            refine ⟨rfl, .inr ⟨?_, rfl, HS.out.kp⟩⟩
            have h1 := HTOT.out
            rw [HX.out, HTD.out, outT_eq, if_neg HI0.out, if_neg HSZ.out] at h1
            have h7 := size_eq x.f0
            have e32 : (⟨#[32]⟩ : ByteArray).size = 1 := rfl
            have e40 : (⟨#[40]⟩ : ByteArray).size = 1 := rfl
            have e41 : (⟨#[41]⟩ : ByteArray).size = 1 := rfl
            simp only [List.length_append, List.length_cons, List.length_nil] at h1 hf ⊢
            omega

        | true =>
          have HSZ : Aside0 (x.f0.size = 0) := ⟨by rw [empty_size] at he; exact eq_of_beq he⟩
          go_wp2_with (first | ((with_reducible refine gate_dst (N := 5) rfl ?_); refine box_event ?hg (N := 5) ?hd (cs := #[.string (⟨#[]⟩ : ByteArray), .slice none 0 0]) (t := 41) ?hr ?_; (case hd => rfl); (case hg => rfl); (case hr => first | (go_simp; done) | (go_simp; rfl)); intro gb hg w2 hbox hb; have HB2 := Aside0.mk hb; have HG := Aside0.mk hg; have BK := Aside0.mk hbox; have hcz0 : w2.cell? ⟨gb, 0, none⟩ = some (.string (⟨#[]⟩ : ByteArray)) := cell_blk hbox 0 _ rfl; have hcz1 : w2.cell? ⟨gb, 1, none⟩ = some (.slice none 0 0) := cell_blk hbox 1 _ rfl; have hfz0 := frozen_blk hbox 0; have hfz1 := frozen_blk hbox 1; clear hb hbox hg))
          have hst := St.start (x := x) (A1 := A1) (c1 := c1) HWI.out HKI.out HB.out HTI.out HB2.out HG.out BK.out
          obtain ⟨w3, hw3⟩ : ∃ w3, ((w2.setCell ⟨gb, 0, none⟩ (.string x.f0)).setCell ⟨gb, 1, none⟩ (.slice A1 x.f1.length c1)) = w3 := ⟨_, rfl⟩
          rw [hw3] at hst ⊢
          obtain ⟨T, hT⟩ : ∃ T, t ++ outL (l.take i) = T := ⟨_, rfl⟩
          rw [hT] at hst
          have HTD := Aside0.mk hT
          have HS := Aside0.mk hst
          have hd0 := HS.out.word
          have hd1 := HS.out.kids
          clear hst hw3 hT hcz0 hcz1 hfz0 hfz1 hx0 hx1
          by_cases hf : T.length + (⟨#[32]⟩ : ByteArray).size ≤ 262144
          · refine (add_yes B b T ⟨#[32]⟩ _ HS.out.wr HS.out.hB (by decide) hf).mono ?_
            rintro e w5 ⟨rfl, hwr5, hk5⟩
            have hs5 : St B b gb W w5 (T ++ [32]) x A1 c1 := HS.out.next hwr5 hk5 (by have h7 := size_eq (⟨#[32]⟩ : ByteArray); simp only [List.length_append] at hf ⊢; exact Nat.le_trans (Nat.le_of_eq (by first | rfl | (rw [h7]; rfl) | rw [h7])) hf)
            have HS := Aside0.mk hs5
            have hd0 := HS.out.word
            have hd1 := HS.out.kids
            clear hs5 hwr5 hk5 hf
            go_wp2_with fail
            by_cases hf : (T ++ [32]).length + (⟨#[40]⟩ : ByteArray).size ≤ 262144
            · refine (add_yes B b (T ++ [32]) ⟨#[40]⟩ _ HS.out.wr HS.out.hB (by decide) hf).mono ?_
              rintro e w5 ⟨rfl, hwr5, hk5⟩
              have hs5 : St B b gb W w5 ((T ++ [32]) ++ [40]) x A1 c1 := HS.out.next hwr5 hk5 (by have h7 := size_eq (⟨#[40]⟩ : ByteArray); simp only [List.length_append] at hf ⊢; exact Nat.le_trans (Nat.le_of_eq (by first | rfl | (rw [h7]; rfl) | rw [h7])) hf)
              have HS := Aside0.mk hs5
              have hd0 := HS.out.word
              have hd1 := HS.out.kids
              clear hs5 hwr5 hk5 hf
              go_wp2_with fail
              refine (IH.out A1 c1 x.f1 B b ((T ++ [32]) ++ [40]) W0 _ HK1.out HL1.out (by have h1 := size41 (rd_mem HII.out); rw [HX.out] at h1; have h2 := HN.out; omega) (by have h1 := smL_iff.1 HSM.out _ (rd_mem HII.out); rw [HX.out, smT_eq] at h1; exact h1.2) HS.out.wr HS.out.len HS.out.hB Hb.out HBb.out (HW.out.trans (HS.out.kp.below HW.out.size Hb.out HBb.out))).mono ?_
              rintro e w6 (⟨hl6, rfl, hwr6, hk6⟩ | ⟨hl6, rfl, hk6⟩)
              · have hs6 := HS.out.next hwr6 hk6 hl6
                have HS := Aside0.mk hs6
                have hd0 := HS.out.word
                have hd1 := HS.out.kids
                clear hs6 hwr6 hk6 hl6
                go_wp2_with fail
                by_cases hf : (((T ++ [32]) ++ [40]) ++ outL x.f1).length + (⟨#[41]⟩ : ByteArray).size ≤ 262144
                · refine (add_yes B b (((T ++ [32]) ++ [40]) ++ outL x.f1) ⟨#[41]⟩ _ HS.out.wr HS.out.hB (by decide) hf).mono ?_
                  rintro e w5 ⟨rfl, hwr5, hk5⟩
                  have hs5 : St B b gb W w5 ((((T ++ [32]) ++ [40]) ++ outL x.f1) ++ [41]) x A1 c1 := HS.out.next hwr5 hk5 (by have h7 := size_eq (⟨#[41]⟩ : ByteArray); simp only [List.length_append] at hf ⊢; exact Nat.le_trans (Nat.le_of_eq (by first | rfl | (rw [h7]; rfl) | rw [h7])) hf)
                  have HS := Aside0.mk hs5
                  have hd0 := HS.out.word
                  have hd1 := HS.out.kids
                  clear hs5 hwr5 hk5 hf
                  go_wp2_with fail
                  go_roundw
                  case rel =>
                    have he := fin_eq (t := t) (P := (32 :: (40 :: (outL x.f1 ++ [41])))) HII.out (by rw [HX.out, outT_eq, if_neg HI0.out, if_pos HSZ.out]; simp)
                    rw [HTD.out] at he
                    have hs := HS.out
                    rw [show ((((T ++ [32]) ++ [40]) ++ outL x.f1) ++ [41]) = t ++ outL (l.take (i + 1)) from by rw [← he]; try simp] at hs
                    exact ⟨i + 1, by rw [← HIJ.out, wrap_i (by have := HII.out; have := HC.out; have := HL.out; omega)], HII.out, hs.len, hs.wr, hs.kp⟩
                  case measure => rw [← HIJ.out, wrap_i (by have := HII.out; have := HC.out; have := HL.out; omega)]; have := HII.out; simp [idx]; try omega

                · refine (add_no B b (((T ++ [32]) ++ [40]) ++ outL x.f1) ⟨#[41]⟩ _ HS.out.wr (by decide) HS.out.len (by omega)).mono ?_
                  rintro e w5 ⟨rfl, rfl⟩
                  refine ⟨rfl, .inr ⟨?_, rfl, HS.out.kp⟩⟩
                  have h1 := HTOT.out
                  rw [HX.out, HTD.out, outT_eq, if_neg HI0.out, if_pos HSZ.out] at h1
                  have h7 := size_eq x.f0
                  have e32 : (⟨#[32]⟩ : ByteArray).size = 1 := rfl
                  have e40 : (⟨#[40]⟩ : ByteArray).size = 1 := rfl
                  have e41 : (⟨#[41]⟩ : ByteArray).size = 1 := rfl
                  simp only [List.length_append, List.length_cons, List.length_nil] at h1 hf ⊢
                  omega

              · refine ⟨rfl, .inr ⟨?_, rfl, HS.out.kp.trans hk6⟩⟩
                have h1 := HTOT.out
                rw [HX.out, HTD.out, outT_eq, if_neg HI0.out, if_pos HSZ.out] at h1
                have h7 := size_eq x.f0
                have e32 : (⟨#[32]⟩ : ByteArray).size = 1 := rfl
                have e40 : (⟨#[40]⟩ : ByteArray).size = 1 := rfl
                have e41 : (⟨#[41]⟩ : ByteArray).size = 1 := rfl
                simp only [List.length_append, List.length_cons, List.length_nil] at h1 hl6 ⊢
                omega

            · refine (add_no B b (T ++ [32]) ⟨#[40]⟩ _ HS.out.wr (by decide) HS.out.len (by omega)).mono ?_
              rintro e w5 ⟨rfl, rfl⟩
              refine ⟨rfl, .inr ⟨?_, rfl, HS.out.kp⟩⟩
              have h1 := HTOT.out
              rw [HX.out, HTD.out, outT_eq, if_neg HI0.out, if_pos HSZ.out] at h1
              have h7 := size_eq x.f0
              have e32 : (⟨#[32]⟩ : ByteArray).size = 1 := rfl
              have e40 : (⟨#[40]⟩ : ByteArray).size = 1 := rfl
              have e41 : (⟨#[41]⟩ : ByteArray).size = 1 := rfl
              simp only [List.length_append, List.length_cons, List.length_nil] at h1 hf ⊢
              omega

          · refine (add_no B b T ⟨#[32]⟩ _ HS.out.wr (by decide) HS.out.len (by omega)).mono ?_
            rintro e w5 ⟨rfl, rfl⟩
            refine ⟨rfl, .inr ⟨?_, rfl, HS.out.kp⟩⟩
            have h1 := HTOT.out
            rw [HX.out, HTD.out, outT_eq, if_neg HI0.out, if_pos HSZ.out] at h1
            have h7 := size_eq x.f0
            have e32 : (⟨#[32]⟩ : ByteArray).size = 1 := rfl
            have e40 : (⟨#[40]⟩ : ByteArray).size = 1 := rfl
            have e41 : (⟨#[41]⟩ : ByteArray).size = 1 := rfl
            simp only [List.length_append, List.length_cons, List.length_nil] at h1 hf ⊢
            omega

    · have hi0 : decide ((i : Int) < (l.length : Int)) = false := by simp; omega
      go_wp2
      go_end0
      obtain rfl : i = l.length := by have := HI.out; omega
      have h1 := HTI.out
      have h2 := HWI.out
      rw [List.take_length] at h1 h2
      exact .inl ⟨h1, rfl, h2, HKI.out⟩
end Go.Proofs.YtmjnodjjnjckiaaDoor

/- Plain: what the document's functions over trees tell. -/
import Derived.Test.YtmjnodjjnjckiaaDoorT
import Derived.Test.YtmjnodjjnjckiaaDoorPLinesx2
import Derived.Test.YtmjnodjjnjckiaaDoorPLinesx5
namespace Go.Proofs.YtmjnodjjnjckiaaDoor
open Go.RowKit Go.Proofs.YtmjnodjjnjckiaaDoorW.PrintWords PLines Go.Proofs.YtmjnodjjnjckiaaDoorW.PrintLast Go.Proofs.YtmjnodjjnjckiaaDoorW.PrintMore

mutual
def tuT : S41 → S44
  | ⟨w, ks⟩ => ⟨w, tuL ks⟩
def tuL : List S41 → List S44
  | [] => []
  | x :: xs => tuT x :: tuL xs
end
theorem tuT_eq (x : S41) : tuT x = ⟨x.f0, tuL x.f1⟩ := by cases x; rfl
theorem tu_len : ∀ l : List S41, (tuL l).length = l.length
  | [] => rfl
  | x :: xs => by simp [tuL, tu_len xs]
theorem tu_get : ∀ (l : List S41) (i : Nat) (h : i < l.length), (tuL l)[i]'(by rw [tu_len]; exact h) = tuT l[i]
  | x :: xs, 0, _ => rfl
  | x :: xs, i + 1, h => tu_get xs i (by simpa using h)
theorem rd_tu {l : List S41} {i : Nat} (h : i < l.length) : rd_T44 (tuL l) (i : Int) = ⟨(rd_T41 l (i : Int)).f0, tuL (rd_T41 l (i : Int)).f1⟩ := by
  rw [← tuT_eq]
  unfold rd_T44 rd_T41
  have h' : i < (tuL l).length := by rw [tu_len]; exact h
  simp only [Int.toNat_natCast, List.getD]
  rw [List.getElem?_eq_getElem h, List.getElem?_eq_getElem h', tu_get l i h]
  rfl
theorem tu_append (a b : List S41) : tuL (a ++ b) = tuL a ++ tuL b := by
  induction a with
  | nil => rfl
  | cons x xs ih => simp only [List.cons_append, tuL, ih]
theorem take_rd {l : List S41} {i : Nat} (h : i < l.length) : l.take (i + 1) = l.take i ++ [rd_T41 l (i : Int)] := by
  rw [List.take_add_one]
  congr 1
  simp [rd_T41, List.getD, h]

theorem eta41 (x : S41) : (⟨x.f0, x.f1⟩ : S41) = x := by cases x; rfl
/-! ### copied, turned, same -/
theorem copied_loop {l : List S41} (hw : l.length ≤ 1000000000000) (hf : ∀ x ∈ l, Ev (fun k => spandrellaw30_copied.f k x.f1) x.f1) : ∀ (j i : Nat), i + j = l.length → Ev (fun k => spandrellaw30_copied.l0 k l (l.take i) (i : Int)) l
  | 0, i, h => by
    refine ⟨1, fun k hk => ?_⟩
    obtain ⟨k, rfl, _⟩ := succ_of hk
    simp only [spandrellaw30_copied.l0]
    rw [if_neg (by omega), List.take_of_length_le (by omega)]
  | j + 1, i, h => by
    have hi : i < l.length := by omega
    obtain ⟨k1, h1⟩ := hf _ (rd_mem hi)
    obtain ⟨k2, h2⟩ := copied_loop hw hf j (i + 1) (by omega)
    dsimp only at h1 h2
    refine ⟨max k1 k2 + 1, fun k hk => ?_⟩
    obtain ⟨k, rfl, hk⟩ := succ_of hk
    simp only [spandrellaw30_copied.l0]
    rw [if_pos (by omega), if_pos (by omega), h1 k (by omega), Option.bind_some, if_pos (by rw [List.length_take]; omega), wrap_i (by omega)]
    rw [← h2 k (by omega), take_rd hi, eta41]
theorem copied_ev (n : Nat) : ∀ l : List S41, SizeOf.sizeOf l ≤ n → wtL l ≤ 1000000000000 → Ev (fun k => spandrellaw30_copied.f k l) l := by
  induction n with
  | zero => intro l h; cases l <;> simp at h
  | succ n ih =>
    intro l h hw
    have hf : ∀ x ∈ l, Ev (fun k => spandrellaw30_copied.f k x.f1) x.f1 := fun x hx => by
      have h1 := wt_mem hx
      rw [wtT_eq] at h1
      exact ih x.f1 (by have := size41 hx; omega) (by omega)
    obtain ⟨k, hk⟩ := copied_loop (by have := wt_len l; omega) hf l.length 0 (by omega)
    refine ⟨k + 1, fun k' hk' => ?_⟩
    obtain ⟨k', rfl, hk'⟩ := succ_of hk'
    have := hk k' (by omega)
    simpa [spandrellaw30_copied.f] using this
theorem turned_loop {l : List S41} (hw : l.length ≤ 1000000000000) (hf : ∀ x ∈ l, Ev (fun k => spandrellaw30_turned.f k x.f1) (tuL x.f1)) : ∀ (j i : Nat), i + j = l.length → Ev (fun k => spandrellaw30_turned.l0 k l (tuL (l.take i)) (i : Int)) (tuL l)
  | 0, i, h => by
    refine ⟨1, fun k hk => ?_⟩
    obtain ⟨k, rfl, _⟩ := succ_of hk
    simp only [spandrellaw30_turned.l0]
    rw [if_neg (by omega), List.take_of_length_le (by omega)]
  | j + 1, i, h => by
    have hi : i < l.length := by omega
    obtain ⟨k1, h1⟩ := hf _ (rd_mem hi)
    obtain ⟨k2, h2⟩ := turned_loop hw hf j (i + 1) (by omega)
    dsimp only at h1 h2
    refine ⟨max k1 k2 + 1, fun k hk => ?_⟩
    obtain ⟨k, rfl, hk⟩ := succ_of hk
    simp only [spandrellaw30_turned.l0]
    rw [if_pos (by omega), if_pos (by omega), h1 k (by omega), Option.bind_some, if_pos (by rw [tu_len, List.length_take]; omega), wrap_i (by omega)]
    rw [← h2 k (by omega), take_rd hi, tu_append]
    simp only [tuL, tuT_eq]
theorem turned_ev (n : Nat) : ∀ l : List S41, SizeOf.sizeOf l ≤ n → wtL l ≤ 1000000000000 → Ev (fun k => spandrellaw30_turned.f k l) (tuL l) := by
  induction n with
  | zero => intro l h; cases l <;> simp at h
  | succ n ih =>
    intro l h hw
    have hf : ∀ x ∈ l, Ev (fun k => spandrellaw30_turned.f k x.f1) (tuL x.f1) := fun x hx => by
      have h1 := wt_mem hx
      rw [wtT_eq] at h1
      exact ih x.f1 (by have := size41 hx; omega) (by omega)
    obtain ⟨k, hk⟩ := turned_loop (by have := wt_len l; omega) hf l.length 0 (by omega)
    refine ⟨k + 1, fun k' hk' => ?_⟩
    obtain ⟨k', rfl, hk'⟩ := succ_of hk'
    have := hk k' (by omega)
    simpa [spandrellaw30_turned.f, tuL] using this
theorem same_loop {l : List S41} (hw : l.length ≤ 1000000000000) (hf : ∀ x ∈ l, Ev (fun k => spandrellaw30_same.f k x.f1 (tuL x.f1)) true) : ∀ (j i : Nat), i + j = l.length → Ev (fun k => spandrellaw30_same.l0 k l (tuL l) (i : Int)) true
  | 0, i, h => by
    refine ⟨1, fun k hk => ?_⟩
    obtain ⟨k, rfl, _⟩ := succ_of hk
    simp only [spandrellaw30_same.l0]
    rw [if_neg (by omega)]
  | j + 1, i, h => by
    have hi : i < l.length := by omega
    obtain ⟨k1, h1⟩ := hf _ (rd_mem hi)
    obtain ⟨k2, h2⟩ := same_loop hw hf j (i + 1) (by omega)
    dsimp only at h1 h2
    refine ⟨max k1 k2 + 1, fun k hk => ?_⟩
    obtain ⟨k, rfl, hk⟩ := succ_of hk
    simp only [spandrellaw30_same.l0]
    rw [if_pos (by omega), if_pos (by omega), if_pos (by rw [tu_len]; omega), rd_tu hi, if_pos rfl]
    simp only []
    rw [h1 k (by omega), Option.bind_some, if_pos rfl, wrap_i (by omega), h2 k (by omega)]
theorem same_ev (n : Nat) : ∀ l : List S41, SizeOf.sizeOf l ≤ n → wtL l ≤ 1000000000000 → Ev (fun k => spandrellaw30_same.f k l (tuL l)) true := by
  induction n with
  | zero => intro l h; cases l <;> simp at h
  | succ n ih =>
    intro l h hw
    have hf : ∀ x ∈ l, Ev (fun k => spandrellaw30_same.f k x.f1 (tuL x.f1)) true := fun x hx => by
      have h1 := wt_mem hx
      rw [wtT_eq] at h1
      exact ih x.f1 (by have := size41 hx; omega) (by omega)
    obtain ⟨k, hk⟩ := same_loop (by have := wt_len l; omega) hf l.length 0 (by omega)
    refine ⟨k + 1, fun k' hk' => ?_⟩
    obtain ⟨k', rfl, hk'⟩ := succ_of hk'
    simp only [spandrellaw30_same.f]
    rw [if_pos (by rw [tu_len])]
    exact hk k' (by omega)

/-! ### the document's Deep -/
theorem rdeep_loop {l : List S41} {a : ByteArray} (hw : wtL l ≤ 1000000000000) (hf : ∀ x ∈ l, Ev (fun k => spandrelref30_Deep.f k x.f0 (tuL x.f1)) ((deT x : Nat) : Int)) : ∀ (j i acc : Nat), i + j = l.length → acc ≤ 1000000000000 →
    Ev (fun k => spandrelref30_Deep.l0 k (acc : Int) (i : Int) a (tuL l)) ((max acc (deL (l.drop i)) + 1 : Nat) : Int)
  | 0, i, acc, h, ha => by
    refine ⟨1, fun k hk => ?_⟩
    obtain ⟨k, rfl, _⟩ := succ_of hk
    simp only [spandrelref30_Deep.l0]
    rw [if_neg (by rw [tu_len]; omega), wrap_i (by omega), List.drop_of_length_le (by omega)]
    simp [deL]
  | j + 1, i, acc, h, ha => by
    have hi : i < l.length := by omega
    have hlen := wt_len l
    have hm := rd_mem hi
    have hd : deT (rd_T41 l (i : Int)) ≤ 1000000000000 := by
      have h1 := wt_mem hm
      rw [deT_eq]
      rw [wtT_eq] at h1
      have h2 := de_wt _ (rd_T41 l (i : Int)).f1 (Nat.le_refl _)
      omega
    obtain ⟨k1, h1⟩ := hf _ hm
    obtain ⟨k2, h2⟩ := rdeep_loop hw hf j (i + 1) (max acc (deT (rd_T41 l (i : Int)))) (by omega) (by omega)
    dsimp only at h1 h2
    refine ⟨max k1 k2 + 1, fun k hk => ?_⟩
    obtain ⟨k, rfl, hk⟩ := succ_of hk
    simp only [spandrelref30_Deep.l0]
    rw [if_pos (by rw [tu_len]; omega), if_pos (by omega), rd_tu hi]
    simp only []
    rw [h1 k (by omega), Option.bind_some, wrap_i (by omega)]
    have hmx : mx (acc : Int) ((deT (rd_T41 l (i : Int)) : Nat) : Int) = ((max acc (deT (rd_T41 l (i : Int))) : Nat) : Int) := by unfold mx; split <;> omega
    rw [hmx, h2 k (by omega), drop_rd hi]
    simp only [deL]
    congr 2
    omega
theorem rdeep_f (n : Nat) : ∀ l : List S41, SizeOf.sizeOf l ≤ n → wtL l ≤ 1000000000000 → ∀ a, Ev (fun k => spandrelref30_Deep.f k a (tuL l)) ((deL l + 1 : Nat) : Int) := by
  induction n with
  | zero => intro l h; cases l <;> simp at h
  | succ n ih =>
    intro l h hw a
    have hf : ∀ x ∈ l, Ev (fun k => spandrelref30_Deep.f k x.f0 (tuL x.f1)) ((deT x : Nat) : Int) := fun x hx => by
      rw [deT_eq]
      have h1 := wt_mem hx
      rw [wtT_eq] at h1
      exact ih x.f1 (by have := size41 hx; omega) (by omega) _
    obtain ⟨k, hk⟩ := rdeep_loop (a := a) hw hf l.length 0 0 (by omega) (by omega)
    refine ⟨k + 1, fun k' hk' => ?_⟩
    obtain ⟨k', rfl, hk'⟩ := succ_of hk'
    have := hk k' (by omega)
    simpa [spandrelref30_Deep.f] using this
theorem rdeep_ev {x : S41} (hw : wtT x ≤ 1000000000000) : Ev (fun k => spandrelref30_Deep.f k x.f0 (tuL x.f1)) ((deT x : Nat) : Int) := by
  rw [wtT_eq] at hw
  rw [deT_eq]
  exact rdeep_f _ x.f1 (Nat.le_refl _) (by omega) x.f0

/-! ### the document's right -/
theorem blank_f (c : UInt8) : spandrelref30_blank.f ((c.toNat : Nat) : Int) = some (isBlank c) := by
  have := byte_cases (fun c => spandrelref30_blank.f ((c.toNat : Nat) : Int) == some (isBlank c)) (by decide +kernel) c
  exact eq_of_beq this
theorem sign_f (c : UInt8) : spandrelref30_sign.f ((c.toNat : Nat) : Int) = some (isSign c) := by
  have := byte_cases (fun c => spandrelref30_sign.f ((c.toNat : Nat) : Int) == some (isSign c)) (by decide +kernel) c
  exact eq_of_beq this
theorem bt_get {w : ByteArray} {i : Nat} (h : i < w.data.toList.length) : bt w (i : Int) = ((w.data.toList[i].toNat : Nat) : Int) := by
  have h' : i < w.size := by rw [size_eq]; exact h
  unfold bt
  rw [dif_pos (by simpa using h')]
  rfl
theorem semi_iff (c : UInt8) : ((c.toNat : Nat) : Int) = 59 ↔ (c == 59) = true := by
  have := byte_cases (fun c => (decide (((c.toNat : Nat) : Int) = 59)) == (c == 59)) (by decide +kernel) c
  have := eq_of_beq this
  rw [← this]; simp
theorem right_kids {l : List S41} {w : ByteArray} (hw : l.length ≤ 1000000000000) (hf : ∀ x ∈ l, Ev (fun k => spandrelref30_right.f k x.f0 (tuL x.f1)) (okT x)) : ∀ (j i : Nat), i + j = l.length →
    Ev (fun k => spandrelref30_right.l1 k (i : Int) w (tuL l)) (okL (l.drop i) && (w.size == 0 || l.isEmpty))
  | 0, i, h => by
    refine ⟨1, fun k hk => ?_⟩
    obtain ⟨k, rfl, _⟩ := succ_of hk
    simp only [spandrelref30_right.l1]
    rw [if_neg (by rw [tu_len]; omega), List.drop_of_length_le (by omega), tu_len, ByteArray.toList_eq]
    have hs := size_eq w
    by_cases hn : w.data.toList = []
    · rw [if_pos hn]
      rw [hn] at hs
      simp only [okL, Bool.true_and]
      rw [hs]; rfl
    · rw [if_neg hn, len_zero]
      have : (w.size == 0) = false := by
        rw [hs]
        cases hl : w.data.toList with
        | nil => exact absurd hl hn
        | cons => rfl
      rw [this]; simp [okL]
  | j + 1, i, h => by
    have hi : i < l.length := by omega
    obtain ⟨k1, h1⟩ := hf _ (rd_mem hi)
    obtain ⟨k2, h2⟩ := right_kids (w := w) hw hf j (i + 1) (by omega)
    dsimp only at h1 h2
    refine ⟨max k1 k2 + 1, fun k hk => ?_⟩
    obtain ⟨k, rfl, hk⟩ := succ_of hk
    simp only [spandrelref30_right.l1]
    rw [if_pos (by rw [tu_len]; omega), if_pos (by omega), rd_tu hi]
    simp only []
    rw [h1 k (by omega), Option.bind_some, wrap_i (by omega), h2 k (by omega), drop_rd hi]
    simp only [okL]
    cases okT (rd_T41 l (i : Int)) <;> simp
theorem right_bytes {l : List S41} {w : ByteArray} {b : Bool} (hw : w.size ≤ 1000000000000) (hk : Ev (fun k => spandrelref30_right.l1 k 0 w (tuL l)) b) : ∀ (j i : Nat), i + j = w.size →
    Ev (fun k => spandrelref30_right.l0 k (i : Int) w (tuL l)) (!(w.data.toList.drop i).any isEnd && b)
  | 0, i, h => by
    obtain ⟨k1, h1⟩ := hk
    dsimp only at h1
    have hs := size_eq w
    refine ⟨k1 + 1, fun k hk => ?_⟩
    obtain ⟨k, rfl, hk⟩ := succ_of hk
    simp only [spandrelref30_right.l0]
    rw [if_neg (by omega), h1 k (by omega), List.drop_of_length_le (by omega)]
    rfl
  | j + 1, i, h => by
    have hs := size_eq w
    have hi : i < w.data.toList.length := by omega
    obtain ⟨k2, h2⟩ := right_bytes hw hk j (i + 1) (by omega)
    dsimp only at h2
    refine ⟨k2 + 1, fun k hk => ?_⟩
    obtain ⟨k, rfl, hk⟩ := succ_of hk
    simp only [spandrelref30_right.l0]
    rw [if_pos (by omega), if_pos (by omega), bt_get hi, blank_f, Option.bind_some, sign_f, Option.bind_some, wrap_i (by omega), h2 k (by omega), List.drop_eq_getElem_cons hi, List.any_cons, end_iff]
    have h9 := semi_iff (w.data.toList[i])
    cases h1 : isBlank (w.data.toList[i]) with
    | true => simp
    | false =>
      cases h3 : isSign (w.data.toList[i]) with
      | true => simp
      | false =>
        cases h4 : (w.data.toList[i] == 59) with
        | true => rw [if_neg (by simp), if_neg (by simp), if_pos (h9.2 h4)]; simp
        | false => rw [if_neg (by simp), if_neg (by simp), if_neg (fun e => by rw [h9.1 e] at h4; cases h4)]; simp
theorem rright_f (n : Nat) : ∀ (l : List S41) (w : ByteArray), SizeOf.sizeOf l ≤ n → wtL l ≤ 1000000000000 → w.size ≤ 1000000000000 → Ev (fun k => spandrelref30_right.f k w (tuL l)) (okT ⟨w, l⟩) := by
  induction n with
  | zero => intro l w h; cases l <;> simp at h
  | succ n ih =>
    intro l w h hw hs
    have hf : ∀ x ∈ l, Ev (fun k => spandrelref30_right.f k x.f0 (tuL x.f1)) (okT x) := fun x hx => by
      have h1 := wt_mem hx
      rw [wtT_eq] at h1
      have := ih x.f1 x.f0 (by have := size41 hx; omega) (by omega) (by omega)
      rwa [eta41] at this
    have hk := right_kids (w := w) (by have := wt_len l; omega) hf l.length 0 (by omega)
    obtain ⟨k, hk⟩ := right_bytes hs hk w.size 0 (by omega)
    refine ⟨k + 1, fun k' hk' => ?_⟩
    obtain ⟨k', rfl, hk'⟩ := succ_of hk'
    have := hk k' (by omega)
    simp only [spandrelref30_right.f]
    dsimp only at this
    rw [show ((0 : Nat) : Int) = 0 from rfl] at this
    rw [this, okT_eq]
    simp only [List.drop_zero]
    congr 1
    cases (!w.data.toList.any isEnd) <;> cases okL l <;> simp
theorem rright_ev {x : S41} (hw : wtT x ≤ 1000000000000) : Ev (fun k => spandrelref30_right.f k x.f0 (tuL x.f1)) (okT x) := by
  rw [wtT_eq] at hw
  have := rright_f _ x.f1 x.f0 (Nat.le_refl _) (by omega) (by omega)
  rwa [eta41] at this
end Go.Proofs.YtmjnodjjnjckiaaDoor

/- Plain: the document's size, row and Write are the program's. -/
namespace Go.Proofs.YtmjnodjjnjckiaaDoor
open Go.RowKit Go.Proofs.YtmjnodjjnjckiaaDoorW.PrintWords PLines Go.Proofs.YtmjnodjjnjckiaaDoorW.PrintLast Go.Proofs.YtmjnodjjnjckiaaDoorW.PrintMore

def suT : List S41 → Nat
  | [] => 0
  | x :: xs => (outT x).length + suT xs
theorem outR_su : ∀ l : List S41, (outR l).length = suT l + l.length
  | [] => rfl
  | x :: xs => by
    have := outR_su xs
    simp only [outR, suT, List.length_cons, List.length_append]; omega
theorem outL_su (l : List S41) : (outL l).length = suT l + (l.length - 1) := by
  cases l with
  | nil => rfl
  | cons x xs =>
    have := outR_su xs
    simp only [outL, suT, List.length_cons, List.length_append]; omega
theorem su_wt (l : List S41) : suT l ≤ 3 * wtL l := by
  have h1 := (outs_wt _ l (Nat.le_refl _)).2
  have h2 := outR_su l
  omega
theorem wrap_n {n : Nat} (h : n ≤ 9223372036854775807) : wrap64 ((n : Nat) : Int) = (n : Int) := by unfold wrap64; omega
theorem wrap_add {a b : Nat} (h : a + b ≤ 9223372036854775807) : wrap64 ((a : Int) + (b : Int)) = ((a + b : Nat) : Int) := by
  rw [show (a : Int) + (b : Int) = ((a + b : Nat) : Int) by omega, wrap_n h]
theorem wrap_e1 {a b : Nat} (h : a + 2 + b ≤ 9223372036854775807) : wrap64 ((wrap64 ((wrap64 ((a : Int) + ((0 : Nat) : Int))) + 2)) + (b : Int)) = ((a + 2 + b : Nat) : Int) := by
  rw [show (a : Int) + ((0 : Nat) : Int) = ((a : Nat) : Int) by omega, wrap_n (by omega), show (a : Int) + 2 = ((a + 2 : Nat) : Int) by omega, wrap_n (by omega), wrap_add h]
theorem list_nil (w : ByteArray) : w.toList = ([] : List UInt8) ↔ w.size = 0 := by
  rw [ByteArray.toList_eq, size_eq]
  cases w.data.toList <;> simp
theorem size_loop {l : List S41} (hw : wtL l ≤ 1000000000000) (hf : ∀ x ∈ l, Ev (fun k => spandrelref30_size.f k (tuL x.f1)) (((outL x.f1).length : Nat) : Int)) : ∀ (j i acc : Nat), i + j = l.length → acc + suT (l.drop i) ≤ 100000000000000 →
    Ev (fun k => spandrelref30_size.l0 k (tuL l) (acc : Int) (i : Int)) ((acc + suT (l.drop i) : Nat) : Int)
  | 0, i, acc, h, ha => by
    refine ⟨1, fun k hk => ?_⟩
    obtain ⟨k, rfl, _⟩ := succ_of hk
    simp only [spandrelref30_size.l0]
    rw [if_neg (by rw [tu_len]; omega), List.drop_of_length_le (by omega)]
    rfl
  | j + 1, i, acc, h, ha => by
    have hi : i < l.length := by omega
    have hlen := wt_len l
    rw [drop_rd hi] at ha ⊢
    simp only [suT] at ha ⊢
    obtain ⟨x, hx⟩ : ∃ x, rd_T41 l (i : Int) = x := ⟨_, rfl⟩
    obtain ⟨k1, h1⟩ := hf _ (rd_mem hi)
    obtain ⟨k2, h2⟩ := size_loop hw hf j (i + 1) (acc + (outT (rd_T41 l (i : Int))).length) (by omega) (by omega)
    dsimp only at h1 h2
    rw [hx] at ha h1 h2 ⊢
    refine ⟨max k1 k2 + 1, fun k hk => ?_⟩
    obtain ⟨k, rfl, hk⟩ := succ_of hk
    simp only [spandrelref30_size.l0]
    rw [if_pos (by rw [tu_len]; omega), if_pos (by omega), rd_tu hi, hx]
    simp only []
    have hs := size_eq x.f0
    by_cases hz : x.f0.size = 0
    · have hT : (outT x).length = (outL x.f1).length + 2 := by rw [outT_eq, if_pos hz]; simp
      rw [if_pos ((list_nil _).2 hz), h1 k (by omega), Option.bind_some, hz]
      rw [hT] at ha h2 ⊢
      rw [wrap_e1 (by omega), wrap_i (by omega), show acc + 2 + (outL x.f1).length = acc + ((outL x.f1).length + 2) by omega, h2 k (by omega)]
      rw [Nat.add_assoc acc]
    · have hT : (outT x).length = x.f0.size := by rw [outT_eq, if_neg hz, hs]
      rw [if_neg (fun e => hz ((list_nil _).1 e))]
      rw [hT] at ha h2 ⊢
      rw [wrap_add (by omega), wrap_i (by omega), h2 k (by omega)]
      rw [Nat.add_assoc acc]
theorem size_ev (n : Nat) : ∀ l : List S41, SizeOf.sizeOf l ≤ n → wtL l ≤ 1000000000000 → Ev (fun k => spandrelref30_size.f k (tuL l)) (((outL l).length : Nat) : Int) := by
  induction n with
  | zero => intro l h; cases l <;> simp at h
  | succ n ih =>
    intro l h hw
    have hf : ∀ x ∈ l, Ev (fun k => spandrelref30_size.f k (tuL x.f1)) (((outL x.f1).length : Nat) : Int) := fun x hx => by
      have h1 := wt_mem hx
      rw [wtT_eq] at h1
      exact ih x.f1 (by have := size41 hx; omega) (by omega)
    have hlen := wt_len l
    have hsu := su_wt l
    obtain ⟨k, hk⟩ := size_loop hw hf l.length 0 (l.length - 1) (by omega) (by rw [List.drop_zero]; omega)
    refine ⟨k + 1, fun k' hk' => ?_⟩
    obtain ⟨k', rfl, hk'⟩ := succ_of hk'
    have := hk k' (by omega)
    simp only [spandrelref30_size.f]
    have e1 : mx (wrap64 (((tuL l).length : Int) - 1)) 0 = ((l.length - 1 : Nat) : Int) := by
      rw [tu_len]; unfold mx wrap64; split <;> omega
    rw [e1]
    dsimp only at this
    rw [show ((0 : Nat) : Int) = 0 from rfl] at this
    rw [this, List.drop_zero, outL_su]
    congr 2; omega

theorem ba_append (a b : List UInt8) : (⟨a.toArray⟩ ++ ⟨b.toArray⟩ : ByteArray) = ⟨(a ++ b).toArray⟩ := by
  apply bytes_inj'
  simp [ByteArray.data_append]
theorem ba_self (w : ByteArray) : w = ⟨w.data.toList.toArray⟩ := by cases w; simp
theorem ba_size (a : List UInt8) : (⟨a.toArray⟩ : ByteArray).size = a.length := by rw [size_eq]
theorem row_loop {l : List S41} (hw : wtL l ≤ 1000000000000) (hf : ∀ x ∈ l, Ev (fun k => spandrelref30_row.f k (tuL x.f1)) ⟨(outL x.f1).toArray⟩) : ∀ (j i : Nat), i + j = l.length →
    Ev (fun k => spandrelref30_row.l0 k (tuL l) ⟨(outL (l.take i)).toArray⟩ (i : Int)) ⟨(outL l).toArray⟩
  | 0, i, h => by
    refine ⟨1, fun k hk => ?_⟩
    obtain ⟨k, rfl, _⟩ := succ_of hk
    simp only [spandrelref30_row.l0]
    rw [if_neg (by rw [tu_len]; omega), List.take_of_length_le (by omega)]
  | j + 1, i, h => by
    have hi : i < l.length := by omega
    have hlen := wt_len l
    obtain ⟨k1, h1⟩ := hf _ (rd_mem hi)
    obtain ⟨k2, h2⟩ := row_loop hw hf j (i + 1) (by omega)
    dsimp only at h1 h2
    have hL := (outs_wt _ l (Nat.le_refl _)).1
    have ht := tot_len (t := []) hi
    rw [List.nil_append, List.nil_append] at ht
    rw [out_take hi] at h2
    obtain ⟨x, hx⟩ : ∃ x, rd_T41 l (i : Int) = x := ⟨_, rfl⟩
    rw [hx] at h1 h2 ht
    obtain ⟨T, hT⟩ : ∃ T, outL (l.take i) = T := ⟨_, rfl⟩
    rw [hT] at h2 ht ⊢
    refine ⟨max k1 k2 + 1, fun k hk => ?_⟩
    obtain ⟨k, rfl, hk⟩ := succ_of hk
    simp only [spandrelref30_row.l0]
    rw [if_pos (by rw [tu_len]; omega), rd_tu hi, hx]
    simp only []
    have hs := size_eq x.f0
    by_cases hz0 : i = 0
    · subst hz0
      rw [if_neg (by omega), if_pos (by omega)]
      rw [if_pos rfl] at h2 ht
      by_cases hz : x.f0.size = 0
      · rw [if_pos ((list_nil _).2 hz)]
        rw [outT_eq, if_pos hz] at h2 ht
        simp only [List.length_nil, List.length_cons, List.length_append] at ht
        rw [if_pos (by rw [ba_size]; omega), h1 k (by omega), Option.bind_some]
        simp only [ba_append]
        rw [if_pos (by rw [ba_size, ba_size, List.length_append, List.length_cons, List.length_nil]; omega), if_pos (by rw [ba_size]; simp only [List.length_append, List.length_cons, List.length_nil]; omega), wrap_i (by omega)]
        rw [← h2 k (by omega)]
        simp
      · rw [if_neg (fun e => hz ((list_nil _).1 e))]
        rw [outT_eq, if_neg hz] at h2 ht
        simp only [List.length_nil] at ht
        rw [if_pos (by rw [ba_size]; omega), wrap_i (by omega)]
        rw [← h2 k (by omega)]
        conv => lhs; rw [ba_self x.f0, ba_append]
        simp
    · rw [if_pos (by omega)]
      rw [if_neg hz0] at h2 ht
      by_cases hz : x.f0.size = 0
      · rw [outT_eq, if_pos hz] at h2 ht
        simp only [List.length_nil, List.length_cons, List.length_append] at ht
        rw [if_pos (by rw [ba_size]; omega), if_pos (by omega), if_pos ((list_nil _).2 hz)]
        simp only [ba_append]
        rw [if_pos (by rw [ba_size, List.length_append, List.length_cons, List.length_nil]; omega), h1 k (by omega), Option.bind_some]
        simp only [ba_append]
        rw [if_pos (by rw [ba_size, ba_size]; simp only [List.length_append, List.length_cons, List.length_nil]; omega), if_pos (by rw [ba_size]; simp only [List.length_append, List.length_cons, List.length_nil]; omega), wrap_i (by omega)]
        rw [← h2 k (by omega)]
        simp
      · rw [outT_eq, if_neg hz] at h2 ht
        simp only [List.length_nil, List.length_cons] at ht
        rw [if_pos (by rw [ba_size]; omega), if_pos (by omega), if_neg (fun e => hz ((list_nil _).1 e))]
        simp only [ba_append]
        rw [if_pos (by rw [ba_size, List.length_append, List.length_cons, List.length_nil]; omega), wrap_i (by omega)]
        rw [← h2 k (by omega)]
        conv => lhs; rw [ba_self x.f0, ba_append]
        simp
theorem row_ev (n : Nat) : ∀ l : List S41, SizeOf.sizeOf l ≤ n → wtL l ≤ 1000000000000 → Ev (fun k => spandrelref30_row.f k (tuL l)) ⟨(outL l).toArray⟩ := by
  induction n with
  | zero => intro l h; cases l <;> simp at h
  | succ n ih =>
    intro l h hw
    have hf : ∀ x ∈ l, Ev (fun k => spandrelref30_row.f k (tuL x.f1)) ⟨(outL x.f1).toArray⟩ := fun x hx => by
      have h1 := wt_mem hx
      rw [wtT_eq] at h1
      exact ih x.f1 (by have := size41 hx; omega) (by omega)
    obtain ⟨k, hk⟩ := row_loop hw hf l.length 0 (by omega)
    refine ⟨k + 1, fun k' hk' => ?_⟩
    obtain ⟨k', rfl, hk'⟩ := succ_of hk'
    have := hk k' (by omega)
    simpa [spandrelref30_row.f, outL] using this

/-! ### the document's Write -/
theorem write_deep {l : List S41} (hw : wtL l ≤ 1000000000000) : ∀ (j i : Nat), i + j = l.length →
    Ev (fun k => spandrelref30_Write.l1 k (tuL l) (i : Int)) (if ∀ x ∈ l.drop i, deT x ≤ 400 then (if (outL l).length ≤ 262144 then ((⟨(outL l).toArray⟩ : ByteArray), (0 : Int)) else ((⟨#[]⟩ : ByteArray), (3 : Int))) else ((⟨#[]⟩ : ByteArray), (3 : Int)))
  | 0, i, h => by
    obtain ⟨k1, h1⟩ := size_ev _ l (Nat.le_refl _) hw
    obtain ⟨k2, h2⟩ := row_ev _ l (Nat.le_refl _) hw
    dsimp only at h1 h2
    refine ⟨max k1 k2 + 1, fun k hk => ?_⟩
    obtain ⟨k, rfl, hk⟩ := succ_of hk
    simp only [spandrelref30_Write.l1]
    rw [if_neg (by rw [tu_len]; omega), List.drop_of_length_le (by omega), if_pos (fun x hx => by cases hx), h1 k (by omega), Option.bind_some]
    by_cases hl : (outL l).length ≤ 262144
    · rw [if_neg (by omega), h2 k (by omega), Option.bind_some, if_pos hl]
    · rw [if_pos (by omega), if_neg hl]
  | j + 1, i, h => by
    have hi : i < l.length := by omega
    have hlen := wt_len l
    have hm := wt_mem (rd_mem hi)
    obtain ⟨k1, h1⟩ := rdeep_ev (x := rd_T41 l (i : Int)) (by omega)
    obtain ⟨k2, h2⟩ := write_deep hw j (i + 1) (by omega)
    dsimp only at h1 h2
    refine ⟨max k1 k2 + 1, fun k hk => ?_⟩
    obtain ⟨k, rfl, hk⟩ := succ_of hk
    simp only [spandrelref30_Write.l1]
    rw [if_pos (by rw [tu_len]; omega), if_pos (by omega), rd_tu hi]
    simp only []
    rw [h1 k (by omega), Option.bind_some, drop_rd hi]
    by_cases hd : deT (rd_T41 l (i : Int)) ≤ 400
    · rw [if_neg (by omega), wrap_i (by omega), h2 k (by omega)]
      congr 1
      by_cases ha : ∀ x ∈ l.drop (i + 1), deT x ≤ 400
      · rw [if_pos ha, if_pos (fun x hx => (List.mem_cons.1 hx).elim (fun e => e ▸ hd) (ha x))]
      · rw [if_neg ha, if_neg (fun hb => ha (fun x hx => hb x (by simp [hx])))]
    · rw [if_pos (by omega), if_neg (fun hb => hd (hb _ (by simp)))]
theorem write_right {l : List S41} (hw : wtL l ≤ 1000000000000) : ∀ (j i : Nat), i + j = l.length →
    Ev (fun k => spandrelref30_Write.l0 k (tuL l) (i : Int)) (if okL (l.drop i) = true then (if ∀ x ∈ l, deT x ≤ 400 then (if (outL l).length ≤ 262144 then ((⟨(outL l).toArray⟩ : ByteArray), (0 : Int)) else ((⟨#[]⟩ : ByteArray), (3 : Int))) else ((⟨#[]⟩ : ByteArray), (3 : Int))) else ((⟨#[]⟩ : ByteArray), (4 : Int)))
  | 0, i, h => by
    obtain ⟨k1, h1⟩ := write_deep hw l.length 0 (by omega)
    dsimp only at h1
    refine ⟨k1 + 1, fun k hk => ?_⟩
    obtain ⟨k, rfl, hk⟩ := succ_of hk
    simp only [spandrelref30_Write.l0]
    rw [if_neg (by rw [tu_len]; omega), List.drop_of_length_le (by omega), if_pos (show okL [] = true from rfl)]
    have := h1 k (by omega)
    rw [List.drop_zero] at this
    exact this
  | j + 1, i, h => by
    have hi : i < l.length := by omega
    have hlen := wt_len l
    have hm := wt_mem (rd_mem hi)
    obtain ⟨k1, h1⟩ := rright_ev (x := rd_T41 l (i : Int)) (by omega)
    obtain ⟨k2, h2⟩ := write_right hw j (i + 1) (by omega)
    dsimp only at h1 h2
    refine ⟨max k1 k2 + 1, fun k hk => ?_⟩
    obtain ⟨k, rfl, hk⟩ := succ_of hk
    simp only [spandrelref30_Write.l0]
    rw [if_pos (by rw [tu_len]; omega), if_pos (by omega), rd_tu hi]
    simp only []
    rw [h1 k (by omega), Option.bind_some, drop_rd hi]
    have hc : okL (rd_T41 l (i : Int) :: l.drop (i + 1)) = (okT (rd_T41 l (i : Int)) && okL (l.drop (i + 1))) := rfl
    by_cases ht : okT (rd_T41 l (i : Int)) = true
    · have e : okL (rd_T41 l (i : Int) :: l.drop (i + 1)) = okL (l.drop (i + 1)) := by rw [hc, ht, Bool.true_and]
      rw [if_pos ht, wrap_i (by omega), h2 k (by omega), e]
    · have e : okL (rd_T41 l (i : Int) :: l.drop (i + 1)) = false := by rw [hc, show okT (rd_T41 l (i : Int)) = false by simpa using ht, Bool.false_and]
      rw [if_neg ht, if_neg (by rw [e]; decide)]
theorem rwrite_ev {l : List S41} (hw : wtL l ≤ 1000000000000) : Ev (fun k => spandrelref30_Write.f k (tuL l)) ((⟨(writeT l).toArray⟩ : ByteArray), writeE l) := by
  obtain ⟨k1, h1⟩ := write_right hw l.length 0 (by omega)
  refine ⟨k1, fun k hk => ?_⟩
  have := h1 k hk
  dsimp only at this
  simp only [spandrelref30_Write.f]
  rw [show ((0 : Nat) : Int) = 0 from rfl, List.drop_zero] at this
  rw [this]
  unfold writeT writeE writeOut
  by_cases h1 : okL l = true
  · rw [if_pos h1, if_pos h1]
    by_cases h2 : ∀ x ∈ l, deT x ≤ 400
    · rw [if_pos h2, if_pos h2]
      by_cases h3 : (outL l).length ≤ 262144
      · rw [if_pos h3, if_pos h3]
      · rw [if_neg h3, if_neg h3]
    · rw [if_neg h2, if_neg h2]
  · rw [if_neg h1, if_neg h1]
end Go.Proofs.YtmjnodjjnjckiaaDoor

/- Plain facts on bytes: where a word ends, by runes and by bytes; the words of a text. No program in sight. -/
import Derived.Shelf.GgClosure.StringsIndexFunc
import Derived.Lib.DecodeN
import Derived.Lib.SlTrimSet
import Derived.Lib.IndexMore
import Derived.Test.YtmjnodjjnjckiaaDoorWMore
import Derived.Test.YtmjnodjjnjckiaaDoorPLinesx0
import Derived.Test.YtmjnodjjnjckiaaDoorShelf
import Derived.WalkLawsBesides
namespace Go.Proofs.YtmjnodjjnjckiaaDoor

/-- Which runes end a word. -/
def endR (r : Nat) : Bool := r == 9 || r == 10 || r == 13 || r == 32 || r == 40 || r == 41 || r == 59
def isEnd (c : UInt8) : Bool := endR c.toNat
theorem endR_big {r : Nat} (h : 128 ≤ r) : endR r = false := by
  simp only [endR, Bool.or_eq_false_iff, beq_eq_false_iff_ne]; omega

/-- How many bytes lie ahead of the first that ends a word. -/
def ahead (l : List UInt8) : Nat := (l.takeWhile (fun c => !isEnd c)).length
theorem ahead_le (l : List UInt8) : ahead l ≤ l.length := by
  unfold ahead; exact (List.takeWhile_prefix _).length_le
theorem ahead_nil : ahead [] = 0 := rfl
theorem ahead_end {c : UInt8} {l : List UInt8} (h : isEnd c = true) : ahead (c :: l) = 0 := by simp [ahead, h]
theorem ahead_cons {c : UInt8} {l : List UInt8} (h : isEnd c = false) : ahead (c :: l) = ahead l + 1 := by simp [ahead, h]
theorem drop_at (l : List UInt8) (i : Nat) (h : i < l.length) : l.drop i = l[i] :: l.drop (i + 1) := List.drop_eq_getElem_cons h
theorem ahead_skip (l : List UInt8) : ∀ (k i : Nat), i + k ≤ l.length → (∀ j (h : i + j < l.length), j < k → isEnd l[i + j] = false) → ahead (l.drop i) = k + ahead (l.drop (i + k))
  | 0, i, _, _ => by simp
  | k + 1, i, h, hz => by
    have h00 : isEnd l[i] = false := hz 0 (by omega) (by omega)
    rw [drop_at l i (by omega), ahead_cons h00, ahead_skip l k (i + 1) (by omega) (fun j hj hk => by
      have := hz (j + 1) (by omega) (by omega)
      simpa [Nat.add_assoc, Nat.add_comm 1 j] using this)]
    rw [show i + 1 + k = i + (k + 1) by omega]; omega

theorem size_eq (s : ByteArray) : s.size = s.data.toList.length := by rw [Array.length_toList]; rfl
theorem get_byte (s : ByteArray) (i : Nat) (h : i < s.data.toList.length) : (s.get! i) = s.data.toList[i] := by
  cases s with
  | mk a => simp at h; simp [ByteArray.get!, h]
theorem get_out (s : ByteArray) (i : Nat) (h : s.data.toList.length ≤ i) : (s.get! i).toNat = 0 := by
  cases s with
  | mk a => simp at h; simp [ByteArray.get!, h]; rfl

/-- What a rune is, and its width: an ASCII byte is itself; else it is none that ends a word, and nor is any of its bytes. -/
theorem rune_at (s : ByteArray) (i : Nat) (h : i < s.data.toList.length) :
    (s.data.toList[i].toNat < 128 ∧ Utf8.decode s i = (s.data.toList[i].toNat, 1)) ∨
    (128 ≤ (Utf8.decode s i).1 ∧ 1 ≤ (Utf8.decode s i).2 ∧ i + (Utf8.decode s i).2 ≤ s.data.toList.length ∧ ∀ j (hj : i + j < s.data.toList.length), j < (Utf8.decode s i).2 → isEnd s.data.toList[i + j] = false) := by
  have hs := size_eq s
  rw [Lib.decode_at, hs]
  have e0 : (s.get! i).toNat = s.data.toList[i].toNat := by rw [get_byte s i h]
  have hb : ∀ j (hj : i + j < s.data.toList.length), (s.get! (i + j)).toNat = s.data.toList[i + j].toNat := fun j hj => by rw [get_byte s (i + j) hj]
  have hbig : ∀ j (hj : i + j < s.data.toList.length), 128 ≤ (s.get! (i + j)).toNat → isEnd s.data.toList[i + j] = false := fun j hj hge => by
    rw [hb j hj] at hge; exact endR_big hge
  rw [e0]
  have hz : ∀ j, j < 1 → ∀ (hj : i + j < s.data.toList.length), 128 ≤ s.data.toList[i].toNat → isEnd s.data.toList[i + j] = false := fun j h1 hj hge => by
    obtain rfl : j = 0 := by omega
    exact hbig 0 hj (by rw [Nat.add_zero, e0]; exact hge)
  unfold Lib.decodeN
  by_cases h0 : s.data.toList[i].toNat < 128
  · left; exact ⟨h0, by rw [if_pos h0]⟩
  right
  rw [if_neg h0]
  have hz' := fun j h1 hj => hz j h1 hj (by omega)
  split
  · rename_i h2
    split
    · rename_i h3
      refine ⟨h3, by simp, by simp; omega, ?_⟩
      intro j hj hk
      simp only at hk
      match j, hk with
      | 0, _ => exact hz' 0 (by omega) hj
      | 1, _ => exact hbig 1 hj (by omega)
    · exact ⟨by simp, by simp, by simp; omega, fun j hj hk => hz' j hk hj⟩
  split
  · rename_i h2
    split
    · rename_i h3
      refine ⟨by simp only; omega, by simp, by simp; omega, ?_⟩
      intro j hj hk
      simp only at hk
      match j, hk with
      | 0, _ => exact hz' 0 (by omega) hj
      | 1, _ => exact hbig 1 hj (by omega)
      | 2, _ => exact hbig 2 hj (by omega)
    · exact ⟨by simp, by simp, by simp; omega, fun j hj hk => hz' j hk hj⟩
  split
  · rename_i h2
    split
    · rename_i h3
      refine ⟨by simp only; omega, by simp, by simp; omega, ?_⟩
      intro j hj hk
      simp only at hk
      match j, hk with
      | 0, _ => exact hz' 0 (by omega) hj
      | 1, _ => exact hbig 1 hj (by omega)
      | 2, _ => exact hbig 2 hj (by omega)
      | 3, _ => exact hbig 3 hj (by omega)
    · exact ⟨by simp, by simp, by simp; omega, fun j hj hk => hz' j hk hj⟩
  · exact ⟨by simp, by simp, by simp; omega, fun j hj hk => hz' j hk hj⟩

theorem idx_from (s : ByteArray) : ∀ (f i : Nat), i ≤ s.data.toList.length → s.data.toList.length ≤ f + i →
    Lib.idxFuncFrom endR true s f i = if i + ahead (s.data.toList.drop i) < s.data.toList.length then ((i + ahead (s.data.toList.drop i) : Nat) : Int) else -1
  | 0, i, h1, h2 => by
    have hi : i = s.data.toList.length := by omega
    rw [if_neg (by omega)]; rfl
  | f + 1, i, h1, h2 => by
    have hs := size_eq s
    unfold Lib.idxFuncFrom
    by_cases h : i < s.data.toList.length
    · rw [if_pos (by omega)]
      rcases rune_at s i h with ⟨ha, hd⟩ | ⟨hr, hw, hle, hz⟩
      · rw [hd]
        by_cases he : endR s.data.toList[i].toNat = true
        · rw [if_pos he, drop_at _ i h, ahead_end he, if_pos (by omega)]; rfl
        · rw [if_neg he, idx_from s f (i + 1) (by omega) (by omega), drop_at _ i h, ahead_cons (by simpa [isEnd] using he)]
          rw [show i + (ahead (s.data.toList.drop (i + 1)) + 1) = i + 1 + ahead (s.data.toList.drop (i + 1)) by omega]
      · rw [if_neg (by rw [endR_big hr]; simp), idx_from s f _ hle (by omega), ahead_skip _ (Utf8.decode s i).2 i hle hz]
        rw [show i + ((Utf8.decode s i).2 + ahead (s.data.toList.drop (i + (Utf8.decode s i).2))) = i + (Utf8.decode s i).2 + ahead (s.data.toList.drop (i + (Utf8.decode s i).2)) by omega]
    · rw [if_neg (by omega), if_neg (by omega)]

/-- strings.IndexFunc at 'ends', by bytes. -/
theorem idx_ends (s : ByteArray) : Lib.idxFunc endR true s = if ahead s.data.toList < s.data.toList.length then (ahead s.data.toList : Int) else -1 := by
  have hs := size_eq s
  have := idx_from s s.size 0 (by omega) (by omega)
  simpa [Lib.idxFunc] using this

/-! ### the words of a text -/
def isBlank (c : UInt8) : Bool := c == 9 || c == 10 || c == 13 || c == 32
def isSign (c : UInt8) : Bool := c == 40 || c == 41
theorem dropWhile_le {α : Type} (p : α → Bool) (l : List α) : (l.dropWhile p).length ≤ l.length := (List.dropWhile_suffix p).length_le
/-- The words and the signs of a text. -/
def toks : List UInt8 → List (List UInt8)
  | [] => []
  | c :: r =>
    if isBlank c then toks r
    else if c == 59 then toks (r.dropWhile (fun x => x != 10))
    else if isSign c then [c] :: toks r
    else (c :: r.takeWhile (fun x => !isEnd x)) :: toks (r.dropWhile (fun x => !isEnd x))
termination_by l => l.length
decreasing_by
  all_goals simp only [List.length_cons]
  · omega
  · have := dropWhile_le (fun x => x != 10) r; omega
  · omega
  · have := dropWhile_le (fun x => !isEnd x) r; omega
theorem toks_nil : toks [] = [] := by rw [toks]
theorem toks_cons (c : UInt8) (r : List UInt8) : toks (c :: r) =
    if isBlank c then toks r
    else if c == 59 then toks (r.dropWhile (fun x => x != 10))
    else if isSign c then [c] :: toks r
    else (c :: r.takeWhile (fun x => !isEnd x)) :: toks (r.dropWhile (fun x => !isEnd x)) := by rw [toks]

theorem byte_cases (p : UInt8 → Bool) (h : ∀ n : Fin 256, p (UInt8.ofNat n.val) = true) (c : UInt8) : p c = true := by
  have := h ⟨c.toNat, c.toNat_lt⟩
  simpa using this
theorem end_iff (c : UInt8) : isEnd c = (isBlank c || isSign c || c == 59) := by
  have := byte_cases (fun c => isEnd c == (isBlank c || isSign c || c == 59)) (by decide +kernel) c
  exact eq_of_beq this
theorem blank_set (c : UInt8) : [9, 10, 13, 32].contains c = isBlank c := by
  have := byte_cases (fun c => [9, 10, 13, 32].contains c == isBlank c) (by decide +kernel) c
  exact eq_of_beq this
/-- Blanks in front tell nothing. -/
theorem toks_trim (l : List UInt8) : toks (Lib.trimLeftS l [9, 10, 13, 32]) = toks l := by
  unfold Lib.trimLeftS
  induction l with
  | nil => rfl
  | cons c r ih =>
    rw [List.dropWhile_cons]
    by_cases h : isBlank c = true
    · rw [if_pos (by rw [blank_set]; exact h), ih, toks_cons, if_pos h]
    · rw [if_neg (by rw [blank_set]; exact h)]
theorem trim_head {l : List UInt8} {c : UInt8} {r : List UInt8} (h : Lib.trimLeftS l [9, 10, 13, 32] = c :: r) : isBlank c = false := by
  unfold Lib.trimLeftS at h
  induction l with
  | nil => simp at h
  | cons x t ih =>
    rw [List.dropWhile_cons] at h
    by_cases hx : isBlank x = true
    · rw [if_pos (by rw [blank_set]; exact hx)] at h; exact ih h
    · rw [if_neg (by rw [blank_set]; exact hx)] at h
      injection h with h1 h2; subst h1; simpa using hx
theorem trim_le (l : List UInt8) : (Lib.trimLeftS l [9, 10, 13, 32]).length ≤ l.length := dropWhile_le _ _

/-- All behind the first line feed. -/
theorem toks_line (l : List UInt8) : toks (l.dropWhile (fun x => x != 10)) = toks ((l.dropWhile (fun x => x != 10)).drop 1) := by
  cases h : l.dropWhile (fun x => x != 10) with
  | nil => rfl
  | cons c r =>
    have hc : c = 10 := by
      have h2 : ¬ ((fun x : UInt8 => x != 10) c = true) := by
        have := List.head?_dropWhile_not (fun x : UInt8 => x != 10) l
        rw [h] at this
        simpa using this
      simpa using h2
    subst hc
    rw [toks_cons, if_pos (by decide)]; rfl
/-- strings.Cut at a line feed: what lies behind it. -/
theorem cut_tail (l : List UInt8) : (Lib.cut l [10]).2.1 = (l.dropWhile (fun x => x != 10)).drop 1 := by
  unfold Lib.cut
  induction l with
  | nil => rfl
  | cons c r ih =>
    have hge := Lib.index_ge r [10]
    rw [List.dropWhile_cons]
    by_cases h : c = 10
    · subst h
      have h0 : Lib.index (10 :: r) [10] = 0 := by simp [Lib.index]
      rw [h0]; simp
    · have hp : ([10] : List UInt8).isPrefixOf (c :: r) = false := by simp [List.isPrefixOf, Ne.symm h]
      have hi : Lib.index (c :: r) [10] = if Lib.index r [10] == -1 then -1 else Lib.index r [10] + 1 := by
        rw [Lib.index, if_neg (by rw [hp]; decide)]
      have hc : (c != 10) = true := by simpa using h
      rw [hc, if_pos rfl, hi, ← ih]
      by_cases hn : Lib.index r [10] = -1
      · rw [hn]; simp
      · have hb : (Lib.index r [10] == -1) = false := by simpa using hn
        rw [hb]
        simp only [Bool.false_eq_true, if_false]
        rw [if_pos (by omega), if_pos (by omega)]
        rw [show (Lib.index r [10] + 1).toNat = (Lib.index r [10]).toNat + 1 by omega]
        simp
/-- What a step of the program's iterator tells of what it has trimmed. -/
theorem toks_remark {r : List UInt8} : toks (59 :: r) = toks (Lib.cut (59 :: r) [10]).2.1 := by
  rw [cut_tail, ← toks_line, toks_cons, if_neg (by decide), if_pos (by decide), List.dropWhile_cons, if_pos (by decide)]
theorem toks_sign {c : UInt8} {r : List UInt8} (hb : isBlank c = false) (h9 : (c == 59) = false) (he : isEnd c = true) : toks (c :: r) = [c] :: toks r := by
  have : isSign c = true := by
    have := end_iff c; rw [he, hb, h9] at this; simpa using this.symm
  rw [toks_cons, if_neg (by simp [hb]), if_neg (by simp [h9]), if_pos this]
theorem take_ahead (l : List UInt8) : l.takeWhile (fun x => !isEnd x) = l.take (ahead l) := by
  unfold ahead
  exact (List.prefix_iff_eq_take.1 (List.takeWhile_prefix _))
theorem drop_ahead (l : List UInt8) : l.dropWhile (fun x => !isEnd x) = l.drop (ahead l) := by
  have h := List.takeWhile_append_dropWhile (p := fun x => !isEnd x) (l := l)
  have h2 : (l.takeWhile (fun x => !isEnd x) ++ l.dropWhile (fun x => !isEnd x)).drop (l.takeWhile (fun x => !isEnd x)).length = l.dropWhile (fun x => !isEnd x) := List.drop_left
  rw [h] at h2
  exact h2.symm
theorem toks_word {c : UInt8} {r : List UInt8} (he : isEnd c = false) : toks (c :: r) = (c :: r).take (ahead (c :: r)) :: toks ((c :: r).drop (ahead (c :: r))) := by
  have h := end_iff c
  rw [he] at h
  have h' : isBlank c = false ∧ isSign c = false ∧ (c == 59) = false := by
    revert h
    cases isBlank c <;> cases isSign c <;> cases (c == 59) <;> simp
  rw [toks_cons, if_neg (by simp [h'.1]), if_neg (by simp [h'.2.2]), if_neg (by simp [h'.2.1]), ahead_cons he, List.take_succ_cons, List.drop_succ_cons, take_ahead, drop_ahead]
end Go.Proofs.YtmjnodjjnjckiaaDoor

/- The small contracts of package lines: must, ends, the library's TrimLeft, IndexFunc, ContainsFunc at the predicate ends. -/
namespace Go.Proofs.YtmjnodjjnjckiaaDoor
open Go.RowKit Go.Shelf
theorem must_ok (e : Int) (w : World) : Calls Tryd.prog 28 #[.bool true, .int .i64 e] w fun r w' => r = .returned (.tuple #[]) ∧ w = w' := by
  go_enter Tryd.func28, Tryd.ntmps28
  go_wp2
  go_end0
  exact ⟨rfl, rfl⟩
/-- What must throws. -/
def thrown (e : Int) : List PanicEntry := [{ v := .iface 24 (.int .i64 e), recovered := false }]
theorem must_no (e : Int) (w : World) : Calls Tryd.prog 28 #[.bool false, .int .i64 e] w fun r w' => r = .panicked (thrown e) ∧ w = w' := by
  go_enter Tryd.func28, Tryd.ntmps28
  go_wp2
  exact ⟨rfl, rfl, rfl⟩
theorem ends_pred (w : World) : PredAt Tryd.prog 51 #[] encR endR w := by
  intro W x _
  unfold FnGives encR
  by_cases h9 : x = 9
  · subst h9; go_enter Tryd.func51, Tryd.ntmps51; go_wp2; go_ret; exact ⟨rfl, 0, rfl⟩
  by_cases h10 : x = 10
  · subst h10; go_enter Tryd.func51, Tryd.ntmps51; go_wp2; go_ret; exact ⟨rfl, 0, rfl⟩
  by_cases h13 : x = 13
  · subst h13; go_enter Tryd.func51, Tryd.ntmps51; go_wp2; go_ret; exact ⟨rfl, 0, rfl⟩
  by_cases h32 : x = 32
  · subst h32; go_enter Tryd.func51, Tryd.ntmps51; go_wp2; go_ret; exact ⟨rfl, 0, rfl⟩
  by_cases h40 : x = 40
  · subst h40; go_enter Tryd.func51, Tryd.ntmps51; go_wp2; go_ret; exact ⟨rfl, 0, rfl⟩
  by_cases h41 : x = 41
  · subst h41; go_enter Tryd.func51, Tryd.ntmps51; go_wp2; go_ret; exact ⟨rfl, 0, rfl⟩
  by_cases h59 : x = 59
  · subst h59; go_enter Tryd.func51, Tryd.ntmps51; go_wp2; go_ret; exact ⟨rfl, 0, rfl⟩
  have hr : endR x = false := by simp [endR, h9, h10, h13, h32, h40, h41, h59]
  rw [hr]
  have b9 : ((x : Int) == 9) = false := beq_eq_false_iff_ne.2 (by omega)
  have b10 : ((x : Int) == 10) = false := beq_eq_false_iff_ne.2 (by omega)
  have b13 : ((x : Int) == 13) = false := beq_eq_false_iff_ne.2 (by omega)
  have b32 : ((x : Int) == 32) = false := beq_eq_false_iff_ne.2 (by omega)
  have b40 : ((x : Int) == 40) = false := beq_eq_false_iff_ne.2 (by omega)
  have b41 : ((x : Int) == 41) = false := beq_eq_false_iff_ne.2 (by omega)
  have b59 : ((x : Int) == 59) = false := beq_eq_false_iff_ne.2 (by omega)
  clear hr h9 h10 h13 h32 h40 h41 h59
  go_enter Tryd.func51, Tryd.ntmps51
  go_wp2
  go_ret
  exact ⟨rfl, 0, rfl⟩
theorem ends_enters : ∀ args w, (callFunc 51 args).run Tryd.prog w = .ok (.enter 51 args) w := enters_of Tryd.func51 (by kernel_rfl) rfl
/-- Where the first byte that ends a word stands; -1. -/
theorem index_ends (s : ByteArray) (w : World) :
    Calls Tryd.prog 50 #[.string s, .func (.func 51) #[] #[]] w fun e w' => e = .returned (.int .i64 (Lib.idxFunc endR true s)) ∧ Below w.heap.size w w' :=
  Tryd.strings_IndexFunc 51 #[] ends_enters endR s w (ends_pred w)
theorem contains_ends (s : ByteArray) (w : World) :
    Calls Tryd.prog 57 #[.string s, .func (.func 51) #[] #[]] w fun e w' => e = .returned (.bool (decide (0 ≤ Lib.idxFunc endR true s))) ∧ Below w.heap.size w w' :=
  Tryd.strings_ContainsFunc 51 #[] ends_enters endR s w (ends_pred w)
theorem trim_blanks (s : ByteArray) (w : World) :
    Calls Tryd.prog 49 #[.string s, .string ⟨#[9, 10, 13, 32]⟩] w fun e w' => e = .returned (.string ⟨(Lib.trimLeftS s.data.toList [9, 10, 13, 32]).toArray⟩) ∧ Below w.heap.size w w' :=
  Any.strings_TrimLeft_laid Tryd.lays161 (by kernel_rfl) s ⟨#[9, 10, 13, 32]⟩ w (by decide) (ascii_of_all (by decide))
theorem cut_line (s : ByteArray) (m : Int) (w : World) (hs : s.size < 4294967281) (hm : w.cell? ⟨0, 0, none⟩ = some (.int .i64 m)) :
    Calls Tryd.prog 52 #[.string s, .string ⟨#[10]⟩] w fun e w' => e = .returned (.tuple #[.string ⟨(Lib.cut s.data.toList [10]).1.toArray⟩, .string ⟨(Lib.cut s.data.toList [10]).2.1.toArray⟩, .bool (Lib.cut s.data.toList [10]).2.2]) ∧ ∃ n, w' = w.drewN n :=
  Tryd.strings_Cut s ⟨#[10]⟩ m w hs hm
end Go.Proofs.YtmjnodjjnjckiaaDoor

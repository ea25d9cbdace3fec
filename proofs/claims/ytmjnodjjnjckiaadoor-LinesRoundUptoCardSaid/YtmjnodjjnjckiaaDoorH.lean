/- What a reader makes of the words of a text: the trees, or the error's number; and (*reader).word does just that. -/
import Derived.Test.YtmjnodjjnjckiaaDoorG
namespace Go.Proofs.YtmjnodjjnjckiaaDoor
open Go.RowKit Go.Shelf Go.Proofs.YtmjnodjjnjckiaaDoorW.PrintWords PLines

/-- One word: the lists that are open (the last one first), each one's trees so far. -/
def stepR (st : List (List S41)) (t : List UInt8) : Except Int (List (List S41)) :=
  if t = [40] then (if st.length ≤ 400 then .ok ([] :: st) else .error 3)
  else if t = [41] then (match st with
    | top :: sec :: rest => .ok ((sec ++ [⟨⟨#[]⟩, top⟩]) :: rest)
    | _ => .error 4)
  else if st.length ≤ 400 then (match st with
    | x :: rest => .ok ((x ++ [⟨⟨t.toArray⟩, []⟩]) :: rest)
    | [] => .error 4)
  else .error 3
def readToks : List (List S41) → List (List UInt8) → Except Int (List (List S41))
  | st, [] => .ok st
  | st, t :: ts => match stepR st t with
    | .ok st' => readToks st' ts
    | .error e => .error e
theorem readToks_snoc (t : List UInt8) : ∀ (ts : List (List UInt8)) (st : List (List S41)), readToks st (ts ++ [t]) = (match readToks st ts with | .ok st' => stepR st' t | .error e => .error e)
  | [], st => by
    simp only [List.nil_append, readToks]
    cases stepR st t <;> rfl
  | a :: ts, st => by
    simp only [List.cons_append, readToks]
    cases stepR st a with
    | ok st' => exact readToks_snoc t ts st'
    | error e => rfl
theorem readToks_error {e : Int} {b : List (List UInt8)} : ∀ {a : List (List UInt8)} {st : List (List S41)}, readToks st a = .error e → readToks st (a ++ b) = .error e
  | [], st, h => by cases h
  | t :: ts, st, h => by
    simp only [List.cons_append, readToks] at h ⊢
    cases hs : stepR st t with
    | ok st' => rw [hs] at h; exact readToks_error h
    | error e' => rw [hs] at h; exact h
/-- The trees of a text, or the error's number. -/
def readOut (s : ByteArray) : Except Int (List S41) :=
  if s.size ≤ 262144 then (match readToks [[]] (toks s.data.toList) with
    | .ok [x] => .ok x
    | .ok _ => .error 4
    | .error e => .error e)
  else .error 3

/-- How long the rows are. -/
def RowsLe (n : Nat) (st : List (List S41)) : Prop := ∀ x ∈ st, x.length ≤ n
theorem stepR_le {n : Nat} {st st' : List (List S41)} {t : List UInt8} (h : stepR st t = .ok st') (hn : RowsLe n st) : RowsLe (n + 1) st' := by
  unfold stepR at h
  have up : ∀ {l : List (List S41)}, (∀ x ∈ l, x ∈ st) → RowsLe (n + 1) l := fun hl x hx => Nat.le_succ_of_le (hn x (hl x hx))
  split at h
  · split at h
    · injection h with h; subst h
      intro x hx
      rcases List.mem_cons.1 hx with rfl | hx
      · simp
      · exact Nat.le_succ_of_le (hn x hx)
    · cases h
  split at h
  · split at h
    · rename_i top sec rest
      injection h with h; subst h
      intro x hx
      rcases List.mem_cons.1 hx with rfl | hx
      · have := hn sec (by simp); simp; exact this
      · exact Nat.le_succ_of_le (hn x (by simp [hx]))
    · cases h
  split at h
  · split at h
    · rename_i y rest _
      injection h with h; subst h
      intro x hx
      rcases List.mem_cons.1 hx with rfl | hx
      · have := hn y (by simp); simp; exact this
      · exact Nat.le_succ_of_le (hn x (by simp [hx]))
    · cases h
  · cases h
theorem stepR_ne {st st' : List (List S41)} {t : List UInt8} (h : stepR st t = .ok st') (hn : st ≠ []) : st' ≠ [] := by
  unfold stepR at h
  repeat' split at h
  all_goals first
    | (injection h with h; subst h; simp)
    | cases h
theorem readToks_le : ∀ {ts : List (List UInt8)} {st st' : List (List S41)} {n : Nat}, readToks st ts = .ok st' → RowsLe n st → RowsLe (n + ts.length) st'
  | [], _, _, _, h, hn => by injection h with h; subst h; exact hn
  | t :: ts, st, st', n, h, hn => by
    simp only [readToks] at h
    cases hs : stepR st t with
    | ok s1 =>
      rw [hs] at h
      have := readToks_le h (stepR_le hs hn)
      rw [show n + (t :: ts).length = n + 1 + ts.length by simp; omega]
      exact this
    | error e => rw [hs] at h; cases h
theorem readToks_ne : ∀ {ts : List (List UInt8)} {st st' : List (List S41)}, readToks st ts = .ok st' → st ≠ [] → st' ≠ []
  | [], _, _, h, hn => by injection h with h; subst h; exact hn
  | t :: ts, st, st', h, hn => by
    simp only [readToks] at h
    cases hs : stepR st t with
    | ok s1 => rw [hs] at h; exact readToks_ne h (stepR_ne hs hn)
    | error e => rw [hs] at h; cases h
/-- As many words as bytes, at most. -/
theorem toks_le : ∀ (n : Nat) (l : List UInt8), l.length ≤ n → (toks l).length ≤ l.length
  | _, [], _ => by rw [toks_nil]; simp
  | 0, _ :: _, h => by simp at h
  | n + 1, c :: r, h => by
    simp only [List.length_cons] at h
    rw [toks_cons]
    split
    · have := toks_le n r (by omega); simp only [List.length_cons]; omega
    split
    · have h1 := dropWhile_le (fun x => x != 10) r
      have := toks_le n (r.dropWhile (fun x => x != 10)) (by omega)
      simp only [List.length_cons]; omega
    split
    · have := toks_le n r (by omega); simp only [List.length_cons]; omega
    · have h1 := dropWhile_le (fun x => !isEnd x) r
      have := toks_le n (r.dropWhile (fun x => !isEnd x)) (by omega)
      simp only [List.length_cons]; omega

/-- (*reader).word, at every word. -/
theorem word_any (B Br : Nat) (st : List (List S41)) (t : List UInt8) (W : World) (h : ReaderAt B Br W st) (hne : st ≠ []) (hB : B ≤ W.heap.size) (hm : RowsLe 1000000000000 st) :
    Calls Tryd.prog 30 #[.pointer (some ⟨Br, 0, none⟩), .string ⟨t.toArray⟩] W fun e w' =>
      (∃ st', stepR st t = .ok st' ∧ e = .returned (.tuple #[]) ∧ ReaderAt B Br w' st' ∧ Keep B Br W w') ∨ (∃ k, stepR st t = .error k ∧ e = .panicked (thrown k) ∧ W = w') := by
  have htl : (⟨t.toArray⟩ : ByteArray).toList = t := by rw [ByteArray.toList_eq]
  unfold stepR
  by_cases h1 : t = [40]
  · subst h1
    rw [if_pos rfl]
    by_cases hn : st.length ≤ 400
    · rw [if_pos hn]
      refine (word_open B Br st W h hn hB).mono ?_
      rintro e w' ⟨rfl, ha, hk⟩
      exact .inl ⟨_, rfl, rfl, ha, hk⟩
    · rw [if_neg hn]
      refine (word_open_no B Br st W h (by omega)).mono ?_
      rintro e w' ⟨rfl, rfl⟩
      exact .inr ⟨_, rfl, rfl, rfl⟩
  rw [if_neg h1]
  by_cases h2 : t = [41]
  · subst h2
    rw [if_pos rfl]
    match st, h, hne, hm with
    | [x], h, _, _ =>
      refine (word_shut_no B Br x W h).mono ?_
      rintro e w' ⟨rfl, rfl⟩
      exact .inr ⟨_, rfl, rfl, rfl⟩
    | top :: sec :: rest, h, _, hm =>
      refine (word_shut B Br top sec rest W h hB (hm sec (by simp))).mono ?_
      rintro e w' ⟨rfl, ha, hk⟩
      exact .inl ⟨_, rfl, rfl, ha, hk⟩
  rw [if_neg h2]
  match st, h, hne, hm with
  | x :: rest, h, _, hm =>
    have b1 : ((⟨t.toArray⟩ : ByteArray).toList == [40]) = false := by rw [htl]; simpa using h1
    have b2 : ((⟨t.toArray⟩ : ByteArray).toList == [41]) = false := by rw [htl]; simpa using h2
    by_cases hn : (x :: rest).length ≤ 400
    · rw [if_pos hn]
      refine (word_word B Br x rest ⟨t.toArray⟩ W h (by simpa using hn) hB (hm x (by simp)) b1 b2).mono ?_
      rintro e w' ⟨rfl, ha, hk⟩
      exact .inl ⟨_, rfl, rfl, ha, hk⟩
    · rw [if_neg hn]
      refine (word_word_no B Br x rest ⟨t.toArray⟩ W h (by simp at hn; omega) b1 b2).mono ?_
      rintro e w' ⟨rfl, rfl⟩
      exact .inr ⟨_, rfl, rfl, rfl⟩
end Go.Proofs.YtmjnodjjnjckiaaDoor

/- Plain: texts behind each other, remarks, blanks, lists. -/
import Derived.Test.YtmjnodjjnjckiaaDoorT
namespace Go.Proofs.YtmjnodjjnjckiaaDoor
open Go.RowKit Go.Proofs.YtmjnodjjnjckiaaDoorW.PrintWords PLines

theorem take_line {r b : List UInt8} (p : UInt8 → Bool) (h10 : p 10 = false) : (r ++ 10 :: b).takeWhile p = r.takeWhile p := by
  induction r with
  | nil => simp [h10]
  | cons c r ih => simp only [List.cons_append, List.takeWhile_cons, ih]
theorem drop_line {b : List UInt8} (p : UInt8 → Bool) (h10 : p 10 = false) : ∀ r : List UInt8, (r ++ 10 :: b).dropWhile p = r.dropWhile p ++ 10 :: b
  | [] => by simp [h10]
  | c :: r => by
    simp only [List.cons_append, List.dropWhile_cons, drop_line p h10 r]
    split <;> rfl
/-- A line feed parts two texts. -/
theorem toks_parts (n : Nat) : ∀ a b : List UInt8, a.length ≤ n → toks (a ++ 10 :: b) = toks a ++ toks b := by
  induction n with
  | zero =>
    intro a b h
    cases a with
    | nil => rw [List.nil_append, toks_nil, List.nil_append, toks_cons, if_pos (by decide)]
    | cons => simp at h
  | succ n ih =>
    intro a b h
    cases a with
    | nil => rw [List.nil_append, toks_nil, List.nil_append, toks_cons, if_pos (by decide)]
    | cons c r =>
      simp only [List.length_cons] at h
      rw [List.cons_append, toks_cons, toks_cons c r]
      by_cases h1 : isBlank c = true
      · rw [if_pos h1, if_pos h1]; exact ih r b (by omega)
      rw [if_neg h1, if_neg h1]
      by_cases h2 : (c == 59) = true
      · rw [if_pos h2, if_pos h2, drop_line _ (by decide)]
        have := dropWhile_le (fun x => x != 10) r
        exact ih _ b (by omega)
      rw [if_neg h2, if_neg h2]
      by_cases h3 : isSign c = true
      · rw [if_pos h3, if_pos h3, ih r b (by omega)]; rfl
      · rw [if_neg h3, if_neg h3, drop_line _ (by decide), take_line _ (by decide)]
        have := dropWhile_le (fun x => !isEnd x) r
        rw [ih _ b (by omega)]; rfl

/-! ### what has been read tells the words -/
def flS : List (List S41) → List (List UInt8)
  | [] => []
  | [x] => tkL x
  | x :: y :: r => flS (y :: r) ++ [40] :: tkL x
theorem tk_append (a b : List S41) : tkL (a ++ b) = tkL a ++ tkL b := by
  induction a with
  | nil => rfl
  | cons x xs ih => simp only [List.cons_append, tkL, ih, List.append_assoc]
theorem tkT_list (ks : List S41) : tkT ⟨⟨#[]⟩, ks⟩ = [40] :: (tkL ks ++ [[41]]) := by rw [tkT_eq]; exact if_pos rfl
theorem flS_snoc (x : List S41) (z : S41) : ∀ r : List (List S41), flS ((x ++ [z]) :: r) = flS (x :: r) ++ tkT z
  | [] => by simp [flS, tk_append, tkL]
  | y :: r => by simp [flS, tk_append, tkL]
theorem stepR_fl {st st' : List (List S41)} {t : List UInt8} (hne : st ≠ []) (ht : Tok t) (h : stepR st t = .ok st') : flS st' = flS st ++ [t] := by
  unfold stepR at h
  split at h
  · rename_i e
    split at h
    · injection h with h; subst h; subst e
      match st, hne with
      | x :: r, _ => simp [flS, tkL]
    · cases h
  split at h
  · rename_i e
    split at h
    · rename_i top sec rest
      injection h with h; subst h; subst e
      rw [flS_snoc, tkT_list]
      simp [flS]
    · cases h
  split at h
  · split at h
    · rename_i n0 n1 _ y rest hl
      injection h with h; subst h
      rw [flS_snoc, tkT_eq, if_neg]
      · rcases ht with e | e | ⟨e1, e2⟩
        · exact absurd e n0
        · exact absurd e n1
        · show ¬ (t.toArray).size = 0
          simpa using e1
    · cases h
  · cases h
theorem readToks_fl : ∀ {ts : List (List UInt8)} {st st' : List (List S41)}, st ≠ [] → (∀ t ∈ ts, Tok t) → readToks st ts = .ok st' → flS st' = flS st ++ ts
  | [], _, _, _, _, h => by injection h with h; subst h; simp
  | t :: ts, st, st', hne, ht, h => by
    simp only [readToks] at h
    cases hs : stepR st t with
    | ok s1 =>
      rw [hs] at h
      rw [readToks_fl (stepR_ne hs hne) (fun t' h' => ht t' (by simp [h'])) h, stepR_fl hne (ht t (by simp)) hs]
      simp
    | error e => rw [hs] at h; cases h
theorem read_tk {s : ByteArray} {x : List S41} (h : readOut s = .ok x) : toks s.data.toList = tkL x := by
  unfold readOut at h
  split at h
  · cases hr : readToks [[]] (toks s.data.toList) with
    | ok st =>
      rw [hr] at h
      match st, h with
      | [y], h =>
        injection h with h; subst h
        have := readToks_fl (by simp) (toks_tok _ _ (Nat.le_refl _)) hr
        simpa [flS, tkL] using this.symm
    | error e => rw [hr] at h; cases h
  · cases h
/-- Too deep. -/
theorem read_tall (n : Nat) : ∀ l : List S41, SizeOf.sizeOf l ≤ n → okL l = true → ∀ (y : List S41) (st : List (List S41)), (y :: st).length ≤ 401 → (∃ x ∈ l, 401 < (y :: st).length + deT x) → readToks (y :: st) (tkL l) = .error 3 := by
  induction n with
  | zero => intro l h; cases l <;> simp at h
  | succ n ih =>
    intro l
    induction l with
    | nil => intro _ _ y st _ h; obtain ⟨x, hx, _⟩ := h; cases hx
    | cons x xs ihl =>
      intro h hok y st hst hd
      simp only [okL, Bool.and_eq_true] at hok
      have h1 := size41 (List.mem_cons_self (a := x) (l := xs))
      simp only [tkL]
      rw [readToks_append]
      by_cases hx : 401 < (y :: st).length + deT x
      · have hT : readToks (y :: st) (tkT x) = .error 3 := by
          rw [tkT_eq]
          by_cases hz : x.f0.size = 0
          · rw [if_pos hz]
            by_cases hl : (y :: st).length ≤ 400
            · have ho : stepR (y :: st) [40] = .ok ([] :: y :: st) := by simp only [stepR]; rw [if_pos trivial, if_pos hl]
              have hk : readToks ([] :: y :: st) (tkL x.f1) = .error 3 := by
                refine ih x.f1 (by omega) (okT_kids hok.1) [] (y :: st) (by simp only [List.length_cons] at hl ⊢; omega) ?_
                rw [deT_eq] at hx
                have hm : ∀ l : List S41, (0 < deL l) → ∃ z ∈ l, deT z = deL l := by
                  intro l
                  induction l with
                  | nil => intro h; simp [deL] at h
                  | cons a bs iha =>
                    intro _
                    simp only [deL]
                    by_cases hb : deL bs ≤ deT a
                    · exact ⟨a, by simp, by omega⟩
                    · obtain ⟨z, hz, e⟩ := iha (by omega)
                      exact ⟨z, by simp [hz], by omega⟩
                obtain ⟨z, hz, e⟩ := hm x.f1 (by omega)
                exact ⟨z, hz, by simp only [List.length_cons] at hx ⊢; omega⟩
              simp only [readToks, ho]
              rw [readToks_append, hk]
            · simp only [readToks, stepR]
              rw [if_pos trivial, if_neg hl]
          · rw [if_neg hz]
            have hw := okT_word hok.1 hz
            have e0 : x.f0.data.toList ≠ [40] := fun e => by have := hw.1; rw [e] at this; exact absurd this (by decide)
            have e1 : x.f0.data.toList ≠ [41] := fun e => by have := hw.1; rw [e] at this; exact absurd this (by decide)
            rw [deT_eq, hw.2] at hx
            simp only [readToks, stepR]
            rw [if_neg e0, if_neg e1, if_neg (by simp only [deL] at hx; omega)]
        rw [hT]
      · have hT := read_tree _ [x] (Nat.le_refl _) (by simp [okL, hok.1]) y st (fun z hz => by simp at hz; subst hz; omega)
        simp only [tkL, List.append_nil] at hT
        rw [hT]
        obtain ⟨z, hz, hzd⟩ := hd
        rcases List.mem_cons.1 hz with e | hz
        · subst e; exact absurd hzd hx
        · exact ihl (by simp at h; omega) hok.2 (y ++ [x]) st hst ⟨z, hz, hzd⟩

/-! ### the law's texts -/
theorem parts_both {a b : ByteArray} {x y : List S41} (ha : readOut a = .ok x) (hb : readOut b = .ok y) (hs : a.size + b.size ≤ 4000) : readOut ⟨(a.data.toList ++ 10 :: b.data.toList).toArray⟩ = .ok (x ++ y) := by
  obtain ⟨x1, x2⟩ := read_good ha
  obtain ⟨y1, y2⟩ := read_good hb
  unfold readOut
  have hsz : (⟨(a.data.toList ++ 10 :: b.data.toList).toArray⟩ : ByteArray).size = a.size + b.size + 1 := by
    rw [size_eq, size_eq a, size_eq b]; simp; omega
  rw [if_pos (by omega)]
  simp only []
  rw [toks_parts _ _ _ (Nat.le_refl _), read_tk ha, read_tk hb, ← tk_append]
  have := read_tree _ (x ++ y) (Nat.le_refl _) (okL_append x1 y1) [] [] (fun z hz => by
    rcases List.mem_append.1 hz with hz | hz
    · have := x2 z hz; simp; omega
    · have := y2 z hz; simp; omega)
  rw [this]; rfl
theorem parts_more {a : ByteArray} (hs : a.size ≤ 4000) : readOut ⟨(59 :: 120 :: 40 :: 59 :: 10 :: 32 :: 9 :: (a.data.toList ++ [10, 13, 32])).toArray⟩ = readOut a := by
  unfold readOut
  have hsz : (⟨(59 :: 120 :: 40 :: 59 :: 10 :: 32 :: 9 :: (a.data.toList ++ [10, 13, 32])).toArray⟩ : ByteArray).size = a.size + 10 := by
    rw [size_eq, size_eq a]; simp
  rw [if_pos (by omega), if_pos (by omega)]
  simp only []
  have ht : toks (59 :: 120 :: 40 :: 59 :: 10 :: 32 :: 9 :: (a.data.toList ++ [10, 13, 32])) = toks a.data.toList := by
    rw [toks_cons, if_neg (by decide), if_pos (by decide)]
    have hd : ((120 : UInt8) :: 40 :: 59 :: 10 :: 32 :: 9 :: (a.data.toList ++ [10, 13, 32])).dropWhile (fun x => x != 10) = 10 :: 32 :: 9 :: (a.data.toList ++ [10, 13, 32]) := by
      simp [List.dropWhile_cons]
    rw [hd, toks_cons, if_pos (by decide), toks_cons, if_pos (by decide), toks_cons, if_pos (by decide), toks_parts _ _ _ (Nat.le_refl _)]
    rw [toks_cons, if_pos (by decide), toks_cons, if_pos (by decide), toks_nil, List.append_nil]
  rw [ht]
theorem parts_toks_one (a : ByteArray) : toks (40 :: (a.data.toList ++ [10, 41])) = [40] :: (toks a.data.toList ++ [[41]]) := by
  rw [toks_open, toks_parts _ _ _ (Nat.le_refl _), toks_shut, toks_nil]
theorem parts_one {a : ByteArray} {x : List S41} (ha : readOut a = .ok x) (hs : a.size ≤ 4000) :
    readOut ⟨(40 :: (a.data.toList ++ [10, 41])).toArray⟩ = if (∃ z ∈ x, 400 ≤ deT z) then .error 3 else .ok [⟨⟨#[]⟩, x⟩] := by
  obtain ⟨x1, x2⟩ := read_good ha
  have hok : okL [⟨⟨#[]⟩, x⟩] = true := by simp only [okL, Bool.and_true, okT_eq]; simp [x1]; exact .inl rfl
  unfold readOut
  have hsz : (⟨(40 :: (a.data.toList ++ [10, 41])).toArray⟩ : ByteArray).size = a.size + 3 := by
    rw [size_eq, size_eq a]; simp
  rw [if_pos (by omega)]
  simp only []
  have htk : toks (40 :: (a.data.toList ++ [10, 41])) = tkL [⟨⟨#[]⟩, x⟩] := by
    rw [parts_toks_one, read_tk ha]
    simp only [tkL, List.append_nil, tkT_list]
  rw [htk]
  have hde : ∀ l : List S41, deL l + 2 ≤ 401 ∨ ∃ z ∈ l, 400 ≤ deT z := by
    intro l
    induction l with
    | nil => exact .inl (by simp [deL])
    | cons z zs ih =>
      by_cases hz : 400 ≤ deT z
      · exact .inr ⟨z, by simp, hz⟩
      · rcases ih with h | ⟨w, hw, h⟩
        · exact .inl (by simp only [deL]; omega)
        · exact .inr ⟨w, by simp [hw], h⟩
  by_cases ht : ∃ z ∈ x, 400 ≤ deT z
  · rw [if_pos ht]
    obtain ⟨z, hz, hzd⟩ := ht
    have := read_tall _ [⟨⟨#[]⟩, x⟩] (Nat.le_refl _) hok [] [] (by simp) ⟨_, List.mem_singleton.2 rfl, by have := de_mem hz; rw [deT_eq]; simp only [List.length_cons, List.length_nil]; omega⟩
    rw [this]
  · rw [if_neg ht]
    have := read_tree _ [⟨⟨#[]⟩, x⟩] (Nat.le_refl _) hok [] [] (fun z hz => by
      simp at hz; subst hz
      rw [deT_eq]
      rcases hde x with h | h
      · simp only [List.length_cons, List.length_nil]; omega
      · exact absurd h ht)
    rw [this]; rfl
end Go.Proofs.YtmjnodjjnjckiaaDoor

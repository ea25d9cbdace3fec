/- Plain: what is written is read again. No program in sight but for the printed functions of the law's own helpers. -/
import Derived.Test.YtmjnodjjnjckiaaDoorQ
import Derived.Test.YtmjnodjjnjckiaaDoorPLinesx3
import Derived.Test.YtmjnodjjnjckiaaDoorPLinesx6
namespace Go.Proofs.YtmjnodjjnjckiaaDoor
open Go.RowKit Go.Proofs.YtmjnodjjnjckiaaDoorW.PrintWords PLines

/-! ### the words of what is written -/
mutual
def tkT : S41 → List (List UInt8)
  | ⟨w, ks⟩ => if w.size = 0 then [40] :: (tkL ks ++ [[41]]) else [w.data.toList]
def tkL : List S41 → List (List UInt8)
  | [] => []
  | x :: xs => tkT x ++ tkL xs
end
theorem tkT_eq (x : S41) : tkT x = if x.f0.size = 0 then [40] :: (tkL x.f1 ++ [[41]]) else [x.f0.data.toList] := by cases x; rfl
/-- What may stand behind a tree's text. -/
def Ends (r : List UInt8) : Prop := ∀ c t, r = c :: t → isEnd c = true
theorem ends_nil : Ends [] := fun _ _ h => by cases h
theorem ends_cons {c : UInt8} {t : List UInt8} (h : isEnd c = true) : Ends (c :: t) := fun _ _ e => by injection e with e _; rw [← e]; exact h
theorem ahead_all : ∀ {w r : List UInt8}, w.any isEnd = false → Ends r → ahead (w ++ r) = w.length
  | [], r, _, hr => by
    cases r with
    | nil => rfl
    | cons c t => exact ahead_end (hr c t rfl)
  | c :: w, r, h, hr => by
    simp only [List.any_cons, Bool.or_eq_false_iff] at h
    rw [List.cons_append, ahead_cons h.1, ahead_all h.2 hr]; rfl
theorem toks_put {w r : List UInt8} (hw : w ≠ []) (h : w.any isEnd = false) (hr : Ends r) : toks (w ++ r) = w :: toks r := by
  cases w with
  | nil => exact absurd rfl hw
  | cons c w =>
    have hc : isEnd c = false := by simp only [List.any_cons, Bool.or_eq_false_iff] at h; exact h.1
    have ha := ahead_all h hr
    rw [List.cons_append] at ha ⊢
    rw [toks_word hc, ha, ← List.cons_append, List.take_left, List.drop_left]
theorem toks_open (r : List UInt8) : toks (40 :: r) = [40] :: toks r := toks_sign (by decide) (by decide) (by decide)
theorem toks_shut (r : List UInt8) : toks (41 :: r) = [41] :: toks r := toks_sign (by decide) (by decide) (by decide)
theorem toks_blank (r : List UInt8) : toks (32 :: r) = toks r := by rw [toks_cons, if_pos (by decide)]
theorem outR_ends {l : List S41} {r : List UInt8} (hr : Ends r) : Ends (outR l ++ r) := by
  cases l with
  | nil => exact hr
  | cons x xs => exact ends_cons (by decide)
theorem okT_word {x : S41} (h : okT x = true) (hz : ¬ x.f0.size = 0) : x.f0.data.toList.any isEnd = false ∧ x.f1 = [] := by
  rw [okT_eq] at h
  simp only [Bool.and_eq_true, Bool.not_eq_true', Bool.or_eq_true, beq_iff_eq] at h
  exact ⟨h.1.1, h.1.2.elim (fun h => absurd h hz) (fun h => by simpa using h)⟩
theorem okT_kids {x : S41} (h : okT x = true) : okL x.f1 = true := by
  rw [okT_eq] at h
  simp only [Bool.and_eq_true] at h
  exact h.2
theorem toks_out (n : Nat) : ∀ l : List S41, SizeOf.sizeOf l ≤ n → okL l = true → (∀ r, Ends r → toks (outL l ++ r) = tkL l ++ toks r) ∧ (∀ r, Ends r → toks (outR l ++ r) = tkL l ++ toks r) := by
  induction n with
  | zero => intro l h; cases l <;> simp at h
  | succ n ih =>
    intro l
    induction l with
    | nil => intro _ _; exact ⟨fun r _ => rfl, fun r _ => rfl⟩
    | cons x xs ihl =>
      intro h hok
      simp only [okL, Bool.and_eq_true] at hok
      have h1 := size41 (List.mem_cons_self (a := x) (l := xs))
      obtain ⟨hx, _⟩ := ih x.f1 (by omega) (okT_kids hok.1)
      obtain ⟨_, hR⟩ := ihl (by simp at h; omega) hok.2
      have hT : ∀ r, Ends r → toks (outT x ++ r) = tkT x ++ toks r := by
        intro r hr
        rw [outT_eq, tkT_eq]
        by_cases hz : x.f0.size = 0
        · rw [if_pos hz, if_pos hz, List.cons_append, toks_open, List.append_assoc, List.singleton_append, hx _ (ends_cons (c := 41) (t := r) (by decide)), toks_shut]
          simp
        · rw [if_neg hz, if_neg hz]
          have hw := okT_word hok.1 hz
          rw [toks_put (fun e => hz (by rw [size_eq, e]; rfl)) hw.1 hr]; rfl
      refine ⟨fun r hr => ?_, fun r hr => ?_⟩
      · simp only [outL, tkL, List.append_assoc]
        rw [hT _ (outR_ends hr), hR r hr]
      · simp only [outR, tkL, List.append_assoc, List.cons_append]
        rw [toks_blank, hT _ (outR_ends hr), hR r hr]
theorem toks_outL {l : List S41} (hok : okL l = true) : toks (outL l) = tkL l := by
  have := (toks_out _ l (Nat.le_refl _) hok).1 [] ends_nil
  simpa [toks_nil] using this

theorem readToks_append {a b : List (List UInt8)} : ∀ {st : List (List S41)}, readToks st (a ++ b) = (match readToks st a with | .ok st' => readToks st' b | .error e => .error e) := by
  induction a with
  | nil => intro st; rfl
  | cons t ts ih =>
    intro st
    simp only [List.cons_append, readToks]
    cases stepR st t with
    | ok st' => exact ih
    | error e => rfl
theorem s41_eq {x : S41} {w : ByteArray} {ks : List S41} (h0 : x.f0 = w) (h1 : x.f1 = ks) : x = ⟨w, ks⟩ := by cases x; simp at h0 h1; rw [h0, h1]
theorem empty_bytes {w : ByteArray} (h : w.size = 0) : w = ⟨#[]⟩ := by
  cases w with
  | mk a => rw [show a = #[] from Array.eq_empty_of_size_eq_zero h]
theorem read_tree (n : Nat) : ∀ l : List S41, SizeOf.sizeOf l ≤ n → okL l = true → ∀ (y : List S41) (st : List (List S41)), (∀ x ∈ l, (y :: st).length + deT x ≤ 401) → readToks (y :: st) (tkL l) = .ok ((y ++ l) :: st) := by
  induction n with
  | zero => intro l h; cases l <;> simp at h
  | succ n ih =>
    intro l
    induction l with
    | nil => intro _ _ y st _; simp [tkL, readToks]
    | cons x xs ihl =>
      intro h hok y st hd
      simp only [okL, Bool.and_eq_true] at hok
      have h1 := size41 (List.mem_cons_self (a := x) (l := xs))
      have hdx := hd x (by simp)
      have hst : (y :: st).length ≤ 400 := by rw [deT_eq] at hdx; omega
      have hT : readToks (y :: st) (tkT x) = .ok ((y ++ [x]) :: st) := by
        rw [tkT_eq]
        by_cases hz : x.f0.size = 0
        · rw [if_pos hz]
          have hk := ih x.f1 (by omega) (okT_kids hok.1) [] (y :: st) (fun z hzm => by
            have := de_mem hzm
            rw [deT_eq] at hdx
            simp only [List.length_cons] at hdx ⊢
            omega)
          have ho : stepR (y :: st) [40] = .ok ([] :: y :: st) := by simp only [stepR]; rw [if_pos trivial, if_pos hst]
          simp only [readToks, ho]
          rw [readToks_append, hk]
          simp only [readToks, stepR, List.nil_append]
          rw [if_neg (by decide), if_pos trivial]
          simp only []
          rw [← s41_eq (empty_bytes hz) rfl]
        · rw [if_neg hz]
          have hw := okT_word hok.1 hz
          have e0 : x.f0.data.toList ≠ [40] := fun e => by have := hw.1; rw [e] at this; exact absurd this (by decide)
          have e1 : x.f0.data.toList ≠ [41] := fun e => by have := hw.1; rw [e] at this; exact absurd this (by decide)
          simp only [readToks, stepR]
          rw [if_neg e0, if_neg e1, if_pos hst]
          simp only []
          rw [← s41_eq (x := x) rfl hw.2]
      simp only [tkL]
      rw [readToks_append, hT]
      have := ihl (by simp at h; omega) hok.2 (y ++ [x]) st (fun z hzm => hd z (by simp [hzm]))
      simpa using this
/-- What is written is read as the trees. -/
theorem round_trip {l : List S41} (hok : okL l = true) (hd : ∀ x ∈ l, deT x ≤ 400) (hl : (outL l).length ≤ 262144) : readOut ⟨(outL l).toArray⟩ = .ok l := by
  unfold readOut
  rw [if_pos (by rw [size_eq]; exact hl)]
  have h1 := read_tree _ l (Nat.le_refl _) hok [] [] (fun x hx => by have := hd x hx; simp; omega)
  have h2 := toks_outL hok
  simp only []
  rw [h2, h1]
  rfl

/-! ### what is read may be written -/
/-- What holds of trees that have been read, at a depth. -/
def Good (d : Nat) (l : List S41) : Prop := okL l = true ∧ ∀ x ∈ l, d + deT x ≤ 401
theorem Good.nil (d : Nat) : Good d [] := ⟨rfl, fun _ h => by cases h⟩
theorem okL_append {a b : List S41} (h : okL a = true) (k : okL b = true) : okL (a ++ b) = true := by
  rw [okL_iff] at *
  intro x hx
  rcases List.mem_append.1 hx with hx | hx
  · exact h x hx
  · exact k x hx
theorem Good.snoc {d : Nat} {l : List S41} {x : S41} (h : Good d l) (hx : okT x = true) (hd : d + deT x ≤ 401) : Good d (l ++ [x]) :=
  ⟨okL_append h.1 (by simp [okL, hx]), fun y hy => by
    rcases List.mem_append.1 hy with hy | hy
    · exact h.2 y hy
    · simp at hy; subst hy; exact hd⟩
def GoodS : List (List S41) → Prop
  | [] => True
  | x :: xs => Good (xs.length + 1) x ∧ xs.length + 1 ≤ 401 ∧ GoodS xs
/-- A word or a sign. -/
def Tok (t : List UInt8) : Prop := t = [40] ∨ t = [41] ∨ (t ≠ [] ∧ t.any isEnd = false)
theorem toks_tok (n : Nat) : ∀ l : List UInt8, l.length ≤ n → ∀ t ∈ toks l, Tok t := by
  induction n with
  | zero =>
    intro l h
    cases l with
    | nil => intro t ht; rw [toks_nil] at ht; cases ht
    | cons => simp at h
  | succ n ih =>
    intro l h
    cases l with
    | nil => intro t ht; rw [toks_nil] at ht; cases ht
    | cons c r =>
      simp only [List.length_cons] at h
      rw [toks_cons]
      split
      · exact ih r (by omega)
      split
      · have := dropWhile_le (fun x => x != 10) r
        exact ih _ (by omega)
      split
      · rename_i hs
        intro t ht
        rcases List.mem_cons.1 ht with rfl | ht
        · simp only [isSign, Bool.or_eq_true, beq_iff_eq] at hs
          rcases hs with rfl | rfl
          · exact .inl rfl
          · exact .inr (.inl rfl)
        · exact ih r (by omega) t ht
      · rename_i hb h9 hs
        intro t ht
        rcases List.mem_cons.1 ht with rfl | ht
        · refine .inr (.inr ⟨by simp, ?_⟩)
          have hc : isEnd c = false := by rw [end_iff]; simp_all
          rw [List.any_cons, hc, Bool.false_or]
          rw [List.any_eq_false]
          intro y hy
          have := List.all_eq_true.1 List.all_takeWhile y hy
          simpa using this
        · have := dropWhile_le (fun x => !isEnd x) r
          exact ih _ (by omega) t ht
theorem stepR_good {st st' : List (List S41)} {t : List UInt8} (h : stepR st t = .ok st') (ht : Tok t) (hg : GoodS st) : GoodS st' := by
  unfold stepR at h
  split at h
  · split at h
    · rename_i hl
      injection h with h; subst h
      exact ⟨Good.nil _, by omega, hg⟩
    · cases h
  split at h
  · split at h
    · rename_i top sec rest
      injection h with h; subst h
      obtain ⟨h1, h2, h3, h4, h5⟩ := hg
      refine ⟨h3.snoc ?_ ?_, h4, h5⟩
      · rw [okT_eq]; simp [h1.1]; exact .inl rfl
      · rw [deT_eq]
        have : deL top + (rest.length + 2) ≤ 401 ∨ top = [] := by
          cases top with
          | nil => exact .inr rfl
          | cons z zs =>
            left
            have hz : ∀ l : List S41, (∀ x ∈ l, (rest.length + 1 + 1) + deT x ≤ 401) → l ≠ [] → deL l + (rest.length + 2) ≤ 401 := by
              intro l
              induction l with
              | nil => intro _ h; exact absurd rfl h
              | cons x xs ihx =>
                intro hx _
                have := hx x (by simp)
                cases xs with
                | nil => simp only [deL]; omega
                | cons y ys =>
                  have := ihx (fun z hz => hx z (by simp [hz])) (by simp)
                  simp only [deL] at this ⊢
                  omega
            exact hz _ (by simpa using h1.2) (by simp)
        rcases this with h | rfl
        · simp only []; omega
        · simp only [deL, List.length_cons] at h2 ⊢; omega
    · cases h
  split at h
  · split at h
    · rename_i n0 n1 _ y rest hl
      injection h with h; subst h
      obtain ⟨h1, h2, h3⟩ := hg
      refine ⟨h1.snoc ?_ ?_, h2, h3⟩
      · rcases ht with e | e | ⟨e1, e2⟩
        · exact absurd e n0
        · exact absurd e n1
        · rw [okT_eq]; simp [okL]; simpa using e2
      · rw [deT_eq]; simp only [deL, List.length_cons] at hl ⊢; omega
    · cases h
  · cases h
theorem readToks_good : ∀ {ts : List (List UInt8)} {st st' : List (List S41)}, readToks st ts = .ok st' → (∀ t ∈ ts, Tok t) → GoodS st → GoodS st'
  | [], _, _, h, _, hg => by injection h with h; subst h; exact hg
  | t :: ts, st, st', h, ht, hg => by
    simp only [readToks] at h
    cases hs : stepR st t with
    | ok s1 => rw [hs] at h; exact readToks_good h (fun t' h' => ht t' (by simp [h'])) (stepR_good hs (ht t (by simp)) hg)
    | error e => rw [hs] at h; cases h
theorem read_good {s : ByteArray} {m : List S41} (h : readOut s = .ok m) : okL m = true ∧ ∀ x ∈ m, deT x ≤ 400 := by
  unfold readOut at h
  split at h
  · cases hr : readToks [[]] (toks s.data.toList) with
    | ok st =>
      rw [hr] at h
      have hg := readToks_good hr (toks_tok _ _ (Nat.le_refl _)) ⟨Good.nil _, by simp, trivial⟩
      match st, h, hg with
      | [x], h, hg =>
        injection h with h; subst h
        refine ⟨hg.1.1, fun x hx => ?_⟩
        have := hg.1.2 x hx
        simp at this; omega
    | error e => rw [hr] at h; cases h
  · cases h

/-! ### how much is read -/
theorem outs_wt (n : Nat) : ∀ l : List S41, SizeOf.sizeOf l ≤ n → (outL l).length ≤ 3 * wtL l ∧ (outR l).length ≤ 3 * wtL l := by
  induction n with
  | zero => intro l h; cases l <;> simp at h
  | succ n ih =>
    intro l
    induction l with
    | nil => intro _; simp [outL, outR]
    | cons x xs ihl =>
      intro h
      have h1 := size41 (List.mem_cons_self (a := x) (l := xs))
      have h2 := (ih x.f1 (by omega)).1
      have h3 := (ihl (by simp at h; omega)).2
      have hT : (outT x).length + 1 ≤ 3 * wtT x := by
        rw [outT_eq, wtT_eq]
        have := size_eq x.f0
        split
        · simp only [List.length_cons, List.length_append, List.length_nil]; omega
        · omega
      simp only [outL, outR, wtL, List.length_append, List.length_cons]
      omega
theorem wt_append (a b : List S41) : wtL (a ++ b) = wtL a + wtL b := by
  induction a with
  | nil => simp [wtL]
  | cons x xs ih => simp only [List.cons_append, wtL, ih]; omega
def wtS : List (List S41) → Nat
  | [] => 0
  | x :: xs => wtL x + 1 + wtS xs
def tkS : List (List UInt8) → Nat
  | [] => 0
  | t :: ts => t.length + 1 + tkS ts
theorem stepR_wt {st st' : List (List S41)} {t : List UInt8} (h : stepR st t = .ok st') : wtS st' ≤ wtS st + t.length + 1 := by
  unfold stepR at h
  split at h
  · split at h
    · injection h with h; subst h; simp only [wtS, wtL]; omega
    · cases h
  split at h
  · split at h
    · injection h with h; subst h
      simp only [wtS, wt_append, wtL, wtT_eq]
      have : (⟨#[]⟩ : ByteArray).size = 0 := rfl
      omega
    · cases h
  split at h
  · split at h
    · injection h with h; subst h
      simp only [wtS, wt_append, wtL, wtT_eq]
      have : (⟨t.toArray⟩ : ByteArray).size = t.length := by rw [size_eq]
      omega
    · cases h
  · cases h
theorem readToks_wt : ∀ {ts : List (List UInt8)} {st st' : List (List S41)}, readToks st ts = .ok st' → wtS st' ≤ wtS st + tkS ts
  | [], _, _, h => by injection h with h; subst h; simp [tkS]
  | t :: ts, st, st', h => by
    simp only [readToks] at h
    cases hs : stepR st t with
    | ok s1 =>
      rw [hs] at h
      have h1 := readToks_wt h
      have h2 := stepR_wt hs
      simp only [tkS]; omega
    | error e => rw [hs] at h; cases h
theorem take_drop_len (p : UInt8 → Bool) (r : List UInt8) : (r.takeWhile p).length + (r.dropWhile p).length = r.length := by
  have := congrArg List.length (List.takeWhile_append_dropWhile (p := p) (l := r))
  rw [List.length_append] at this
  exact this
theorem toks_wt (n : Nat) : ∀ l : List UInt8, l.length ≤ n → tkS (toks l) ≤ 2 * l.length := by
  induction n with
  | zero =>
    intro l h
    cases l with
    | nil => rw [toks_nil]; simp [tkS]
    | cons => simp at h
  | succ n ih =>
    intro l h
    cases l with
    | nil => rw [toks_nil]; simp [tkS]
    | cons c r =>
      simp only [List.length_cons] at h ⊢
      rw [toks_cons]
      split
      · have := ih r (by omega); omega
      split
      · have h1 := dropWhile_le (fun x => x != 10) r
        have := ih (r.dropWhile (fun x => x != 10)) (by omega)
        omega
      split
      · have := ih r (by omega); simp only [tkS, List.length_cons, List.length_nil]; omega
      · have h1 := take_drop_len (fun x => !isEnd x) r
        have := ih (r.dropWhile (fun x => !isEnd x)) (by omega)
        simp only [tkS, List.length_cons]
        omega
theorem read_wt {s : ByteArray} {m : List S41} (h : readOut s = .ok m) : wtL m ≤ 2 * s.size := by
  unfold readOut at h
  split at h
  · cases hr : readToks [[]] (toks s.data.toList) with
    | ok st =>
      rw [hr] at h
      have h1 := readToks_wt hr
      have h2 := toks_wt _ s.data.toList (Nat.le_refl _)
      rw [← size_eq] at h2
      match st, h with
      | [x], h =>
        injection h with h; subst h
        simp only [wtS, wtL] at h1
        omega
    | error e => rw [hr] at h; cases h
  · cases h
/-- What a short text is read as may be written, and is read again. -/
theorem read_write {s : ByteArray} {m : List S41} (h : readOut s = .ok m) (hs : s.size ≤ 4000) : writeOut m = .ok (outL m) ∧ readOut ⟨(outL m).toArray⟩ = .ok m := by
  obtain ⟨h1, h2⟩ := read_good h
  have h3 := read_wt h
  have h4 := (outs_wt _ m (Nat.le_refl _)).1
  have h5 : (outL m).length ≤ 262144 := by omega
  refine ⟨?_, round_trip h1 h2 h5⟩
  unfold writeOut
  rw [if_pos h1, if_pos h2, if_pos h5]
theorem write_read {l : List S41} {t : List UInt8} (h : writeOut l = .ok t) : readOut ⟨t.toArray⟩ = .ok l := by
  unfold writeOut at h
  split at h
  · split at h
    · split at h
      · injection h with h; subst h; exact round_trip (by assumption) (by assumption) (by assumption)
      · cases h
    · cases h
  · cases h
theorem stepR_err {st : List (List S41)} {t : List UInt8} {e : Int} (h : stepR st t = .error e) : e = 3 ∨ e = 4 := by
  unfold stepR at h
  repeat' split at h
  all_goals first
    | (cases h; done)
    | (injection h with h; subst h; simp)
theorem readToks_err : ∀ {ts : List (List UInt8)} {st : List (List S41)} {e : Int}, readToks st ts = .error e → e = 3 ∨ e = 4
  | [], _, _, h => by cases h
  | t :: ts, st, e, h => by
    simp only [readToks] at h
    cases hs : stepR st t with
    | ok s1 => rw [hs] at h; exact readToks_err h
    | error k => rw [hs] at h; injection h with h; subst h; exact stepR_err hs
theorem readOut_err {s : ByteArray} {e : Int} (h : readOut s = .error e) : e = 3 ∨ e = 4 := by
  unfold readOut at h
  split at h
  · cases hr : readToks [[]] (toks s.data.toList) with
    | ok st =>
      rw [hr] at h
      split at h
      · cases h
      · injection h with h; exact .inr h.symm
      · cases (by assumption : Except.ok st = Except.error _)
    | error k => rw [hr] at h; injection h with h; subst h; exact readToks_err hr
  · injection h with h; exact .inl h.symm
end Go.Proofs.YtmjnodjjnjckiaaDoor

/- The printed helpers of the law come to an end: great, equal. -/
namespace Go.Proofs.YtmjnodjjnjckiaaDoor
open Go.RowKit Go.Proofs.YtmjnodjjnjckiaaDoorW.PrintWords PLines

theorem succ_of {k n : Nat} (h : n + 1 ≤ k) : ∃ k', k = k' + 1 ∧ n ≤ k' := ⟨k - 1, by omega, by omega⟩
theorem high_loop {l : List S41} (hw : l.length ≤ 1000000000000) (b : Int) (hf : ∀ x ∈ l, ∀ b, ∃ r, Ev (fun k => spandrellaw30_high.f k x.f1 b) r) : ∀ (j i : Nat), i + j = l.length → ∃ r, Ev (fun k => spandrellaw30_high.l0 k l b (i : Int)) r
  | 0, i, h => by
    refine ⟨false, 1, fun k hk => ?_⟩
    obtain ⟨k, rfl, _⟩ := succ_of hk
    simp only [spandrellaw30_high.l0]
    rw [if_neg (by omega)]
  | j + 1, i, h => by
    have hi : i < l.length := by omega
    by_cases hb : b = 0
    · refine ⟨true, 1, fun k hk => ?_⟩
      obtain ⟨k, rfl, _⟩ := succ_of hk
      simp only [spandrellaw30_high.l0]
      rw [if_pos (by omega), if_pos hb]
    · obtain ⟨r1, k1, h1⟩ := hf _ (rd_mem hi) (wrap64 (b - 1))
      obtain ⟨r2, k2, h2⟩ := high_loop hw b hf j (i + 1) (by omega)
      dsimp only at h1 h2
      refine ⟨if r1 = true then true else r2, max k1 k2 + 1, fun k hk => ?_⟩
      obtain ⟨k, rfl, hk⟩ := succ_of hk
      simp only [spandrellaw30_high.l0]
      rw [if_pos (by omega), if_neg hb, if_pos (by omega), h1 k (by omega), Option.bind_some, wrap_i (by omega), h2 k (by omega)]
      split <;> rfl
theorem high_ev (n : Nat) : ∀ l : List S41, SizeOf.sizeOf l ≤ n → wtL l ≤ 1000000000000 → ∀ b, ∃ r, Ev (fun k => spandrellaw30_high.f k l b) r := by
  induction n with
  | zero => intro l h; cases l <;> simp at h
  | succ n ih =>
    intro l h hw b
    have hf : ∀ x ∈ l, ∀ b, ∃ r, Ev (fun k => spandrellaw30_high.f k x.f1 b) r := fun x hx => by
      have h1 := wt_mem hx
      rw [wtT_eq] at h1
      exact ih x.f1 (by have := size41 hx; omega) (by omega)
    obtain ⟨r, k, hk⟩ := high_loop (by have := wt_len l; omega) b hf l.length 0 (by omega)
    refine ⟨r, k + 1, fun k' hk' => ?_⟩
    obtain ⟨k', rfl, hk'⟩ := succ_of hk'
    simpa [spandrellaw30_high.f] using hk k' (by omega)
theorem parts_loop {l : List S41} (hw : l.length ≤ 1000000000000) (b : Int) (hf : ∀ x ∈ l, ∀ b, ∃ r, Ev (fun k => spandrellaw30_parts.f k x.f1 b) r) : ∀ (j i : Nat) (v : Int), i + j = l.length → ∃ r, Ev (fun k => spandrellaw30_parts.l0 k l b v (i : Int)) r
  | 0, i, v, h => by
    refine ⟨v, 1, fun k hk => ?_⟩
    obtain ⟨k, rfl, _⟩ := succ_of hk
    simp only [spandrellaw30_parts.l0]
    rw [if_neg (by omega)]
  | j + 1, i, v, h => by
    have hi : i < l.length := by omega
    by_cases hb : v ≤ b
    · obtain ⟨r1, k1, h1⟩ := hf _ (rd_mem hi) (wrap64 (b - v))
      obtain ⟨r2, k2, h2⟩ := parts_loop hw b hf j (i + 1) (wrap64 ((wrap64 ((wrap64 (v + 1)) + (((rd_T41 l (i : Int)).f0).size : Int))) + r1)) (by omega)
      dsimp only at h1 h2
      refine ⟨r2, max k1 k2 + 1, fun k hk => ?_⟩
      obtain ⟨k, rfl, hk⟩ := succ_of hk
      simp only [spandrellaw30_parts.l0]
      rw [if_pos (by omega), if_pos hb, if_pos (by omega), h1 k (by omega), Option.bind_some, wrap_i (by omega), h2 k (by omega)]
    · refine ⟨v, 1, fun k hk => ?_⟩
      obtain ⟨k, rfl, _⟩ := succ_of hk
      simp only [spandrellaw30_parts.l0]
      rw [if_pos (by omega), if_neg hb]
theorem parts_ev (n : Nat) : ∀ l : List S41, SizeOf.sizeOf l ≤ n → wtL l ≤ 1000000000000 → ∀ b, ∃ r, Ev (fun k => spandrellaw30_parts.f k l b) r := by
  induction n with
  | zero => intro l h; cases l <;> simp at h
  | succ n ih =>
    intro l h hw b
    have hf : ∀ x ∈ l, ∀ b, ∃ r, Ev (fun k => spandrellaw30_parts.f k x.f1 b) r := fun x hx => by
      have h1 := wt_mem hx
      rw [wtT_eq] at h1
      exact ih x.f1 (by have := size41 hx; omega) (by omega)
    obtain ⟨r, k, hk⟩ := parts_loop (by have := wt_len l; omega) b hf l.length 0 0 (by omega)
    refine ⟨r, k + 1, fun k' hk' => ?_⟩
    obtain ⟨k', rfl, hk'⟩ := succ_of hk'
    simpa [spandrellaw30_parts.f] using hk k' (by omega)
theorem great_ev (l : List S41) (hw : wtL l ≤ 1000000000000) : ∃ r, Ev (fun k => spandrellaw30_great.f k l) r := by
  obtain ⟨r1, k1, h1⟩ := high_ev _ l (Nat.le_refl _) hw 500
  obtain ⟨r2, k2, h2⟩ := parts_ev _ l (Nat.le_refl _) hw 4000
  dsimp only at h1 h2
  refine ⟨if r1 = true then true else decide (r2 > 4000), max k1 k2, fun k hk => ?_⟩
  simp only [spandrellaw30_great.f]
  rw [h1 k (by omega), Option.bind_some, h2 k (by omega), Option.bind_some]
  split <;> rfl
theorem equal_loop {l : List S41} (hw : l.length ≤ 1000000000000) (hf : ∀ x ∈ l, Ev (fun k => spandrellaw30_equal.f k x.f1 x.f1) true) : ∀ (j i : Nat), i + j = l.length → Ev (fun k => spandrellaw30_equal.l0 k l l (i : Int)) true
  | 0, i, h => by
    refine ⟨1, fun k hk => ?_⟩
    obtain ⟨k, rfl, _⟩ := succ_of hk
    simp only [spandrellaw30_equal.l0]
    rw [if_neg (by omega)]
  | j + 1, i, h => by
    have hi : i < l.length := by omega
    obtain ⟨k1, h1⟩ := hf _ (rd_mem hi)
    obtain ⟨k2, h2⟩ := equal_loop hw hf j (i + 1) (by omega)
    dsimp only at h1 h2
    refine ⟨max k1 k2 + 1, fun k hk => ?_⟩
    obtain ⟨k, rfl, hk⟩ := succ_of hk
    simp only [spandrellaw30_equal.l0]
    rw [if_pos (by omega), if_pos (by omega), if_pos (by omega), if_pos trivial, h1 k (by omega), Option.bind_some, if_pos rfl, wrap_i (by omega), h2 k (by omega)]
theorem equal_ev (n : Nat) : ∀ l : List S41, SizeOf.sizeOf l ≤ n → wtL l ≤ 1000000000000 → Ev (fun k => spandrellaw30_equal.f k l l) true := by
  induction n with
  | zero => intro l h; cases l <;> simp at h
  | succ n ih =>
    intro l h hw
    have hf : ∀ x ∈ l, Ev (fun k => spandrellaw30_equal.f k x.f1 x.f1) true := fun x hx => by
      have h1 := wt_mem hx
      rw [wtT_eq] at h1
      exact ih x.f1 (by have := size41 hx; omega) (by omega)
    obtain ⟨k, hk⟩ := equal_loop (by have := wt_len l; omega) hf l.length 0 (by omega)
    refine ⟨k + 1, fun k' hk' => ?_⟩
    obtain ⟨k', rfl, hk'⟩ := succ_of hk'
    simp only [spandrellaw30_equal.f]
    rw [if_pos trivial]
    exact hk k' (by omega)
end Go.Proofs.YtmjnodjjnjckiaaDoor

/- Plain: the document's words of a text are the program's. -/
import Derived.Test.YtmjnodjjnjckiaaDoorZ
namespace Go.Proofs.YtmjnodjjnjckiaaDoor
open Go.RowKit Go.Proofs.YtmjnodjjnjckiaaDoorW.PrintWords PLines Go.Proofs.YtmjnodjjnjckiaaDoorW.PrintLast Go.Proofs.YtmjnodjjnjckiaaDoorW.PrintMore

def tokB (t : List UInt8) : ByteArray := ⟨t.toArray⟩
theorem extract_tok (s : ByteArray) (i p : Nat) : s.extract i p = tokB ((s.data.toList.drop i).take (p - i)) := by
  apply bytes_inj'
  rw [extract_list]
  rfl
theorem semi_no {c : UInt8} (h : (c == 59) = false) : ¬ ((c.toNat : Nat) : Int) = 59 := fun e => by rw [(semi_iff c).1 e] at h; cases h
theorem line_iff (c : UInt8) : ((c.toNat : Nat) : Int) = 10 ↔ c = 10 := by
  have := byte_cases (fun c => (decide (((c.toNat : Nat) : Int) = 10)) == (decide (c = 10))) (by decide +kernel) c
  have := eq_of_beq this
  constructor
  · intro h
    rw [decide_eq_true h] at this
    exact of_decide_eq_true this.symm
  · intro h
    rw [decide_eq_true h] at this
    exact of_decide_eq_true this

/-- What l0 tells from a place on. -/
def W0 (s : ByteArray) (i : Nat) : Prop := ∀ X : List ByteArray, X.length ≤ i → Ev (fun k => spandrelref30_words.l0 k s X (i : Int)) (X ++ (toks (s.data.toList.drop i)).map tokB)
theorem words_l1 {s : ByteArray} (hs : s.size ≤ 1000000000000) {n : Nat} (ih : ∀ p, n ≤ p → p ≤ s.size → W0 s p) : ∀ (m j : Nat), j + m = s.size → n ≤ j → ∀ X : List ByteArray, X.length ≤ j →
    Ev (fun k => spandrelref30_words.l1 k s X (j : Int)) (X ++ (toks ((s.data.toList.drop j).dropWhile (fun x => x != 10))).map tokB)
  | 0, j, h, hn, X, hX => by
    have hl := size_eq s
    obtain ⟨k1, h1⟩ := ih j hn (by omega) X hX
    dsimp only at h1
    refine ⟨k1 + 1, fun k hk => ?_⟩
    obtain ⟨k, rfl, hk⟩ := succ_of hk
    simp only [spandrelref30_words.l1]
    rw [if_neg (by omega), h1 k (by omega), List.drop_of_length_le (by omega)]
    rfl
  | m + 1, j, h, hn, X, hX => by
    have hl := size_eq s
    have hj : j < s.data.toList.length := by omega
    rw [List.drop_eq_getElem_cons hj, List.dropWhile_cons]
    by_cases hc : s.data.toList[j] = 10
    · obtain ⟨k1, h1⟩ := ih j hn (by omega) X hX
      dsimp only at h1
      refine ⟨k1 + 1, fun k hk => ?_⟩
      obtain ⟨k, rfl, hk⟩ := succ_of hk
      simp only [spandrelref30_words.l1]
      rw [if_pos (by omega), if_pos (by omega), bt_get hj, if_pos ((line_iff _).2 hc), h1 k (by omega), if_neg (by rw [hc]; decide), ← List.drop_eq_getElem_cons hj]
    · obtain ⟨k1, h1⟩ := words_l1 hs ih m (j + 1) (by omega) (by omega) X (by omega)
      dsimp only at h1
      refine ⟨k1 + 1, fun k hk => ?_⟩
      obtain ⟨k, rfl, hk⟩ := succ_of hk
      simp only [spandrelref30_words.l1]
      rw [if_pos (by omega), if_pos (by omega), bt_get hj, if_neg (fun e => hc ((line_iff _).1 e)), wrap_i (by omega), h1 k (by omega), if_pos (by simpa using hc)]
theorem words_l2 {s : ByteArray} (hs : s.size ≤ 1000000000000) {i : Nat} (ih : ∀ p, i + 1 ≤ p → p ≤ s.size → W0 s p) : ∀ (m j : Nat), j + m = s.size → i + 1 ≤ j → ∀ X : List ByteArray, X.length ≤ i →
    Ev (fun k => spandrelref30_words.l2 k s X (i : Int) (j : Int)) (X ++ s.extract i (j + ahead (s.data.toList.drop j)) :: (toks (s.data.toList.drop (j + ahead (s.data.toList.drop j)))).map tokB)
  | 0, j, h, hn, X, hX => by
    have hl := size_eq s
    have e0 : s.data.toList.drop j = [] := List.drop_of_length_le (by omega)
    obtain ⟨k1, h1⟩ := ih j hn (by omega) (X ++ [s.extract i j]) (by simp; omega)
    dsimp only at h1
    refine ⟨k1 + 1, fun k hk => ?_⟩
    obtain ⟨k, rfl, hk⟩ := succ_of hk
    simp only [spandrelref30_words.l2]
    rw [if_neg (by omega), if_pos (by omega), if_pos (by omega), if_pos (by omega), if_pos (by omega), Int.toNat_natCast, Int.toNat_natCast, h1 k (by omega), e0, ahead_nil, Nat.add_zero, e0]
    simp
  | m + 1, j, h, hn, X, hX => by
    have hl := size_eq s
    have hj : j < s.data.toList.length := by omega
    have hdr := List.drop_eq_getElem_cons hj
    obtain ⟨k1, h1⟩ := ih j hn (by omega) (X ++ [s.extract i j]) (by simp; omega)
    obtain ⟨k2, h2⟩ := words_l2 hs ih m (j + 1) (by omega) (by omega) X hX
    dsimp only at h1 h2
    refine ⟨max k1 k2 + 1, fun k hk => ?_⟩
    obtain ⟨k, rfl, hk⟩ := succ_of hk
    simp only [spandrelref30_words.l2]
    rw [if_pos (by omega), if_pos (by omega), bt_get hj, blank_f, Option.bind_some, sign_f, Option.bind_some]
    have hend := end_iff s.data.toList[j]
    have stop : isEnd s.data.toList[j] = true → spandrelref30_words.l0 k s (X ++ [s.extract i j]) (j : Int) = some (X ++ s.extract i (j + ahead (s.data.toList.drop j)) :: (toks (s.data.toList.drop (j + ahead (s.data.toList.drop j)))).map tokB) := by
      intro he
      rw [h1 k (by omega)]
      have ha : ahead (s.data.toList.drop j) = 0 := by rw [hdr]; exact ahead_end he
      rw [ha]; simp
    cases hb : isBlank s.data.toList[j] with
    | true =>
      rw [if_pos rfl, if_pos (by omega), if_pos (by omega), if_pos (by omega), if_pos (by omega), Int.toNat_natCast, Int.toNat_natCast]
      exact stop (by rw [hend, hb]; rfl)
    | false =>
      rw [if_neg Bool.false_ne_true]
      cases hsg : isSign s.data.toList[j] with
      | true =>
        rw [if_pos rfl, if_pos (by omega), if_pos (by omega), if_pos (by omega), if_pos (by omega), Int.toNat_natCast, Int.toNat_natCast]
        exact stop (by rw [hend, hsg]; simp)
      | false =>
        rw [if_neg Bool.false_ne_true]
        cases h9 : (s.data.toList[j] == 59) with
        | true =>
          rw [if_pos ((semi_iff _).2 h9), if_pos (by omega), if_pos (by omega), if_pos (by omega), if_pos (by omega), Int.toNat_natCast, Int.toNat_natCast]
          exact stop (by rw [hend, h9]; simp)
        | false =>
          rw [if_neg (semi_no h9), wrap_i (by omega), h2 k (by omega)]
          have he : isEnd s.data.toList[j] = false := by rw [hend, hb, hsg, h9]; rfl
          have ha : ahead (s.data.toList.drop j) = ahead (s.data.toList.drop (j + 1)) + 1 := by rw [hdr]; exact ahead_cons he
          rw [ha, show j + 1 + ahead (s.data.toList.drop (j + 1)) = j + (ahead (s.data.toList.drop (j + 1)) + 1) by omega]
theorem words_l0 {s : ByteArray} (hs : s.size ≤ 1000000000000) : ∀ (m i : Nat), i + m = s.size → W0 s i := by
  intro m
  induction m using Nat.strongRecOn with
  | _ m ih =>
  intro i h X hX
  have hl := size_eq s
  cases m with
  | zero =>
    refine ⟨1, fun k hk => ?_⟩
    obtain ⟨k, rfl, hk⟩ := succ_of hk
    simp only [spandrelref30_words.l0]
    rw [if_neg (by omega), List.drop_of_length_le (by omega), toks_nil]
    simp
  | succ m =>
    have ih' : ∀ p, i + 1 ≤ p → p ≤ s.size → W0 s p := fun p h1 h2 => ih (s.size - p) (by omega) p (by omega)
    have hi : i < s.data.toList.length := by omega
    have hdr := List.drop_eq_getElem_cons hi
    obtain ⟨k1, h1⟩ := ih' (i + 1) (Nat.le_refl _) (by omega) X (by omega)
    obtain ⟨k2, h2⟩ := ih' (i + 1) (Nat.le_refl _) (by omega) (X ++ [s.extract i (i + 1)]) (by simp; omega)
    obtain ⟨k3, h3⟩ := words_l1 hs ih' m (i + 1) (by omega) (Nat.le_refl _) X (by omega)
    obtain ⟨k4, h4⟩ := words_l2 hs ih' m (i + 1) (by omega) (Nat.le_refl _) X hX
    dsimp only at h1 h2 h3 h4
    refine ⟨max (max k1 k2) (max k3 k4) + 3, fun k hk => ?_⟩
    obtain ⟨k, rfl, hk⟩ := succ_of (n := max (max k1 k2) (max k3 k4) + 2) hk
    simp only [spandrelref30_words.l0]
    rw [if_pos (by omega), if_pos (by omega), bt_get hi, blank_f, Option.bind_some, sign_f, Option.bind_some, hdr, toks_cons]
    cases hb : isBlank s.data.toList[i] with
    | true => rw [if_pos rfl, if_pos rfl, wrap_i (by omega), h1 k (by omega)]
    | false =>
      rw [if_neg Bool.false_ne_true, if_neg Bool.false_ne_true]
      cases h9 : (s.data.toList[i] == 59) with
      | true =>
        rw [if_pos ((semi_iff _).2 h9), if_pos rfl]
        obtain ⟨k, rfl, hk⟩ := succ_of (n := max (max k1 k2) (max k3 k4) + 1) (show max (max k1 k2) (max k3 k4) + 1 + 1 ≤ k by omega)
        have hne : ¬ ((s.data.toList[i].toNat : Nat) : Int) = 10 := fun e => by rw [(line_iff _).1 e] at h9; exact absurd h9 (by decide)
        simp only [spandrelref30_words.l1]
        rw [if_pos (by omega), if_pos (by omega), bt_get hi, if_neg hne, wrap_i (by omega), h3 k (by omega)]
      | false =>
        rw [if_neg (semi_no h9), if_neg Bool.false_ne_true]
        cases hsg : isSign s.data.toList[i] with
        | true =>
          rw [if_pos rfl, if_pos rfl, wrap_i (by omega), if_pos (by omega), if_pos (by omega), if_pos (by omega), Int.toNat_natCast, Int.toNat_natCast, h2 k (by omega), extract_tok, show i + 1 - i = 1 by omega, hdr]
          simp
        | false =>
          rw [if_neg Bool.false_ne_true, if_neg Bool.false_ne_true]
          have he : isEnd s.data.toList[i] = false := by rw [end_iff, hb, hsg, h9]; rfl
          obtain ⟨k, rfl, hk⟩ := succ_of (n := max (max k1 k2) (max k3 k4) + 1) (show max (max k1 k2) (max k3 k4) + 1 + 1 ≤ k by omega)
          simp only [spandrelref30_words.l2]
          rw [if_pos (by omega), if_pos (by omega), bt_get hi, blank_f, Option.bind_some, sign_f, Option.bind_some, hb, if_neg Bool.false_ne_true, hsg, if_neg Bool.false_ne_true, if_neg (semi_no h9), wrap_i (by omega), h4 k (by omega)]
          have htk := toks_word (c := s.data.toList[i]) (r := s.data.toList.drop (i + 1)) he
          rw [toks_cons, hb, if_neg Bool.false_ne_true, h9, if_neg Bool.false_ne_true, hsg, if_neg Bool.false_ne_true] at htk
          rw [htk, ← hdr, extract_tok, List.drop_drop]
          have ha : ahead (s.data.toList.drop i) = ahead (s.data.toList.drop (i + 1)) + 1 := by rw [hdr]; exact ahead_cons he
          rw [ha, show i + 1 + ahead (s.data.toList.drop (i + 1)) - i = ahead (s.data.toList.drop (i + 1)) + 1 by omega, show i + 1 + ahead (s.data.toList.drop (i + 1)) = i + (ahead (s.data.toList.drop (i + 1)) + 1) by omega]
          rfl
theorem words_ev {s : ByteArray} (hs : s.size ≤ 1000000000000) : Ev (fun k => spandrelref30_words.f k s) ((toks s.data.toList).map tokB) := by
  obtain ⟨k, hk⟩ := words_l0 hs s.size 0 (by omega) [] (Nat.zero_le _)
  refine ⟨k, fun k' hk' => ?_⟩
  have := hk k' hk'
  simpa [spandrelref30_words.f] using this
end Go.Proofs.YtmjnodjjnjckiaaDoor

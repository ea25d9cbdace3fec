/- What a reader makes of the words of a text: the trees, or the error's number; and (*reader).word does just that. -/
import Derived.Test.YtmjnodjjnjckiaaDoorG
namespace Go.Proofs.YtmjnodjjnjckiaaDoor
open Go.RowKit Go.Shelf Go.Proofs.YtmjnodjjnjckiaaDoorW.PrintWords PLines

/-- One word: the lists that are open (the last one first), each one's trees so far. -/
def stepR (st : List (List S41)) (t : List UInt8) : Except Int (List (List S41)) :=
  if t = [40] then (if st.length ≤ 400 then .ok ([] :: st) else .error 3)
  else if t = [41] then (match st with
    | top :: sec :: rest => .ok ((sec ++ [⟨⟨#[]⟩, top⟩]) :: rest)
    | _ => .error 4)
  else if st.length ≤ 400 then (match st with
    | x :: rest => .ok ((x ++ [⟨⟨t.toArray⟩, []⟩]) :: rest)
    | [] => .error 4)
  else .error 3
def readToks : List (List S41) → List (List UInt8) → Except Int (List (List S41))
  | st, [] => .ok st
  | st, t :: ts => match stepR st t with
    | .ok st' => readToks st' ts
    | .error e => .error e
theorem readToks_snoc (t : List UInt8) : ∀ (ts : List (List UInt8)) (st : List (List S41)), readToks st (ts ++ [t]) = (match readToks st ts with | .ok st' => stepR st' t | .error e => .error e)
  | [], st => by
    simp only [List.nil_append, readToks]
    cases stepR st t <;> rfl
  | a :: ts, st => by
    simp only [List.cons_append, readToks]
    cases stepR st a with
    | ok st' => exact readToks_snoc t ts st'
    | error e => rfl
theorem readToks_error {e : Int} {b : List (List UInt8)} : ∀ {a : List (List UInt8)} {st : List (List S41)}, readToks st a = .error e → readToks st (a ++ b) = .error e
  | [], st, h => by cases h
  | t :: ts, st, h => by
    simp only [List.cons_append, readToks] at h ⊢
    cases hs : stepR st t with
    | ok st' => rw [hs] at h; exact readToks_error h
    | error e' => rw [hs] at h; exact h
/-- The trees of a text, or the error's number. -/
def readOut (s : ByteArray) : Except Int (List S41) :=
  if s.size ≤ 262144 then (match readToks [[]] (toks s.data.toList) with
    | .ok [x] => .ok x
    | .ok _ => .error 4
    | .error e => .error e)
  else .error 3

/-- How long the rows are. -/
def RowsLe (n : Nat) (st : List (List S41)) : Prop := ∀ x ∈ st, x.length ≤ n
theorem stepR_le {n : Nat} {st st' : List (List S41)} {t : List UInt8} (h : stepR st t = .ok st') (hn : RowsLe n st) : RowsLe (n + 1) st' := by
  unfold stepR at h
  have up : ∀ {l : List (List S41)}, (∀ x ∈ l, x ∈ st) → RowsLe (n + 1) l := fun hl x hx => Nat.le_succ_of_le (hn x (hl x hx))
  split at h
  · split at h
    · injection h with h; subst h
      intro x hx
      rcases List.mem_cons.1 hx with rfl | hx
      · simp
      · exact Nat.le_succ_of_le (hn x hx)
    · cases h
  split at h
  · split at h
    · rename_i top sec rest
      injection h with h; subst h
      intro x hx
      rcases List.mem_cons.1 hx with rfl | hx
      · have := hn sec (by simp); simp; exact this
      · exact Nat.le_succ_of_le (hn x (by simp [hx]))
    · cases h
  split at h
  · split at h
    · rename_i y rest _
      injection h with h; subst h
      intro x hx
      rcases List.mem_cons.1 hx with rfl | hx
      · have := hn y (by simp); simp; exact this
      · exact Nat.le_succ_of_le (hn x (by simp [hx]))
    · cases h
  · cases h
theorem stepR_ne {st st' : List (List S41)} {t : List UInt8} (h : stepR st t = .ok st') (hn : st ≠ []) : st' ≠ [] := by
  unfold stepR at h
  repeat' split at h
  all_goals first
    | (injection h with h; subst h; simp)
    | cases h
theorem readToks_le : ∀ {ts : List (List UInt8)} {st st' : List (List S41)} {n : Nat}, readToks st ts = .ok st' → RowsLe n st → RowsLe (n + ts.length) st'
  | [], _, _, _, h, hn => by injection h with h; subst h; exact hn
  | t :: ts, st, st', n, h, hn => by
    simp only [readToks] at h
    cases hs : stepR st t with
    | ok s1 =>
      rw [hs] at h
      have := readToks_le h (stepR_le hs hn)
      rw [show n + (t :: ts).length = n + 1 + ts.length by simp; omega]
      exact this
    | error e => rw [hs] at h; cases h
theorem readToks_ne : ∀ {ts : List (List UInt8)} {st st' : List (List S41)}, readToks st ts = .ok st' → st ≠ [] → st' ≠ []
  | [], _, _, h, hn => by injection h with h; subst h; exact hn
  | t :: ts, st, st', h, hn => by
    simp only [readToks] at h
    cases hs : stepR st t with
    | ok s1 => rw [hs] at h; exact readToks_ne h (stepR_ne hs hn)
    | error e => rw [hs] at h; cases h
/-- As many words as bytes, at most. -/
theorem toks_le : ∀ (n : Nat) (l : List UInt8), l.length ≤ n → (toks l).length ≤ l.length
  | _, [], _ => by rw [toks_nil]; simp
  | 0, _ :: _, h => by simp at h
  | n + 1, c :: r, h => by
    simp only [List.length_cons] at h
    rw [toks_cons]
    split
    · have := toks_le n r (by omega); simp only [List.length_cons]; omega
    split
    · have h1 := dropWhile_le (fun x => x != 10) r
      have := toks_le n (r.dropWhile (fun x => x != 10)) (by omega)
      simp only [List.length_cons]; omega
    split
    · have := toks_le n r (by omega); simp only [List.length_cons]; omega
    · have h1 := dropWhile_le (fun x => !isEnd x) r
      have := toks_le n (r.dropWhile (fun x => !isEnd x)) (by omega)
      simp only [List.length_cons]; omega

/-- (*reader).word, at every word. -/
theorem word_any (B Br : Nat) (st : List (List S41)) (t : List UInt8) (W : World) (h : ReaderAt B Br W st) (hne : st ≠ []) (hB : B ≤ W.heap.size) (hm : RowsLe 1000000000000 st) :
    Calls Tryd.prog 30 #[.pointer (some ⟨Br, 0, none⟩), .string ⟨t.toArray⟩] W fun e w' =>
      (∃ st', stepR st t = .ok st' ∧ e = .returned (.tuple #[]) ∧ ReaderAt B Br w' st' ∧ Keep B Br W w') ∨ (∃ k, stepR st t = .error k ∧ e = .panicked (thrown k) ∧ W = w') := by
  have htl : (⟨t.toArray⟩ : ByteArray).toList = t := by rw [ByteArray.toList_eq]
  unfold stepR
  by_cases h1 : t = [40]
  · subst h1
    rw [if_pos rfl]
    by_cases hn : st.length ≤ 400
    · rw [if_pos hn]
      refine (word_open B Br st W h hn hB).mono ?_
      rintro e w' ⟨rfl, ha, hk⟩
      exact .inl ⟨_, rfl, rfl, ha, hk⟩
    · rw [if_neg hn]
      refine (word_open_no B Br st W h (by omega)).mono ?_
      rintro e w' ⟨rfl, rfl⟩
      exact .inr ⟨_, rfl, rfl, rfl⟩
  rw [if_neg h1]
  by_cases h2 : t = [41]
  · subst h2
    rw [if_pos rfl]
    match st, h, hne, hm with
    | [x], h, _, _ =>
      refine (word_shut_no B Br x W h).mono ?_
      rintro e w' ⟨rfl, rfl⟩
      exact .inr ⟨_, rfl, rfl, rfl⟩
    | top :: sec :: rest, h, _, hm =>
      refine (word_shut B Br top sec rest W h hB (hm sec (by simp))).mono ?_
      rintro e w' ⟨rfl, ha, hk⟩
      exact .inl ⟨_, rfl, rfl, ha, hk⟩
  rw [if_neg h2]
  match st, h, hne, hm with
  | x :: rest, h, _, hm =>
    have b1 : ((⟨t.toArray⟩ : ByteArray).toList == [40]) = false := by rw [htl]; simpa using h1
    have b2 : ((⟨t.toArray⟩ : ByteArray).toList == [41]) = false := by rw [htl]; simpa using h2
    by_cases hn : (x :: rest).length ≤ 400
    · rw [if_pos hn]
      refine (word_word B Br x rest ⟨t.toArray⟩ W h (by simpa using hn) hB (hm x (by simp)) b1 b2).mono ?_
      rintro e w' ⟨rfl, ha, hk⟩
      exact .inl ⟨_, rfl, rfl, ha, hk⟩
    · rw [if_neg hn]
      refine (word_word_no B Br x rest ⟨t.toArray⟩ W h (by simp at hn; omega) b1 b2).mono ?_
      rintro e w' ⟨rfl, rfl⟩
      exact .inr ⟨_, rfl, rfl, rfl⟩
end Go.Proofs.YtmjnodjjnjckiaaDoor

/- package lines: Read$1, all of the reading of a text. -/
namespace Go.Proofs.YtmjnodjjnjckiaaDoor
open Go.RowKit Go.Shelf Go.Proofs.YtmjnodjjnjckiaaDoorW.PrintWords PLines
attribute [local go_sem] Oper.semAt_some

theorem words_made (s : ByteArray) (W : World) : Calls Tryd.prog 29 #[.string s] W fun e w' => e = .returned (.func (.func 48) #[] #[.pointer (some ⟨W.heap.size, 0, none⟩)]) ∧ w' = W.alloc (.cells #[.string s] 9) := by
  have hmf : ∀ (fn : Fn) (first cap : Array Value) (w : World), (Instr.makeFunc fn first cap).run Tryd.prog w = .ok (.func fn first cap) w := fun _ _ _ _ => rfl
  go_enter Tryd.func29, Tryd.ntmps29
  go_wp2
  go_ret
  exact ⟨rfl, rfl⟩

/-- A reading that goes on: the reader, its address in a cell, the text's box, the block of deferred calls, the loop's record. -/
def ReadJ (W : World) (r : Loop) (pre : List (List UInt8)) (W' : World) : Prop :=
  ∃ st T, readToks [[]] pre = .ok st ∧ ReaderAt W.heap.size (W.heap.size + 1) W' st ∧ W'.heap[W.heap.size + 2]? = some (.cells #[.pointer (some ⟨W.heap.size + 1, 0, none⟩)] 56 (0, 0)) ∧
    W'.heap[W.heap.size + 3]? = some (.cells #[.string T] 9 (0, 0)) ∧ W'.heap[W.heap.size + 4]? = some (.deferred (some [])) ∧ W'.heap[W.heap.size + 5]? = some (.loop r) ∧ Below W.heap.size W W'
def ReadX (W : World) (toks : List (List UInt8)) (ch : List PanicEntry) (W' : World) : Prop :=
  ∃ e, readToks [[]] toks = .error e ∧ ch = thrown e ∧ W'.heap[W.heap.size + 4]? = some (.deferred (some [])) ∧ Below W.heap.size W W'
theorem size_of {w : World} {k : Nat} {o : Obj} (h : w.heap[k]? = some o) : k < w.heap.size := (Array.getElem?_eq_some_iff.1 h).1
theorem ReadJ.grown {W W1 W2 : World} {r : Loop} {pre : List (List UInt8)} {T' : ByteArray} (h : ReadJ W r pre W1) (hg : W1.grownBy W2 (some (W.heap.size + 3)))
    (hbox : W2.heap[W.heap.size + 3]? = some (.cells #[.string T'] 9 (0, 0))) : ReadJ W r pre W2 := by
  obtain ⟨st, T, h1, h2, h3, h4, h5, h6, h7⟩ := h
  refine ⟨st, T', h1, h2.step ?_, ?_, hbox, ?_, ?_, h7.grown hg (by have := size_of h6; omega) (fun k hk => by injection hk with hk; omega)⟩
  · intro k hk hlt hc
    refine hg.block k hlt ?_
    rintro e
    injection e with e
    subst e
    obtain ⟨c, e, he, hc⟩ := hc
    rw [h4] at hc
    rcases he with rfl | rfl | rfl <;> simp at hc
  · exact (hg.block _ (size_of h3) (by simp)).trans h3
  · exact (hg.block _ (size_of h5) (by simp)).trans h5
  · exact (hg.block _ (size_of h6) (by simp)).trans h6
/-- The loop's record turns. -/
theorem ReadJ.turn {W W1 : World} {r : Loop} {pre : List (List UInt8)} (r' : Loop) (h : ReadJ W r pre W1) : ReadJ W r' pre (W1.putObj (W.heap.size + 5) (.loop r')) := by
  obtain ⟨st, T, h1, h2, h3, h4, h5, h6, h7⟩ := h
  refine ⟨st, T, h1, h2.step ?_, ?_, ?_, ?_, World.putObj_heap_same (size_of h6), h7.grown (grownBy_putObj' _ _ _) (by have := size_of h6; omega) (fun k hk => by injection hk with hk; omega)⟩
  · intro k hk hlt hc
    refine World.putObj_heap_other ?_
    rintro rfl
    obtain ⟨c, e, he, hc⟩ := hc
    rw [h6] at hc; cases hc
  · exact (World.putObj_heap_other (by omega)).trans h3
  · exact (World.putObj_heap_other (by omega)).trans h4
  · exact (World.putObj_heap_other (by omega)).trans h5
theorem ReadJ.word {W W1 W2 : World} {r : Loop} {pre : List (List UInt8)} {x : List UInt8} {st st' : List (List S41)} (h : ReadJ W r pre W1) (hst : readToks [[]] pre = .ok st) (hx : stepR st x = .ok st')
    (hr : ReaderAt W.heap.size (W.heap.size + 1) W2 st') (hk : Keep W.heap.size (W.heap.size + 1) W1 W2) : ReadJ W r (pre ++ [x]) W2 := by
  obtain ⟨st0, T, h1, h2, h3, h4, h5, h6, h7⟩ := h
  have k2 : ∀ j o, j ≠ W.heap.size + 1 → W1.heap[j]? = some o → (∀ c e, (e = 23 ∨ e = 41) → o ≠ .cells c e (0, 0)) → W2.heap[j]? = some o := fun j o hj ho hno =>
    (hk.2 j (size_of ho) hj (fun c e he _ hc => hno c e he (by rw [ho] at hc; injection hc))).trans ho
  refine ⟨st', T, by rw [readToks_snoc, hst]; exact hx, hr, k2 _ _ (by omega) h3 ?_, k2 _ _ (by omega) h4 ?_, k2 _ _ (by omega) h5 ?_, k2 _ _ (by omega) h6 ?_, ?_⟩
  · rintro c e (rfl | rfl) hc <;> simp at hc
  · rintro c e (rfl | rfl) hc <;> simp at hc
  · intro c e he hc; cases hc
  · intro c e he hc; cases hc
  · refine ⟨hk.1.os.trans h7.os, hk.1.tape.trans h7.tape, hk.1.output.trans h7.output, Nat.le_trans h7.size hk.1.size, fun k hkk => ?_⟩
    refine (hk.2 k (Nat.lt_of_lt_of_le hkk h7.size) (by omega) (fun c e _ hB _ => ?_)).trans (h7.block k hkk)
    omega
theorem keep_far {B Br : Nat} {W1 W2 : World} {k : Nat} {o : Obj} (hk : Keep B Br W1 W2) (ho : W1.heap[k]? = some o) (hne : k ≠ Br) (h : k < B ∨ ∀ c e, (e = 23 ∨ e = 41) → o ≠ .cells c e (0, 0)) : W2.heap[k]? = W1.heap[k]? :=
  hk.2 k (size_of ho) hne (fun c e he hB hc => by
    rcases h with h | h
    · omega
    · exact h c e he (by rw [ho] at hc; injection hc))
/-- A reading begins. -/
theorem ReadJ.start (W : World) (s : ByteArray) (r : Loop) :
    ReadJ W r [] ((((((W.alloc (.cells #[.slice none 0 0] 23)).alloc (.cells #[.slice (some ⟨W.heap.size, 0, none⟩) 1 1] 60)).alloc (.cells #[.pointer (some ⟨W.heap.size + 1, 0, none⟩)] 56)).alloc (.cells #[.string s] 9)).alloc (.deferred (some []))).alloc (.loop r)) := by
  have g : ∀ (k : Nat) (o1 o2 o3 o4 o5 o6 : Obj), k < 6 → ((((((W.alloc o1).alloc o2).alloc o3).alloc o4).alloc o5).alloc o6).heap[W.heap.size + k]? = [o1, o2, o3, o4, o5, o6][k]? := by
    intro k o1 o2 o3 o4 o5 o6 hk
    simp only [World.alloc, Array.getElem?_push, Array.size_push]
    rcases k with _ | _ | _ | _ | _ | _ | k
    case succ => omega
    all_goals (repeat' split) <;> first | rfl | omega
  refine ⟨[[]], s, rfl, ⟨by omega, .slice (some ⟨W.heap.size, 0, none⟩) 1 1, [.slice none 0 0], fun _ => False, ?_, ⟨rfl, .inr ⟨W.heap.size, 1, #[.slice none 0 0], rfl, Nat.le_refl _, ?_, Nat.le_refl _, by decide, rfl, rfl⟩⟩, fun _ => False, fun _ => False, fun _ h => h.elim, fun _ h => h, Kd.R_nil _ _ _ _ _, trivial⟩, ?_, ?_, ?_, ?_, ?_⟩
  · exact g 1 _ _ _ _ _ _ (by omega)
  · exact g 0 _ _ _ _ _ _ (by omega)
  · exact g 2 _ _ _ _ _ _ (by omega)
  · exact g 3 _ _ _ _ _ _ (by omega)
  · exact g 4 _ _ _ _ _ _ (by omega)
  · exact g 5 _ _ _ _ _ _ (by omega)
  · exact (((((((Below.refl _ W).alloc (Nat.le_refl _) _).alloc (by simp) _).alloc (by simp; omega) _).alloc (by simp; omega) _).alloc (by simp; omega) _).alloc (by simp; omega) _)

/-- The range over the words of a text, each handed to the reader. -/
theorem range_words {n idA id id2 : Nat} {opsA ops : Array Oper} {oA o0 o1 o2 : Oper} {a : Act} {Q : Exit → Act → World → Prop} {W w4 : World} {s : ByteArray} {m : Int} {t1 t2 t3 : ByteArray → Array Value}
    (hA : opsA = #[oA]) (hops : ops = #[o0, o1, o2]) (GA : oA.guard = none) (G0 : o0.guard = none) (G1 : o1.guard = none) (G2 : o2.guard = none)
    (dA : ∀ c, oA.op ≠ .defer c) (d0 : ∀ c, o0.op ≠ .defer c) (d1 : ∀ c, o1.op ≠ .defer c) (d2 : ∀ c, o2.op ≠ .defer c)
    (hw4 : w4 = (((W.alloc (.cells #[.slice none 0 0] 23)).alloc (.cells #[.slice (some ⟨W.heap.size, 0, none⟩) 1 1] 60)).alloc (.cells #[.pointer (some ⟨W.heap.size + 1, 0, none⟩)] 56)).alloc (.cells #[.string s] 9))
    (hg : a.eval (.tmp 12) = .func (.func 48) #[] #[.pointer (some ⟨W.heap.size + 3, 0, none⟩)]) (hs : s.size ≤ 262144) (hm : W.cell? ⟨0, 0, none⟩ = some (.int .i64 m)) (h0W : 0 < W.heap.size)
    (rA : ∀ x W1, (execOp (Act.eval { tmps := a.tmps.setIfInBounds 13 (.string x), defers := [] }) oA).run Tryd.prog W1 = .ok (.value (.string x)) W1)
    (hA1 : ∀ x, ({ tmps := a.tmps.setIfInBounds 13 (.string x), defers := [] } : Act).put oA.dst (.string x) = { tmps := t1 x, defers := [] })
    (r0 : ∀ x W1, W1.cell? ⟨W.heap.size + 2, 0, none⟩ = some (.pointer (some ⟨W.heap.size + 1, 0, none⟩)) → (execOp (Act.eval { tmps := t1 x, defers := [] }) o0).run Tryd.prog W1 = .ok (.value (.pointer (some ⟨W.heap.size + 1, 0, none⟩))) W1)
    (h01 : ∀ x, ({ tmps := t1 x, defers := [] } : Act).put o0.dst (.pointer (some ⟨W.heap.size + 1, 0, none⟩)) = { tmps := t2 x, defers := [] })
    (r1 : ∀ x W1, (execOp (Act.eval { tmps := t2 x, defers := [] }) o1).run Tryd.prog W1 = .ok (.value (.string x)) W1)
    (h11 : ∀ x, ({ tmps := t2 x, defers := [] } : Act).put o1.dst (.string x) = { tmps := t3 x, defers := [] })
    (r2 : ∀ x W1, (execOp (Act.eval { tmps := t3 x, defers := [] }) o2).run Tryd.prog W1 = .ok (.enter 30 #[.pointer (some ⟨W.heap.size + 1, 0, none⟩), .string x]) W1)
    (hdone : ∀ st W', readToks [[]] (toks s.data.toList) = .ok st → ReaderAt W.heap.size (W.heap.size + 1) W' st → W'.heap[W.heap.size + 2]? = some (.cells #[.pointer (some ⟨W.heap.size + 1, 0, none⟩)] 56 (0, 0)) →
      W'.heap[W.heap.size + 4]? = some (.deferred (some [])) → Below W.heap.size W W' → Q .normal { a with defers := { target := .collected (W.heap.size + 4), args := #[] } :: a.defers } W')
    (hpanic : ∀ e W', readToks [[]] (toks s.data.toList) = .error e → W'.heap[W.heap.size + 4]? = some (.deferred (some [])) → Below W.heap.size W W' → Q (.panic (thrown e)) { a with defers := { target := .collected (W.heap.size + 4), args := #[] } :: a.defers } W') :
    (Code.rangeFunc (.tmp 12) #[13] (.region idA opsA false) (.block id (.region id2 ops false))).wpIn FW n Tryd.prog Q a w4 := by
  refine wpIn_rangeFunc ?_
  intro fn hfn
  rw [show FW.round = none from rfl]
  have h4 : w4.heap.size = W.heap.size + 4 := by rw [hw4]; simp
  obtain ⟨rec, hrec⟩ : ∃ rec : LoopState → Option Code → Loop, rec = fun st pe => { state := st, pending := pe, fn, tmps := a.tmps, params := #[13], assign := .region idA opsA false, body := .block id (.region id2 ops false), defers := w4.heap.size } := ⟨_, rfl⟩
  obtain ⟨W1, hW1⟩ : ∃ W1, (w4.alloc (.deferred (some []))).alloc (.loop (rec .ready none)) = W1 := ⟨_, rfl⟩
  have hJ0 : ReadJ W (rec .ready none) [] W1 := by rw [← hW1, hw4]; exact ReadJ.start W s _
  refine ⟨w4.heap.size + 1, [{ target := .collected w4.heap.size, args := #[] }], W1, { target := .fn (.func 48) #[.pointer (some ⟨W.heap.size + 3, 0, none⟩)], args := #[.func (.yield (w4.heap.size + 1)) #[] #[]] }, W1, 48,
    #[.func (.yield (w4.heap.size + 1)) #[] #[]] ++ #[.pointer (some ⟨W.heap.size + 3, 0, none⟩)], W1, ?_, ?_, ?_, ?_, (fun h => nomatch h), ?_⟩
  · rw [← hW1, hrec]; exact run_enterLoop_outer _ _ _ _ _
  · simp only [resolve, hg]
    simp [go_sem]
  · intro f' _; trivial
  · simp [invoke, go_sem, enters_of Tryd.func48 (by kernel_rfl) rfl]
  rw [h4]
  obtain ⟨_, T0, _, _, _, hT0, _, hL1, hb1⟩ := hJ0
  have hbox : W1.heap[W.heap.size + 3]? = some (.cells #[.string s] 9 (0, 0)) := by
    rw [← hW1]
    refine (Below.heap_alloc _ _ _ (by rw [World.size_alloc]; omega)).trans ((Below.heap_alloc _ _ _ (by omega)).trans ?_)
    rw [hw4]
    have := World.alloc_heap_new (((W.alloc (.cells #[.slice none 0 0] 23)).alloc (.cells #[.slice (some ⟨W.heap.size, 0, none⟩) 1 1] 60)).alloc (.cells #[.pointer (some ⟨W.heap.size + 1, 0, none⟩)] 56)) (.cells #[.string s] 9)
    simpa using this
  have hm1 : W1.cell? ⟨0, 0, none⟩ = some (.int .i64 m) := (hb1.cell (p := ⟨0, 0, none⟩) h0W).trans hm
  have hJs : ReadJ W (rec .ready none) [] W1 := by rw [← hW1, hw4]; exact ReadJ.start W s _
  refine (words_iter (W.heap.size + 5) (W.heap.size + 3) (n - 1) s m (ReadJ W (rec .ready none)) (ReadX W (toks s.data.toList)) W1 hs (by omega) hbox hm1
    (fun pre A B T h hg hb => h.grown hg hb) ?_ hJs).mono ?_
  · intro pre x rest W2 hall hj
    obtain ⟨st, T, h1, h2, h3, h4', h5, h6, h7⟩ := hj
    have hy : (Instr.yield (W.heap.size + 5) #[.string ⟨x.toArray⟩]).run Tryd.prog W2 = .ok (.round (W.heap.size + 5) fn (a.tmps.setIfInBounds 13 (.string ⟨x.toArray⟩)) (.region idA opsA false) (.block id (.region id2 ops false))) W2 := by
      have := run_yield (P := Tryd.prog) (args := #[.string ⟨x.toArray⟩]) h6 (by rw [hrec]; rfl)
      rw [this, hrec]
      simp
    refine ⟨fn, _, _, _, hy, ?_⟩
    have hj : ReadJ W (rec .ready none) pre W2 := ⟨st, T, h1, h2, h3, h4', h5, h6, h7⟩
    have hj3 := hj.turn (rec .busy none)
    obtain ⟨st3, T3, g1, g2, g3, g4, g5, g6, g7⟩ := hj3
    have hj3 := hj.turn (rec .busy none)
    obtain rfl : st3 = st := by rw [h1] at g1; injection g1 with g1; exact g1.symm
    obtain ⟨W3, hW3⟩ : ∃ W3, W2.putObj (W.heap.size + 5) (.loop (rec .busy none)) = W3 := ⟨_, rfl⟩
    rw [hW3] at g2 g3 g4 g5 g6 g7 hj3
    have hcell : W3.cell? ⟨W.heap.size + 2, 0, none⟩ = some (.pointer (some ⟨W.heap.size + 1, 0, none⟩)) := cell_blk g3 0 _ rfl
    refine round_calls (W2 := W3) (t1 := t1 ⟨x.toArray⟩) (t2 := t2 ⟨x.toArray⟩) (t3 := t3 ⟨x.toArray⟩) hA hops GA G0 G1 G2 dA d0 d1 d2 (rA ⟨x.toArray⟩ W2) (hA1 ⟨x.toArray⟩) ?_ (r0 _ W3 hcell) (h01 _) (r1 _ W3) (h11 _) (r2 _ W3) ?_
    · rw [← hW3]
      have := run_beginRound (P := Tryd.prog) h6 (by rw [hrec])
      rw [this, hrec]
    · refine (word_any W.heap.size (W.heap.size + 1) st3 x W3 g2 ?_ (by have := size_of g6; omega) ?_).mono ?_
      · exact readToks_ne g1 (by simp)
      · have hle := readToks_le g1 (n := 0) (fun y hy => by simp at hy; subst hy; exact Nat.le_refl _)
        have hlen : pre.length ≤ 262144 := by
          have := toks_le s.data.toList.length s.data.toList (Nat.le_refl _)
          rw [hall, ← size_eq] at this
          simp at this; omega
        intro y hy
        have := hle y hy
        omega
      · rintro e W4 (⟨st', hx, rfl, hr4, hk4⟩ | ⟨k, hx, rfl, rfl⟩)
        · have hj4 := hj3.word g1 hx hr4 hk4
          have hl4 : W4.heap[W.heap.size + 5]? = some (.loop (rec .busy none)) := by obtain ⟨_, _, _, _, _, _, _, h, _⟩ := hj4; exact h
          have hend := run_endRound (P := Tryd.prog) none hl4
          refine ⟨_, _, hend, .inl ⟨rfl, ?_⟩⟩
          have hj5 := hj4.turn (rec .ready none)
          have hsame : ∀ k, k ≠ W.heap.size + 5 → (W4.putObj (W.heap.size + 5) (.loop (rec .ready none))).heap[k]? = W4.heap[k]? := fun k hk => World.putObj_heap_other hk
          have hsame3 : ∀ k, k ≠ W.heap.size + 5 → W3.heap[k]? = W2.heap[k]? := fun k hk => by rw [← hW3]; exact World.putObj_heap_other hk
          have hz3 : W3.heap.size = W2.heap.size := by rw [← hW3]; simp
          rw [show ({ rec .busy none with state := if (none : Option Code).isNone then .ready else .done, pending := none } : Loop) = rec .ready none by rw [hrec]; rfl]
          refine ⟨hj5, ?_, ?_, ?_⟩
          · rw [hsame _ (by omega), ← hsame3 _ (by omega)]
            exact keep_far hk4 g4 (by omega) (.inr (by rintro c e (rfl | rfl) hc <;> simp at hc))
          · rw [hsame _ (by omega), ← hsame3 _ (by omega)]
            obtain ⟨o, ho⟩ : ∃ o, W3.heap[0]? = some o := ⟨_, Array.getElem?_eq_getElem (by have := size_of g6; omega)⟩
            exact keep_far hk4 ho (by omega) (.inl h0W)
          · rw [World.putObj_size, ← hz3]; exact hk4.1.size
        · exact .inr ⟨_, rfl, k, by rw [hall]; rw [show pre ++ x :: rest = (pre ++ [x]) ++ rest by simp]; exact readToks_error (by rw [readToks_snoc, g1]; exact hx), rfl, g5, g7⟩
  · rintro e W2 (⟨rfl, st, T, h1, h2, h3, h4', h5, h6, h7⟩ | ⟨ch, rfl, k, hk, rfl, h5, h7⟩)
    · have hj : ReadJ W (rec .ready none) (toks s.data.toList) W2 := ⟨st, T, h1, h2, h3, h4', h5, h6, h7⟩
      obtain ⟨st3, T3, g1, g2, g3, g4, g5, g6, g7⟩ := hj.turn (rec .exhausted none)
      refine ⟨none, _, ?_, hdone st3 _ g1 g2 g3 g5 g7⟩
      have := run_endLoop (P := Tryd.prog) h6 (by rw [hrec]; simp)
      rw [this, hrec]
    · exact hpanic k _ hk h5 h7

set_option maxHeartbeats 4000000 in
set_option maxRecDepth 100000 in
theorem read1_in (n Bt : Nat) (s : ByteArray) (m : Int) (W : World) (hbox : W.heap[Bt]? = some (.cells #[.string s] 9 (0, 0))) (hBt : 0 < Bt) (hm : W.cell? ⟨0, 0, none⟩ = some (.int .i64 m)) (hsz : s.size ≤ 262144) :
    CallsIn FW n Tryd.prog 27 #[.pointer (some ⟨Bt, 0, none⟩)] W fun e W' => Below W.heap.size W W' ∧
      ((∃ v x, readOut s = .ok x ∧ e = .returned v ∧ k41.R 41 W' W.heap.size (fun _ => True) v x) ∨ (∃ k, readOut s = .error k ∧ e = .panicked (thrown k))) := by
  have hc : W.cell? ⟨Bt, 0, none⟩ = some (.string s) := cell_blk hbox 0 _ rfl
  have hlt := (Array.getElem?_eq_some_iff.1 hbox).1
  have hb0 : decide ((s.size : Int) ≤ 262144) = true := by simp; omega
  refine callsIn_of_wp_marks Tryd.func27 rfl trivial ?_ rfl
  simp only [Tryd.ntmps27, List.size_toArray, List.length_cons, List.length_nil, Nat.reduceAdd, Nat.reduceSub, Array.replicate_succ, Array.replicate_zero, List.push_toArray, List.append_toArray, List.nil_append, List.cons_append]
  gi_wp2_with fail
  refine ⟨trivial, (fun h => nomatch h), (callsIn_wide.2 (must_ok _ _)).mono ?_⟩
  rintro e w' ⟨rfl, rfl⟩
  have hc3 : (((W.alloc (Obj.cells #[Value.slice none 0 0] 23)).alloc (Obj.cells #[Value.slice (some { block := W.heap.size, off := 0 }) 1 1] 60)).alloc (Obj.cells #[Value.pointer (some { block := W.heap.size + 1, off := 0 })] 56)).cell? ⟨Bt, 0, none⟩ = some (.string s) :=
    (World.cell?_alloc_past _ _ _ (by simp; omega)).trans ((World.cell?_alloc_past _ _ _ (by simp; omega)).trans ((World.cell?_alloc_past _ _ _ hlt).trans hc))
  have HBOX := Aside0.mk hbox
  have HM := Aside0.mk hm
  clear hbox hm
  gi_wp2_with fail
  refine ⟨trivial, (fun h => nomatch h), (callsIn_wide.2 (words_made s _)).mono ?_⟩
  rintro e w4 ⟨rfl, hw4⟩
  gi_wp2_with fail
  refine range_words (W := W) (s := s) (m := m) (t1 := fun x => _) (t2 := fun x => _) (t3 := fun x => _) rfl rfl rfl rfl rfl rfl (fun _ h => nomatch h) (fun _ h => nomatch h) (fun _ h => nomatch h) (fun _ h => nomatch h) rfl rfl hsz HM.out (by omega)
    (fun x W1 => ?_) (fun x => rfl) (fun x W1 h => ?_) (fun x => rfl) (fun x W1 => ?_) (fun x => rfl) (fun x W1 => ?_) ?_ ?_
  · rfl
  · have h' : W1.cell? ⟨W.heap.size + 1 + 1, 0, none⟩ = some (.pointer (some ⟨W.heap.size + 1, 0, none⟩)) := h
    simp [execOp, go_sem, h']
  · rfl
  · have he : ∀ args w, (callFunc 30 args).run Tryd.prog w = .ok (.enter 30 args) w := enters_of Tryd.func30 (by kernel_rfl) rfl
    simp [execOp, go_sem, he]
  · intro st W2 h1 h2 h3 h4 h5
    clear HBOX hc3
    have hp : W2.cell? ⟨W.heap.size + 1 + 1, 0, none⟩ = some (.pointer (some ⟨W.heap.size + 1, 0, none⟩)) := cell_blk h3 0 _ rfl
    obtain ⟨_, v, us, ok, r1, r2, r3⟩ := h2
    obtain ⟨A, c, rfl⟩ := own_slice r2
    have hv : W2.cell? ⟨W.heap.size + 1, 0, none⟩ = some (.slice A st.length c) := cell_blk r1 0 _ rfl
    have R2 := Aside0.mk r2
    have R3 := Aside0.mk r3
    have H1 := Aside0.mk h1
    have H4 := Aside0.mk h4
    have H5 := Aside0.mk h5
    clear r1 r2 r3 h1 h3 h4 h5
    by_cases hst : st.length = 1
    · obtain ⟨x, rfl⟩ : ∃ x, st = [x] := by
        match st, hst with
        | [x], _ => exact ⟨x, rfl⟩
      obtain ⟨u, rfl, ok1, hu⟩ : ∃ u, us = [u] ∧ ∃ ok1, k41.R 41 W2 W.heap.size ok1 u x := by
        have := R3.out
        match us, this with
        | [u], ⟨ok1, _, _, _, h, _⟩ => exact ⟨u, rfl, ok1, h⟩
        | _ :: _ :: _, ⟨_, _, _, _, _, h⟩ => exact h.elim
      have hown := R2.out
      obtain ⟨g, cap, hA⟩ : ∃ g cap, Value.slice A [x].length c = .slice (some ⟨g, 0, none⟩) [x].length cap := by
        rcases hown.2 with ⟨_, h⟩ | ⟨g, cap, _, h, _⟩
        · simp at h
        · exact ⟨g, cap, h⟩
      injection hA with hA _ hcap
      subst hA hcap
      have hg : W2.cell? ⟨g, 0, none⟩ = some u := hown.cells rfl 0 u rfl
      have HU := Aside0.mk hu
      clear hown hu R2 R3 hst
      have hb1 : ((1 : Int) == 1) = true := rfl
      gi_wp2_with fail
      refine ⟨trivial, (fun h => nomatch h), (callsIn_wide.2 (must_ok _ _)).mono ?_⟩
      rintro e w5 ⟨rfl, rfl⟩
      gi_wp2_with fail
      refine ⟨(fun h => nomatch h), .inl ⟨_, _, rfl, run_takeDeferred H4.out, u, ?_, ?_, ?_⟩⟩
      · simp [results, Tryd.f27, go_sem]
      · exact H5.out.grown (grownBy_putObj' _ _ _) H5.out.size (fun k hk => by injection hk with hk; omega)
      · refine .inl ⟨_, x, ?_, rfl, ?_⟩
        · unfold readOut
          rw [if_pos hsz, H1.out]
        · refine Kd.R_mono (Kd.R_move (Kd.R_bound HU.out) fun k hk => World.putObj_heap_other ?_) (fun _ _ => trivial)
          rintro rfl
          obtain ⟨q, hq, cells, hc⟩ := hk.2.2.2
          rw [H4.out] at hc; cases hc
    · have hb1 : (((st.length : Nat) : Int) == 1) = false := by rw [beq_eq_false_iff_ne]; omega
      gi_wp2_with fail
      refine ⟨trivial, (fun h => nomatch h), (callsIn_wide.2 (must_no _ _)).mono ?_⟩
      rintro e w5 ⟨rfl, rfl⟩
      refine ⟨(fun h => nomatch h), .inl ⟨_, _, rfl, run_takeDeferred H4.out, ?_, ?_⟩⟩
      · exact H5.out.grown (grownBy_putObj' _ _ _) H5.out.size (fun k hk => by injection hk with hk; omega)
      · refine .inr ⟨_, ?_, rfl⟩
        unfold readOut
        rw [if_pos hsz, H1.out]
        match st, hst with
        | [], _ => rfl
        | [_], h => exact absurd rfl h
        | _ :: _ :: _, _ => rfl
  · intro e W2 h1 h2 h3
    clear HBOX hc3
    refine ⟨(fun h => nomatch h), .inl ⟨_, _, rfl, run_takeDeferred h2, ?_, ?_⟩⟩
    · exact h3.grown (grownBy_putObj' _ _ _) h3.size (fun k hk => by injection hk with hk; omega)
    · refine .inr ⟨_, ?_, rfl⟩
      unfold readOut
      rw [if_pos hsz, h1]
theorem read1_big (n Bt : Nat) (s : ByteArray) (W : World) (hbox : W.heap[Bt]? = some (.cells #[.string s] 9 (0, 0))) (hsz : 262144 < s.size) :
    CallsIn FW n Tryd.prog 27 #[.pointer (some ⟨Bt, 0, none⟩)] W fun e W' => e = .panicked (thrown 3) ∧ W = W' := by
  have hc : W.cell? ⟨Bt, 0, none⟩ = some (.string s) := cell_blk hbox 0 _ rfl
  have hb0 : decide ((s.size : Int) ≤ 262144) = false := by simp; omega
  refine callsIn_of_wp_marks Tryd.func27 rfl trivial ?_ rfl
  simp only [Tryd.ntmps27, List.size_toArray, List.length_cons, List.length_nil, Nat.reduceAdd, Nat.reduceSub, Array.replicate_succ, Array.replicate_zero, List.push_toArray, List.append_toArray, List.nil_append, List.cons_append]
  gi_wp2_with fail
  refine ⟨trivial, (fun h => nomatch h), (callsIn_wide.2 (must_no _ _)).mono ?_⟩
  rintro e w' ⟨rfl, rfl⟩
  exact ⟨rfl, rfl⟩
/-- Read$1: all of the reading; below the heap's end nothing moves. -/
theorem read1 (Bt : Nat) (s : ByteArray) (m : Int) (W : World) (hbox : W.heap[Bt]? = some (.cells #[.string s] 9 (0, 0))) (hBt : 0 < Bt) (hm : W.cell? ⟨0, 0, none⟩ = some (.int .i64 m)) :
    Calls Tryd.prog 27 #[.pointer (some ⟨Bt, 0, none⟩)] W fun e W' => Below W.heap.size W W' ∧
      ((∃ v x, readOut s = .ok x ∧ e = .returned v ∧ k41.R 41 W' W.heap.size (fun _ => True) v x) ∨ (∃ k, readOut s = .error k ∧ e = .panicked (thrown k))) := by
  by_cases hsz : s.size ≤ 262144
  · exact (callsIn_wide (n := 0)).1 (read1_in 0 Bt s m W hbox hBt hm hsz)
  · refine ((callsIn_wide (n := 0)).1 (read1_big 0 Bt s W hbox (by omega))).mono ?_
    rintro e W' ⟨rfl, rfl⟩
    refine ⟨Below.refl _ _, .inr ⟨3, ?_, rfl⟩⟩
    unfold readOut
    rw [if_neg hsz]
end Go.Proofs.YtmjnodjjnjckiaaDoor

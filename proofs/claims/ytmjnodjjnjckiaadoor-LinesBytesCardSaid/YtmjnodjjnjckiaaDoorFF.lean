/- package spandrelref30: Read. -/
import Derived.Test.YtmjnodjjnjckiaaDoorEF
import Derived.Test.YtmjnodjjnjckiaaDoorX
import Derived.OwnWalk
namespace Go.Proofs.YtmjnodjjnjckiaaDoor.Q44
open Go.Proofs.YtmjnodjjnjckiaaDoor PLines Go.RowKit Go.Shelf Go.Proofs.YtmjnodjjnjckiaaDoorW.PrintWords

set_option maxHeartbeats 4000000 in
set_option maxRecDepth 100000 in
theorem rread_big (s : ByteArray) (W : World) (hs : 262144 < s.size) :
    Calls Tryd.prog 10 #[.string s] W fun e W' => e = .returned (.tuple #[.slice none 0 0, .int .i64 3]) ∧ W = W' := by
  have hb0 : decide (262144 < (s.size : Int)) = true := by simp; omega
  go_enter Tryd.func10, Tryd.ntmps10
  go_wp2_with fail
  refine bodyPost_ret (results_tmp2 rfl _ _ _) rfl ?_
  exact ⟨rfl, rfl⟩
/-- The rows of the document's reader, as a value: the program's rows, turned. -/
def RowsQ (B : Nat) (W : World) (v : Value) (st : List (List S41)) : Prop := ∃ us ok, W.ownsRow B 27 1 v st.length us.reverse ∧ RowsAt B W ok us (st.map tuL)
theorem RowsQ.slice {B : Nat} {W : World} {v : Value} {st : List (List S41)} (h : RowsQ B W v st) : ∃ A c, v = .slice A st.length c := by
  obtain ⟨us, ok, h1, _⟩ := h
  exact own_slice h1
theorem RowsQ.start (B : Nat) (W : World) (hB : B ≤ W.heap.size) : RowsQ B (W.alloc (.cells #[.slice none 0 0] 27)) (.slice (some ⟨W.heap.size, 0, none⟩) 1 1) [[]] :=
  ⟨[.slice none 0 0], fun _ => False, ⟨rfl, .inr ⟨W.heap.size, 1, #[.slice none 0 0], rfl, hB, World.alloc_heap_new W _, Nat.le_refl _, by decide, rfl, rfl⟩⟩, fun _ => False, fun _ => False, fun _ h => h.elim, fun _ h => h, Kd.R_nil _ _ _ _ _, trivial⟩
theorem info27 : (Tryd.prog.info? 27).map (fun i => (i.zero, i.size, i.bytes)) = some (some (.slice none 0 0), 1, 24) := by kernel_rfl
theorem RowsQ.open_ {B : Nat} {W w1 : World} {v v1 : Value} {st : List (List S41)} {us L : List Value} {ok : Nat → Prop} (hL : us.reverse = L) (hLL : L.length = st.length) (hown : W.ownsRow B 27 1 v L.length L) (hrows : RowsAt B W ok us (st.map tuL))
    (hown1 : w1.ownsRow B 27 1 v1 (L ++ [Value.slice none 0 0]).length (L ++ [Value.slice none 0 0])) (hg1 : W.grownBy w1 v.ownBlock) : RowsQ B w1 v1 ([] :: st) := by
  refine ⟨.slice none 0 0 :: us, ok, ?_, fun _ => False, ok, fun _ h => h.elim, fun _ h => h, Kd.R_nil _ _ _ _ _, hrows.step fun k _ hk => hg1.block k hk.1 fun e => ?_⟩
  · rw [List.reverse_cons, hL]
    simpa [hLL] using hown1
  · obtain ⟨c, hc⟩ := own_typed hown k e.symm
    obtain ⟨d, hd⟩ := hk.2
    rw [hc] at hd; simp at hd
theorem words_keep {B B' n k : Nat} {ok : Nat → Prop} {w1 wr w2 : World} {V v : Value} {ws : List ByteArray} {xs : List Value} (hV : Kd.R Kd.string 9 w1 B ok V ws) (hk : V.ownBlock = some k) (hwk : wr.heap[k]? = w1.heap[k]?)
    (hO : wr.ownsRow B' 27 1 v n xs) (hg : wr.grownBy w2 v.ownBlock) : w2.heap[k]? = w1.heap[k]? := by
  obtain ⟨c, hc⟩ := Kd.R_typed hV k hk
  have hwr := hwk.trans hc
  refine (hg.block k (size_of hwr) (fun e => ?_)).trans hwk
  obtain ⟨d, hd⟩ := own_typed hO k e.symm
  rw [hwr] at hd; simp at hd
/-- A word's cell. -/
theorem word_cell {W : World} {B : Nat} {ok : Nat → Prop} {v : Value} {ts : List (List UInt8)} (h : Kd.R Kd.string 9 W B ok v (ts.map tokB)) {i : Nat} {t : List UInt8} (ht : ts[i]? = some t) :
    ∃ g c, v = .slice (some ⟨g, 0, none⟩) ts.length c ∧ W.cell? ⟨g, i, none⟩ = some (.string (tokB t)) := by
  have hi : i < ts.length := (List.getElem?_eq_some_iff.1 ht).1
  obtain ⟨g, cap, e, _⟩ := Kd.R_form h (by rw [List.length_map]; omega)
  subst e
  have := Kd.R_cell (⟨#[]⟩ : ByteArray) h (i : Int) (by omega) (by rw [List.length_map]; omega)
  refine ⟨g, cap, by rw [List.length_map], ?_⟩
  rw [Int.toNat_natCast] at this
  rw [this.1]
  congr 2
  unfold rdOf
  simp [List.getD, ht]

theorem tuL_snoc : ∀ (x : List S41) (p : S41), tuL (x ++ [p]) = tuL x ++ [tuT p]
  | [], _ => rfl
  | y :: x, p => by show tuT y :: tuL (x ++ [p]) = _; rw [tuL_snoc x p]; rfl
/-- The rows behind a put. -/
theorem RowsQ.put {B go cap : Nat} {cur : Array Value} {u : Value} {us : List Value} {ok ok1 ok2 okp : Nat → Prop} {x : List S41} {st : List (List S41)} {inner : List Value} {s kv : Value} {p : S41} {W W' : World}
    (hl : us.length = st.length) (hBg : B ≤ go) (hgo : W.heap[go]? = some (.cells cur 27 (0, 0))) (hn : st.length + 1 ≤ cap) (hcm : cap ≤ maxLen) (hcs : cur.size = cap * 1) (htake : cur.toList.take ((st.length + 1) * 1) = us.reverse ++ [u])
    (h1 : ∀ k, ok1 k → ok k ∧ ¬ ok2 k) (h2 : ∀ k, ok2 k → ok k) (hu : ∀ k, u.ownBlock = some k → ok1 k) (hri : Reps (k44.M W B (fun k => ok1 k ∧ some k ≠ u.ownBlock)) 2 (tuL x) inner) (h4 : RowsAt B W ok2 us (st.map tuL))
    (hp : k44.M W B okp (tuT p) [s, kv]) (hdis : ∀ k, okp k → ¬ ok k) (hpost : PutPost B go st.length (tuL x).length cur u inner s kv W W') :
    RowsQ B W' (.slice (some ⟨go, 0, none⟩) (st.length + 1) cap) ((x ++ [p]) :: st) := by
  have hcur : ∀ j, j < st.length + 1 → cur[j]? = (us.reverse ++ [u])[j]? := fun j hj => by
    rw [← htake, List.getElem?_take_of_lt (by omega), Array.getElem?_toList]
  obtain ⟨v1, hR, hgo'⟩ := R44_put (p := tuT p) (okp := okp) ⟨_, hgo⟩ hu hri hp (fun k hk h => hdis k hk (h1 k h).1) hpost
  obtain ⟨_, _, _, hkeep, _, _, _⟩ := hpost
  refine ⟨v1 :: us, fun _ => True, ?_, fun k => ok1 k ∨ okp k ∨ W.heap.size ≤ k, fun k => ok2 k ∧ Blk44 W k, fun k hk => ⟨trivial, fun h => ?_⟩, fun _ _ => trivial, ?_, ?_⟩
  · refine ⟨by simp [hl], .inr ⟨go, cap, _, rfl, hBg, hgo', by simpa using hn, hcm, by simp [hcs], ?_⟩⟩
    rw [Array.toList_setIfInBounds, List.reverse_cons]
    apply List.ext_getElem?
    intro j
    rw [List.getElem?_take]
    have hsz : cur.toList.length = cap := by simpa using hcs
    split
    · rename_i hj
      simp at hj
      rw [List.getElem?_set]
      by_cases h0 : st.length = j
      · rw [if_pos h0, if_pos (by omega), List.getElem?_append_right (by simp [hl]; omega)]; simp [hl, h0]
      · rw [if_neg h0, Array.getElem?_toList, hcur j (by omega), List.getElem?_append_left (by simp [hl]; omega), List.getElem?_append_left (by simp [hl]; omega)]
    · rename_i hj
      simp at hj
      rw [List.getElem?_eq_none]; simp [hl]; omega
  · rcases hk with hk | hk | hk
    · exact (h1 k hk).2 h.1
    · exact hdis k hk (h2 k h.1)
    · have := h.2.1; omega
  · rw [show tuL (x ++ [p]) = tuL x ++ [tuT p] from tuL_snoc x p]; exact hR
  · refine (h4.bound).move fun k hk => hkeep k hk.2.1 ?_ ?_
    · rintro rfl
      obtain ⟨c, hc⟩ := hk.2.2
      rw [hgo] at hc; injection hc with hc; injection hc with _ hc; cases hc
    · intro e; exact (h1 k (hu k e.symm)).2 hk.1

/-- What a round leaves behind a put. -/
theorem put_round {B go cap n m : Nat} {cur : Array Value} {u : Value} {us : List Value} {ok ok1 ok2 okp okV : Nat → Prop} {x : List S41} {st : List (List S41)} {inner : List Value} {s kv V : Value} {p : S41} {wr W' w1 W0 : World} {ws : List ByteArray}
    (hst : st.length = n) (hm : (tuL x).length = m) (hl : us.length = n) (hBg : B ≤ go) (hgo : wr.heap[go]? = some (.cells cur 27 (0, 0))) (hn : n + 1 ≤ cap) (hcm : cap ≤ maxLen) (hcs : cur.size = cap * 1) (htake : cur.toList.take ((n + 1) * 1) = (u :: us).reverse)
    (h1 : ∀ k, ok1 k → ok k ∧ ¬ ok2 k) (h2 : ∀ k, ok2 k → ok k) (hu : ∀ k, u.ownBlock = some k → ok1 k) (hri : Reps (k44.M wr B (fun k => ok1 k ∧ some k ≠ u.ownBlock)) 2 (tuL x) inner) (h4 : RowsAt B wr ok2 us (st.map tuL)) (hoi : wr.ownsRow B 44 2 u m inner)
    (hp : k44.M wr B okp (tuT p) [s, kv]) (hdis : ∀ k, okp k → ¬ ok k) (hV : Kd.R Kd.string 9 w1 B okV V ws) (hwk : ∀ k, V.ownBlock = some k → wr.heap[k]? = w1.heap[k]?) (hbw : Below B W0 wr) (hB : B ≤ wr.heap.size)
    (hpost : PutPost B go n m cur u inner s kv wr.drew W') :
    RowsQ B W' (.slice (some ⟨go, 0, none⟩) (n + 1) cap) ((x ++ [p]) :: st) ∧ (∀ k, V.ownBlock = some k → W'.heap[k]? = w1.heap[k]?) ∧ Below B W0 W' := by
  have hpost' := hpost
  obtain ⟨v1, hown1, hgo1, hkeep, hat, hne, hb⟩ := hpost'
  subst hst hm
  refine ⟨?_, fun k hk => ?_, ?_⟩
  · exact RowsQ.put (W := wr.drew) (okp := okp) (ok := ok) hl hBg hgo hn hcm hcs (by rw [htake, List.reverse_cons]) h1 h2 hu (hri.imp_ (fun _ _ hq => k44.M_move (w := wr) (w1 := wr.drew) (fun _ _ => rfl) hq)) (h4.move (fun _ _ => rfl)) (k44.M_move (w := wr) (w1 := wr.drew) (fun _ _ => rfl) hp) hdis hpost
  · obtain ⟨c, hc⟩ := Kd.R_typed hV k hk
    have hwr := (hwk k hk).trans hc
    refine (hkeep k (size_of hwr) (fun e => ?_) (fun e => ?_)).trans (hwk k hk)
    · subst e; rw [hgo] at hwr; injection hwr with hwr; injection hwr with _ hwr; cases hwr
    · exact own_ne hoi hwr (by decide) e
  · refine ⟨hb.os.trans hbw.os, hb.tape.trans hbw.tape, hb.output.trans hbw.output, Nat.le_trans hbw.size hb.size, fun k hk => ?_⟩
    refine (hkeep k (Nat.lt_of_lt_of_le hk hB) (fun e => ?_) (fun e => ?_)).trans (hbw.block k hk)
    · omega
    · have := own_base hoi k e.symm; omega
theorem M44_word (W : World) (B : Nat) (ok : Nat → Prop) (t : List UInt8) : k44.M W B ok (tuT ⟨⟨t.toArray⟩, []⟩) [.string (tokB t), .slice none 0 0] := k44_mkM W B ok ⟨tokB t, []⟩ (Kd.R_nil _ _ _ _ _)
theorem one_cells {go n m cu : Nat} {curo : Array Value} {Au : Option Addr} {W1 w1 : World} (hgo : W1.heap[go]? = some (.cells curo 27 (0, 0))) (hcu : curo[n]? = some (.slice Au m cu)) (hne : some go ≠ (Value.slice Au m cu).ownBlock)
    (hg1 : W1.drew.grownBy w1 (Value.slice Au m cu).ownBlock) : w1.cell? ⟨go, n, none⟩ = some (.slice Au m cu) ∧ w1.frozen? ⟨go, n, none⟩ = false := by
  have hgo1 : w1.heap[go]? = some (.cells curo 27 (0, 0)) := (hg1.block go (Array.getElem?_eq_some_iff.1 hgo).1 hne).trans hgo
  exact ⟨cell_blk hgo1 n _ hcu, frozen_blk hgo1 n⟩
theorem tuL_length : ∀ (x : List S41), (tuL x).length = x.length
  | [] => rfl
  | y :: x => by show (tuT y :: tuL x).length = _; rw [List.length_cons, tuL_length x]; rfl
theorem rows_le {ts : List (List UInt8)} {st : List (List S41)} {i : Nat} (h : readToks [[]] (ts.take i) = .ok st) (hl : ts.length ≤ 262144) : RowsLe 262144 st := by
  have h1 := readToks_le h (n := 0) (fun x hx => by simp at hx; subst hx; simp)
  intro x hx
  have h2 := h1 x hx
  have h3 : (ts.take i).length ≤ ts.length := List.length_take_le' _ _
  omega
theorem row_le {ts : List (List UInt8)} {x : List S41} {st : List (List S41)} {i : Nat} (h : readToks [[]] (ts.take i) = .ok (x :: st)) (hl : ts.length ≤ 262144) : x.length ≤ 1000000 :=
  Nat.le_trans (rows_le h hl x (List.mem_cons_self ..)) (by decide)

set_option maxHeartbeats 4000000 in
set_option maxRecDepth 100000 in
theorem rread (s : ByteArray) (W : World) (hs : s.size ≤ 262144) :
    Calls Tryd.prog 10 #[.string s] W fun e W' => ∃ v, e = .returned (.tuple #[v, .int .i64 (readE s)]) ∧ k44.R 44 W' W.heap.size (fun _ => True) v (tuL (readF s)) ∧ Below W.heap.size W W' := by
  have hb0 : decide (262144 < (s.size : Int)) = false := by simp; omega
  obtain ⟨k, hk⟩ := words_ev (s := s) (by omega)
  have hwd := spandrelref30_words.calls k s _ W (hk k (Nat.le_refl _))
  have HS := Aside0.mk hs
  clear hs
  go_enter Tryd.func10, Tryd.ntmps10
  go_wp2_with fail
  refine hwd.mono ?_
  rintro e w1 ⟨V, rfl, hV, hb1⟩
  obtain ⟨A0, c0, rfl⟩ := Kd.R_slice hV
  rw [List.length_map] at hV ⊢
  have HV := Aside0.mk hV
  have HB := Aside0.mk hb1
  have HLW : Aside0 ((toks s.data.toList).length ≤ 262144) := ⟨by have h1 := toks_le _ s.data.toList (Nat.le_refl _); rw [← size_eq] at h1; have h2 := HS.out; omega⟩
  have HQ0 := Aside0.mk (RowsQ.start W.heap.size w1 hb1.size)
  clear hV hb1 hwd hk
  go_wp2_with fail
  go_loopw [5, 6] (fun v5 v6 wr => ∃ (i : Nat) (st : List (List S41)), v6 = .int .i64 i ∧ i ≤ (toks s.data.toList).length ∧ readToks [[]] ((toks s.data.toList).take i) = .ok st ∧ RowsQ W.heap.size wr v5 st ∧ (∀ k, (Value.slice A0 (toks s.data.toList).length c0).ownBlock = some k → wr.heap[k]? = w1.heap[k]?) ∧ Below W.heap.size W wr) (fun _ v6 _ => (toks s.data.toList).length - idx v6)
  case atStart =>
    refine ⟨0, [[]], rfl, Nat.zero_le _, rfl, HQ0.out, fun k hk => Below.heap_alloc _ _ _ (Kd.R_lt HV.out k hk), HB.out.alloc HB.out.size _⟩
  case round =>
    obtain ⟨i, st, rfl, hil, hst, hq, hwk, hbw⟩ := hrel
    obtain ⟨A5, c5, rfl⟩ := hq.slice
    have HI := Aside0.mk hil
    have HST := Aside0.mk hst
    have HQ := Aside0.mk hq
    have HWK := Aside0.mk hwk
    have HBW := Aside0.mk hbw
    clear hil hst hq hwk hbw
    by_cases hi : i < (toks s.data.toList).length
    · have hi0 : decide ((i : Int) < ((toks s.data.toList).length : Int)) = true := by simp; exact hi
      obtain ⟨t, ht⟩ : ∃ t, (toks s.data.toList)[i]? = some t := ⟨_, List.getElem?_eq_getElem hi⟩
      have hrd : readToks [[]] ((toks s.data.toList).take (i + 1)) = stepR st t := by
        rw [List.take_add_one, ht]
        show readToks [[]] ((toks s.data.toList).take i ++ [t]) = _
        rw [readToks_snoc, HST.out]
      have HE : Aside0 (∀ e, stepR st t = .error e → readOut s = .error e) := ⟨fun e he => by
        unfold readOut
        rw [if_pos HS.out]
        have h1 := readToks_error (b := (toks s.data.toList).drop (i + 1)) (hrd.trans he)
        rw [List.take_append_drop] at h1
        rw [h1]⟩
      obtain ⟨g, c1, eV, hcell⟩ := word_cell HV.out ht
      injection eV with eA _ ec
      subst eA ec
      have hgw : wr.heap[g]? = w1.heap[g]? := HWK.out g rfl
      have hx0 : wr.cell? ⟨g, i, none⟩ = some (.string (tokB t)) := (World.cell?_of_block (a := ⟨g, i, none⟩) hgw).trans hcell
      have htl : (tokB t).toList = t := by rw [ByteArray.toList_eq]; rfl
      obtain ⟨ii, hii⟩ : ∃ ii : Int, (i : Int) = ii := ⟨_, rfl⟩
      have hx : wr.cell? ⟨g, ii.toNat, none⟩ = some (.string (tokB t)) := by rw [← hii]; exact hx0
      rw [hii] at hi0 ⊢
      have p1 : (0 ≤ ii) = True := eq_true (by omega)
      have p2 : (ii < ((toks s.data.toList).length : Int)) = True := eq_true (by omega)
      have HII := Aside0.mk hi
      have HIJ := Aside0.mk hii
      have HRD := Aside0.mk hrd
      have HT := Aside0.mk ht
      have HTL := Aside0.mk htl
      clear hi hii hrd ht hcell hgw hx0 htl
      have fin : ∀ e, stepR st t = .error e → ∃ v, Ending.returned (Value.tuple #[.slice none 0 0, .int .i64 e]) = Ending.returned (.tuple #[v, .int .i64 (readE s)]) ∧ k44.R 44 wr W.heap.size (fun _ => True) v (tuL (readF s)) ∧ Below W.heap.size W wr := fun e he => by
        have hro := HE.out e he
        refine ⟨.slice none 0 0, by rw [show readE s = e by unfold readE; rw [hro]], ?_, HBW.out⟩
        rw [show readF s = [] by unfold readF; rw [hro]]
        exact Kd.R_nil _ _ _ _ _
      have FIN := Aside0.mk fin
      clear fin
      cases h40 : ((tokB t).toList == [40]) with
      | true =>
        have H40 : Aside0 (t = [40]) := ⟨by have := eq_of_beq h40; rwa [HTL.out] at this⟩
        cases hn : decide (400 < (st.length : Int)) with
        | true =>
          have HN := Aside0.mk (of_decide_eq_true hn)
          go_wp2_with fail
          refine bodyPost_ret (results_tmp2 rfl _ _ _) rfl ?_
          refine FIN.out 3 ?_
          unfold stepR
          rw [if_pos H40.out, if_neg (by have := HN.out; omega)]
        | false =>
          have HN := Aside0.mk (of_decide_eq_false hn)
          obtain ⟨us, ok, hown, hrows⟩ := HQ.out
          have hl := hrows.length
          rw [List.length_map] at hl
          obtain ⟨L, hL⟩ : ∃ L, us.reverse = L := ⟨_, rfl⟩
          have hLl : L.length = st.length := by rw [← hL]; simp [hl]
          rw [hL, ← hLl] at hown
          rw [← hLl] at hn ⊢
          have HL := Aside0.mk hL
          have HLL := Aside0.mk hLl
          have HO := Aside0.mk hown
          have HRO := Aside0.mk hrows
          clear hown hL hLl hl hrows
          go_wp2_with (first | (at_builtin; refine print_append (w0 := W) (W := wr) W.heap.size rfl (.tmp 75) (.tmp 76) 67 27 (.slice none 0 0) 24 rfl Tryd.underlying67 info27 rfl (by decide) (.slice A5 L.length c5) L (.slice none 0 0) rfl rfl rfl HO.out HBW.out HBW.out.size (by have := HLL.out; have := HN.out; omega) ?_; intro v1 w2 hown1 hb1 hg1 hat1; have HW1 := Aside0.mk hown1; have HB1 := Aside0.mk hb1; have HG1 := Aside0.mk hg1; clear hown1 hb1 hg1 hat1))
          refine ⟨⟨i + 1, [] :: st, by rw [← HIJ.out, wrap_i (by have := HII.out; have := HLW.out; omega)], HII.out, ?_, RowsQ.open_ HL.out HLL.out HO.out HRO.out HW1.out HG1.out, fun k hk => words_keep HV.out hk (HWK.out k hk) HO.out HG1.out, HB1.out⟩, ?_⟩
          · rw [HRD.out]
            unfold stepR
            rw [if_pos H40.out, if_pos (by have h1 := HN.out; omega)]
          · rw [← HIJ.out, wrap_i (by have := HII.out; have := HLW.out; omega)]; have := HII.out; simp [idx]; try omega
      | false =>
        have H40 : Aside0 (¬ t = [40]) := ⟨by have := h40; rw [HTL.out] at this; simpa using this⟩
        cases h41 : ((tokB t).toList == [41]) with
        | true =>
          have H41 : Aside0 (t = [41]) := ⟨by have := eq_of_beq h41; rwa [HTL.out] at this⟩
          cases h1 : ((st.length : Int) == 1) with
          | true =>
            have H1 : Aside0 (st.length = 1) := ⟨by have := eq_of_beq h1; omega⟩
            go_wp2_with fail
            refine bodyPost_ret (results_tmp2 rfl _ _ _) rfl ?_
            refine FIN.out 4 ?_
            unfold stepR
            rw [if_neg H40.out, if_pos H41.out]
            match st, H1.out with
            | [_], _ => rfl
          | false =>
            have h1a : ((st.length : Int) == 1) = false := h1
            obtain ⟨us, ok, hown, hrows⟩ := HQ.out
            have hl := hrows.length
            rw [List.length_map] at hl
            obtain ⟨top, sec, st', rfl⟩ : ∃ top sec st', st = top :: sec :: st' := by
              have h2 := readToks_ne HST.out (by simp)
              match st, h2, h1a with
              | top :: sec :: st', _, _ => exact ⟨top, sec, st', rfl⟩
              | [_], _, h => simp at h
            obtain ⟨ut, u, us', rfl⟩ : ∃ ut u us', us = ut :: u :: us' := by
              match us, hl with
              | ut :: u :: us', _ => exact ⟨ut, u, us', rfl⟩
            obtain ⟨n, hn1⟩ : ∃ n, st'.length = n := ⟨_, rfl⟩
            have hn3 : (top :: sec :: st').length = n + 2 := by simp [hn1]
            have HN1 := Aside0.mk hn1
            rw [hn3] at h1 hown ⊢
            have h1b : ((n : Int) + 2 == 1) = false := by simp; omega
            obtain ⟨hl2, hv⟩ := hown
            obtain ⟨go, cap, cur, hA, hBg, hgo, hcn, hcm, hcs, htake⟩ := hv.resolve_left (by omega)
            injection hA with hA _ hcap
            subst hA hcap
            obtain ⟨okt, ok, k1t, k2t, htop, ⟨ok1, ok2, k1, k2, ⟨hu, inner, hoi, hri⟩, h4⟩⟩ := hrows
            have hlu : us'.length = n := by simpa [hn1] using hl
            have hget : ∀ j v, (us'.reverse ++ [u, ut])[j]? = some v → j < n + 2 → cur[j]? = some v := fun j v hj hjn => by
              have h5 : (cur.toList.take ((n + 2) * 1))[j]? = some v := by rw [htake]; simpa using hj
              rwa [List.getElem?_take_of_lt (by omega), Array.getElem?_toList] at h5
            have hcu : cur[n]? = some u := hget n u (by simp [← hlu]) (by omega)
            have hct : cur[n + 1]? = some ut := hget (n + 1) ut (by rw [List.getElem?_append_right (by simp [hlu])]; simp [hlu]) (by omega)
            have hneu : some go ≠ u.ownBlock := own_ne hoi hgo (by decide)
            obtain ⟨m, hm⟩ : ∃ m, (tuL sec).length = m := ⟨_, rfl⟩
            rw [hm] at hoi
            obtain ⟨Au, cu, rfl⟩ := own_slice hoi
            have hil := hoi.1
            obtain ⟨At, ct, rfl⟩ := Kd.R_slice htop
            obtain ⟨nt, hnt⟩ : ∃ nt, (tuL top).length = nt := ⟨_, rfl⟩
            rw [hnt] at htop hct
            have htake' : cur.toList.take ((n + 1) * 1) = ((Value.slice Au m cu) :: us').reverse := by
              have h5 := congrArg (List.take ((n + 1) * 1)) htake
              rw [List.take_take, Nat.min_eq_left (by omega)] at h5
              rw [h5, List.reverse_cons]
              exact List.take_left' (by simp [hlu])
            have hgoS : go < wr.heap.size := (Array.getElem?_eq_some_iff.1 hgo).1
            have hcta : wr.cell? ⟨go, n + 1, none⟩ = some (.slice At nt ct) := cell_blk hgo (n + 1) _ hct
            have HU := Aside0.mk hu
            have HRI := Aside0.mk hri
            have H4 := Aside0.mk h4
            have HK1 := Aside0.mk k1
            have HK2 := Aside0.mk k2
            have HK1T := Aside0.mk k1t
            have HGO := Aside0.mk hgo
            have HCS := Aside0.mk hcs
            have HTK := Aside0.mk htake'
            have HLU := Aside0.mk hlu
            have HCU := Aside0.mk hcu
            have HNEU := Aside0.mk hneu
            have HM := Aside0.mk hm
            have HOI := Aside0.mk hoi
            have HIL := Aside0.mk hil
            have HTOP := Aside0.mk htop
            have HNT := Aside0.mk hnt
            have HGS := Aside0.mk hgoS
            have HMM : Aside0 (m ≤ 1000000) := ⟨by rw [← hm, tuL_length]; exact Nat.le_trans (rows_le HST.out HLW.out sec (by simp)) (by decide)⟩
            have hcm' : c5 ≤ 9223372036854775807 := by unfold maxLen at hcm; omega
            have hwn : IntKind.i64.wrap (n : Int) = n := IntWalk.i64_in _ (by omega)
            have hwn1 : IntKind.i64.wrap ((n : Int) + 1) = n + 1 := IntWalk.i64_in _ (by omega)
            have hn0 : (0 : Int) ≤ n := by omega
            have hlt1 : (n : Int) < (n : Int) + 1 := by omega
            clear hu hri h4 k1 k2 k1t k2t hgo hcs htake htake' hlu hcu hct hget hneu hm hoi hil hl hl2 hv hn1 hn3 htop hnt h1a
            go_wp2_with fail
            obtain ⟨Wa, hWa⟩ : ∃ Wa, wr.alloc (Obj.cells #[Value.string ⟨#[]⟩, Value.slice At nt ct] 44) = Wa := ⟨_, rfl⟩
            obtain ⟨bx, hbx⟩ : ∃ bx, wr.heap.size = bx := ⟨_, rfl⟩
            rw [hWa, hbx]
            have HGOA : Aside0 (Wa.heap[go]? = some (.cells cur 27 (0, 0))) := ⟨by rw [← hWa]; exact (Below.heap_alloc _ _ _ HGS.out).trans HGO.out⟩
            have HBXA : Aside0 (Wa.heap[bx]? = some (.cells #[Value.string ⟨#[]⟩, Value.slice At nt ct] 44 (0, 0))) := ⟨by rw [← hWa, ← hbx]; exact World.alloc_heap_new wr _⟩
            have HRIA : Aside0 (Reps (k44.M Wa W.heap.size (fun k => ok1 k ∧ some k ≠ (Value.slice Au m cu).ownBlock)) 2 (tuL sec) inner) := ⟨HRI.out.imp_ (fun _ _ hq => by
              rw [← hWa]
              exact k44.M_mono (fun _ hk => hk.1) (k44.M_move (fun k hk => Below.heap_alloc _ _ _ hk.2.1) (M44_bound hq)))⟩
            have H4A : Aside0 (RowsAt W.heap.size Wa ok2 us' (st'.map tuL)) := ⟨by rw [← hWa]; exact H4.out.step (fun k _ hk => Below.heap_alloc _ _ _ hk.1)⟩
            have HOIA : Aside0 (Wa.ownsRow W.heap.size 44 2 (.slice Au m cu) m inner) := ⟨by rw [← hWa]; exact HOI.out.alloc _⟩
            have HPA : Aside0 (k44.M Wa W.heap.size okt (tuT ⟨⟨#[]⟩, top⟩) [.string ⟨#[]⟩, .slice At nt ct]) := ⟨by
              rw [← hWa, ← HNT.out]
              refine k44_mkM _ _ _ ⟨⟨#[]⟩, tuL top⟩ ?_
              have h5 := HTOP.out
              rw [← HNT.out] at h5
              exact Kd.R_mono (Kd.R_move (R44_bound h5) (fun k hk => Below.heap_alloc _ _ _ hk.2.1)) (fun _ hk => hk.1)⟩
            have HWKA : Aside0 (∀ k, (Value.slice (some ⟨g, 0, none⟩) (toks s.data.toList).length c0).ownBlock = some k → Wa.heap[k]? = w1.heap[k]?) := ⟨fun k hk => by
              have h5 := HWK.out k hk
              obtain ⟨c, hc⟩ := Kd.R_typed HV.out k hk
              rw [← hWa]
              exact (Below.heap_alloc _ _ _ (size_of (h5.trans hc))).trans h5⟩
            have HBWA : Aside0 (Below W.heap.size W Wa) := ⟨by rw [← hWa]; exact HBW.out.alloc HBW.out.size _⟩
            have HFIN : Aside0 (∀ W', PutPost W.heap.size go n m cur (.slice Au m cu) inner (.string ⟨#[]⟩) (.slice At nt ct) Wa.drew W' → RowsQ W.heap.size W' (.slice (some ⟨go, 0, none⟩) (n + 1) c5) ((sec ++ [⟨⟨#[]⟩, top⟩]) :: st') ∧ (∀ k, (Value.slice (some ⟨g, 0, none⟩) (toks s.data.toList).length c0).ownBlock = some k → W'.heap[k]? = w1.heap[k]?) ∧ Below W.heap.size W W') := ⟨fun W' hpost =>
              put_round (okp := okt) HN1.out HM.out HLU.out hBg HGOA.out (by omega) hcm HCS.out HTK.out HK1.out HK2.out HU.out HRIA.out H4A.out HOIA.out HPA.out (fun k hk => (HK1T.out k hk).2) HV.out HWKA.out HBWA.out HBWA.out.size hpost⟩
            have HREAD : Aside0 (readToks [[]] ((toks s.data.toList).take (i + 1)) = .ok ((sec ++ [⟨⟨#[]⟩, top⟩]) :: st')) := ⟨by
              rw [HRD.out]
              unfold stepR
              rw [if_neg H40.out, if_pos H41.out]⟩
            have hbgo : bx ≠ go := by have := HGS.out; omega
            have hgob : go ≠ bx := Ne.symm hbgo
            have HBU : Aside0 (some bx ≠ (Value.slice Au m cu).ownBlock) := ⟨fun e => by have := own_lt HOI.out bx e.symm; omega⟩
            have HC0 : Aside0 (∀ o, (Wa.alloc o).drew.cell? ⟨go, n, none⟩ = some (.slice Au m cu)) := ⟨fun o => cell_blk (W := (Wa.alloc o).drew) ((Below.heap_alloc _ _ _ (size_of HGOA.out)).trans HGOA.out) n _ HCU.out⟩
            have HF0 : Aside0 (∀ o, (Wa.alloc o).drew.frozen? ⟨go, n, none⟩ = false) := ⟨fun o => frozen_blk (W := (Wa.alloc o).drew) ((Below.heap_alloc _ _ _ (size_of HGOA.out)).trans HGOA.out) n⟩
            have HB0 : Aside0 (∀ o, (Wa.alloc o).heap[bx]? = some (.cells #[Value.string ⟨#[]⟩, Value.slice At nt ct] 44 (0, 0))) := ⟨fun o => (Below.heap_alloc _ _ _ (size_of HBXA.out)).trans HBXA.out⟩
            clear hWa hbx hcta hgoS
            go_region
            all_goals go_wp2_with fail
            · obtain ⟨Wq, hWq⟩ : ∃ Wq, (Wa.alloc (Obj.cells #[Value.bool false] 4)).drew = Wq := ⟨_, rfl⟩
              have hcq : Wq.cell? ⟨go, n, none⟩ = some (.slice Au m cu) := by rw [← hWq]; exact HC0.out _
              have hfq : Wq.frozen? ⟨go, n, none⟩ = false := by rw [← hWq]; exact HF0.out _
              have HBQ : Aside0 (Wq.heap[bx]? = some (.cells #[Value.string ⟨#[]⟩, Value.slice At nt ct] 44 (0, 0))) := ⟨by rw [← hWq]; exact HB0.out _⟩
              have hb0q : Wq.cell? ⟨bx, 0, none⟩ = some (.string ⟨#[]⟩) := cell_blk HBQ.out 0 _ rfl
              have hb1q : Wq.cell? ⟨bx, 1, none⟩ = some (.slice At nt ct) := cell_blk HBQ.out 1 _ rfl
              have HGQ : Aside0 (Wq.heap[go]? = some (.cells cur 27 (0, 0))) := ⟨by rw [← hWq]; exact (Below.heap_alloc _ _ _ (size_of HGOA.out)).trans HGOA.out⟩
              have HO1 : Aside0 (Wq.drew.ownsRow W.heap.size 44 2 (.slice Au m cu) m inner) := ⟨by rw [← hWq]; exact ((HOIA.out.alloc _).drew).drew⟩
              have HB1 : Aside0 (Below W.heap.size W Wq.drew) := ⟨by rw [← hWq]; exact ((HBWA.out.alloc HBWA.out.size _).drew).drew⟩
              have HS1 : Aside0 (W.heap.size ≤ Wq.drew.heap.size) := ⟨HB1.out.size⟩
              have hcqa : (Wq.alloc (Obj.cells #[Value.string ⟨#[]⟩, Value.slice At nt ct] 44)).cell? ⟨go, n, none⟩ = some (.slice Au m cu) := cell_blk ((Below.heap_alloc _ _ _ (size_of HGQ.out)).trans HGQ.out) n _ HCU.out
              rw [hWq]
              have HWQ : Aside0 (Wa.drew.alloc (Obj.cells #[Value.bool false] 4) = Wq) := ⟨hWq⟩
              clear hWq
              go_region_law ((refine step_append_cells (w0 := W) (W := Wq.drew) W.heap.size rfl (.tmp 127) (.tmp 129) 27 44 (.agg #[.string ⟨#[]⟩, .slice none 0 0]) 2 40 rfl Tryd.underlying27 PLines.info44 rfl (by decide) (by decide) (.slice Au m cu) m inner [.string ⟨#[]⟩, .slice At nt ct] rfl rfl rfl (by simp [Value.oneCell']) HO1.out HB1.out HS1.out (by have := HMM.out; omega) ?_); (intro v1 w2 hown1 hb1 hg1 hat1); (obtain ⟨A1, cap1, rfl⟩ := own_slice hown1); (have HE := Aside0.mk (put_one (W := Wa.drew) (n := n) HWQ.out HGQ.out HNEU.out hown1 hg1 hat1)); (obtain ⟨q1, q2⟩ := one_cells (go := go) (n := n) HGQ.out HCU.out HNEU.out hg1); (clear hown1 hb1 hg1 hat1))
              all_goals go_wp2_with fail
              all_goals (have hf := HFIN.out _ HE.out; exact ⟨⟨i + 1, _, by rw [← HIJ.out, wrap_i (by have := HII.out; have := HLW.out; omega)], HII.out, HREAD.out, hf.1, hf.2.1, hf.2.2⟩, by rw [← HIJ.out, wrap_i (by have := HII.out; have := HLW.out; omega)]; have := HII.out; simp [idx]; try omega⟩)
            · obtain ⟨Wq, hWq⟩ : ∃ Wq, (Wa.alloc (Obj.cells #[Value.bool true] 4)).drew = Wq := ⟨_, rfl⟩
              have hcq : Wq.cell? ⟨go, n, none⟩ = some (.slice Au m cu) := by rw [← hWq]; exact HC0.out _
              have hfq : Wq.frozen? ⟨go, n, none⟩ = false := by rw [← hWq]; exact HF0.out _
              have HBQ : Aside0 (Wq.heap[bx]? = some (.cells #[Value.string ⟨#[]⟩, Value.slice At nt ct] 44 (0, 0))) := ⟨by rw [← hWq]; exact HB0.out _⟩
              have hb0q : Wq.cell? ⟨bx, 0, none⟩ = some (.string ⟨#[]⟩) := cell_blk HBQ.out 0 _ rfl
              have hb1q : Wq.cell? ⟨bx, 1, none⟩ = some (.slice At nt ct) := cell_blk HBQ.out 1 _ rfl
              have HGQ : Aside0 (Wq.heap[go]? = some (.cells cur 27 (0, 0))) := ⟨by rw [← hWq]; exact (Below.heap_alloc _ _ _ (size_of HGOA.out)).trans HGOA.out⟩
              have HO1 : Aside0 (Wq.drew.ownsRow W.heap.size 44 2 (.slice Au m cu) m inner) := ⟨by rw [← hWq]; exact ((HOIA.out.alloc _).drew).drew⟩
              have HB1 : Aside0 (Below W.heap.size W Wq.drew) := ⟨by rw [← hWq]; exact ((HBWA.out.alloc HBWA.out.size _).drew).drew⟩
              have HS1 : Aside0 (W.heap.size ≤ Wq.drew.heap.size) := ⟨HB1.out.size⟩
              have hcqa : (Wq.alloc (Obj.cells #[Value.string ⟨#[]⟩, Value.slice none 0 0] 44)).cell? ⟨go, n, none⟩ = some (.slice Au m cu) := cell_blk ((Below.heap_alloc _ _ _ (size_of HGQ.out)).trans HGQ.out) n _ HCU.out
              have hb0qa : (Wq.alloc (Obj.cells #[Value.string ⟨#[]⟩, Value.slice none 0 0] 44)).cell? ⟨bx, 0, none⟩ = some (.string ⟨#[]⟩) := cell_blk ((Below.heap_alloc _ _ _ (size_of HBQ.out)).trans HBQ.out) 0 _ rfl
              have hb1qa : (Wq.alloc (Obj.cells #[Value.string ⟨#[]⟩, Value.slice none 0 0] 44)).cell? ⟨bx, 1, none⟩ = some (.slice At nt ct) := cell_blk ((Below.heap_alloc _ _ _ (size_of HBQ.out)).trans HBQ.out) 1 _ rfl
              have HBW2 : Aside0 (∀ w2, Wq.drew.grownBy w2 (Value.slice Au m cu).ownBlock → w2.cell? ⟨bx, 0, none⟩ = some (.string ⟨#[]⟩) ∧ w2.cell? ⟨bx, 1, none⟩ = some (.slice At nt ct)) := ⟨fun w2 hg2 => by
                have h5 := (hg2.block bx (size_of HBQ.out) HBU.out).trans HBQ.out
                exact ⟨cell_blk h5 0 _ rfl, cell_blk h5 1 _ rfl⟩⟩
              rw [hWq]
              have HWQ : Aside0 (Wa.drew.alloc (Obj.cells #[Value.bool true] 4) = Wq) := ⟨hWq⟩
              clear hWq
              go_region_law ((refine step_append_cells (w0 := W) (W := Wq.drew) W.heap.size rfl (.tmp 113) (.tmp 116) 27 44 (.agg #[.string ⟨#[]⟩, .slice none 0 0]) 2 40 rfl Tryd.underlying27 PLines.info44 rfl (by decide) (by decide) (.slice Au m cu) m inner [.string ⟨#[]⟩, .slice none 0 0] rfl rfl rfl (by simp [Value.oneCell']) HO1.out HB1.out HS1.out (by have := HMM.out; omega) ?_); (intro v1 w2 hown1 hb1 hg1 hat1); (obtain ⟨hxw, hxv⟩ := HBW2.out w2 hg1); (obtain ⟨g1, cap1, cur1, rfl, hBg1, hgne, hh1, hnn1, hm1, hz1, ht1, hgo2, hat2, q0, q1, q2, q3, q4, q5⟩ := put_mid (go := go) (n := n) (by exact HGQ.out) HCU.out HNEU.out HIL.out hown1 hg1 hat1); (have hgne' := Ne.symm hgne); (have HG2 := Aside0.mk hg1); (have HH1 := Aside0.mk hh1); (have HZ1 := Aside0.mk hz1); (have HT1 := Aside0.mk ht1); (have HGO2 := Aside0.mk hgo2); (have HAT := Aside0.mk hat2); (clear hown1 hb1 hg1 hat1 hh1 hz1 ht1 hgo2 hat2); (unfold maxLen at hm1); (have hlt2 : (m : Int) < (m : Int) + 1 := by omega))
              all_goals go_wp2_with fail
              all_goals (have hf := HFIN.out _ (put_endB HWQ.out HIL.out hBg1 hgne hnn1 hm1 HZ1.out HT1.out HG2.out HAT.out HH1.out HGO2.out); exact ⟨⟨i + 1, _, by rw [← HIJ.out, wrap_i (by have := HII.out; have := HLW.out; omega)], HII.out, HREAD.out, hf.1, hf.2.1, hf.2.2⟩, by rw [← HIJ.out, wrap_i (by have := HII.out; have := HLW.out; omega)]; have := HII.out; simp [idx]; try omega⟩)
        | false =>
          have H41 : Aside0 (¬ t = [41]) := ⟨by have := h41; rw [HTL.out] at this; simpa using this⟩
          cases hn : decide (400 < (st.length : Int)) with
          | true =>
            have HN := Aside0.mk (of_decide_eq_true hn)
            go_wp2_with fail
            refine bodyPost_ret (results_tmp2 rfl _ _ _) rfl ?_
            refine FIN.out 3 ?_
            unfold stepR
            rw [if_neg H40.out, if_neg H41.out, if_neg (by have := HN.out; omega)]
          | false =>
            have HN := Aside0.mk (of_decide_eq_false hn)
            obtain ⟨us, ok, hown, hrows⟩ := HQ.out
            have hl := hrows.length
            rw [List.length_map] at hl
            obtain ⟨x, st', rfl⟩ : ∃ x st', st = x :: st' := by
              have h1 := readToks_ne HST.out (by simp)
              match st, h1 with
              | x :: st', _ => exact ⟨x, st', rfl⟩
            obtain ⟨u, us', rfl⟩ : ∃ u us', us = u :: us' := by
              match us, hl with
              | u :: us', _ => exact ⟨u, us', rfl⟩
            obtain ⟨n, hn1⟩ : ∃ n, st'.length = n := ⟨_, rfl⟩
            have hn3 : (x :: st').length = n + 1 := by simp [hn1]
            have HN1 := Aside0.mk hn1
            rw [hn3] at hn hown ⊢
            have hn2 : decide (400 < (n : Int) + 1) = false := by simpa using hn
            obtain ⟨hl2, hv⟩ := hown
            obtain ⟨go, cap, cur, hA, hBg, hgo, hcn, hcm, hcs, htake⟩ := hv.resolve_left (by omega)
            injection hA with hA _ hcap
            subst hA hcap
            obtain ⟨ok1, ok2, k1, k2, ⟨hu, inner, hoi, hri⟩, h4⟩ := hrows
            have hlu : us'.length = n := by simpa [hn1] using hl
            have hcu : cur[n]? = some u := by
              have h5 : (cur.toList.take ((n + 1) * 1))[n]? = some u := by rw [htake]; simp [← hlu]
              rwa [List.getElem?_take_of_lt (by omega), Array.getElem?_toList] at h5
            have hneu : some go ≠ u.ownBlock := own_ne hoi hgo (by decide)
            obtain ⟨m, hm⟩ : ∃ m, (tuL x).length = m := ⟨_, rfl⟩
            rw [hm] at hoi
            obtain ⟨Au, cu, rfl⟩ := own_slice hoi
            have hil := hoi.1
            have HU := Aside0.mk hu
            have HRI := Aside0.mk hri
            have H4 := Aside0.mk h4
            have HK1 := Aside0.mk k1
            have HK2 := Aside0.mk k2
            have HGO := Aside0.mk hgo
            have HCS := Aside0.mk hcs
            have HTK := Aside0.mk htake
            have HLU := Aside0.mk hlu
            have HCU := Aside0.mk hcu
            have HNEU := Aside0.mk hneu
            have HM := Aside0.mk hm
            have HOI := Aside0.mk hoi
            have HIL := Aside0.mk hil
            have hgoS : go < wr.heap.size := (Array.getElem?_eq_some_iff.1 hgo).1
            have HC0 : Aside0 (∀ o, (wr.alloc o).drew.cell? ⟨go, n, none⟩ = some (.slice Au m cu)) := ⟨fun o => by
              have : (wr.alloc o).heap[go]? = some (.cells cur 27 (0, 0)) := (Below.heap_alloc _ _ _ hgoS).trans hgo
              exact cell_blk (W := (wr.alloc o).drew) this n _ hcu⟩
            have HF0 : Aside0 (∀ o, (wr.alloc o).drew.frozen? ⟨go, n, none⟩ = false) := ⟨fun o => by
              have : (wr.alloc o).heap[go]? = some (.cells cur 27 (0, 0)) := (Below.heap_alloc _ _ _ hgoS).trans hgo
              exact frozen_blk (W := (wr.alloc o).drew) this n⟩
            have HX0 : Aside0 (∀ o, (wr.alloc o).drew.cell? ⟨g, ii.toNat, none⟩ = some (.string (tokB t))) := ⟨fun o => by
              have hgl : g < wr.heap.size := by
                obtain ⟨c, hc⟩ := Kd.R_typed HV.out g rfl
                exact size_of ((HWK.out g rfl).trans hc)
              exact (World.cell?_of_block (w := wr) (w' := (wr.alloc o).drew) (a := ⟨g, ii.toNat, none⟩) (Below.heap_alloc _ _ _ hgl)).trans hx⟩
            have HGS := Aside0.mk hgoS
            have HMM : Aside0 (m ≤ 1000000) := ⟨by rw [← hm, tuL_length]; exact row_le HST.out HLW.out⟩
            have hnn : n < 400 := by have := HN.out; rw [hn3] at this; omega
            have hlt1 : (n : Int) < (n : Int) + 1 := by omega
            have hwn : IntKind.i64.wrap (n : Int) = n := IntWalk.i64_in _ (by omega)
            have hn0 : (0 : Int) ≤ n := by omega
            have HFIN : Aside0 (∀ W', PutPost W.heap.size go n m cur (.slice Au m cu) inner (.string (tokB t)) (.slice none 0 0) wr.drew W' → RowsQ W.heap.size W' (.slice (some ⟨go, 0, none⟩) (n + 1) c5) ((x ++ [⟨⟨t.toArray⟩, []⟩]) :: st') ∧ (∀ k, (Value.slice (some ⟨g, 0, none⟩) (toks s.data.toList).length c0).ownBlock = some k → W'.heap[k]? = w1.heap[k]?) ∧ Below W.heap.size W W') := ⟨fun W' hpost =>
              put_round (okp := fun _ => False) HN1.out HM.out HLU.out hBg HGO.out hcn hcm HCS.out HTK.out HK1.out HK2.out HU.out HRI.out H4.out HOI.out (M44_word wr _ _ t) (fun _ h => h.elim) HV.out HWK.out HBW.out HBW.out.size hpost⟩
            have HREAD : Aside0 (readToks [[]] ((toks s.data.toList).take (i + 1)) = .ok ((x ++ [⟨⟨t.toArray⟩, []⟩]) :: st')) := ⟨by
              rw [HRD.out]
              unfold stepR
              rw [if_neg H40.out, if_neg H41.out, if_pos (by have := HN.out; omega)]⟩
            have HTYP : Aside0 (∃ c, wr.heap[g]? = some (.cells c 9 (0, 0))) := ⟨by obtain ⟨c, hc⟩ := Kd.R_typed HV.out g rfl; exact ⟨c, (HWK.out g rfl).trans hc⟩⟩
            have hggo : g ≠ go := by rintro rfl; obtain ⟨c, hc⟩ := HTYP.out; rw [HGO.out] at hc; injection hc with hc; injection hc with _ hc; cases hc
            have hgog : go ≠ g := Ne.symm hggo
            have HGU : Aside0 (some g ≠ (Value.slice Au m cu).ownBlock) := ⟨by obtain ⟨c, hc⟩ := HTYP.out; exact own_ne HOI.out hc (by decide)⟩
            clear hu hri h4 k1 k2 hgo hcs htake hlu hcu hneu hm hoi hil hl hl2 hv hn1 hn3
            go_wp2_with fail
            go_region
            all_goals go_wp2_with fail
            · obtain ⟨Wq, hWq⟩ : ∃ Wq, (wr.alloc (Obj.cells #[Value.bool false] 4)).drew = Wq := ⟨_, rfl⟩
              have hcq : Wq.cell? ⟨go, n, none⟩ = some (.slice Au m cu) := by rw [← hWq]; exact HC0.out _
              have hfq : Wq.frozen? ⟨go, n, none⟩ = false := by rw [← hWq]; exact HF0.out _
              have hxq : Wq.cell? ⟨g, ii.toNat, none⟩ = some (.string (tokB t)) := by rw [← hWq]; exact HX0.out _
              have HGQ : Aside0 (Wq.heap[go]? = some (.cells cur 27 (0, 0))) := ⟨by rw [← hWq]; exact (Below.heap_alloc _ _ _ HGS.out).trans HGO.out⟩
              have HO1 : Aside0 (Wq.drew.ownsRow W.heap.size 44 2 (.slice Au m cu) m inner) := ⟨by rw [← hWq]; exact ((HOI.out.alloc _).drew).drew⟩
              have HB1 : Aside0 (Below W.heap.size W Wq.drew) := ⟨by rw [← hWq]; exact ((HBW.out.alloc HBW.out.size _).drew).drew⟩
              have HS1 : Aside0 (W.heap.size ≤ Wq.drew.heap.size) := ⟨HB1.out.size⟩
              have hcqa : (Wq.alloc (Obj.cells #[Value.string (tokB t), Value.slice none 0 0] 44)).cell? ⟨go, n, none⟩ = some (.slice Au m cu) := cell_blk ((Below.heap_alloc _ _ _ (size_of HGQ.out)).trans HGQ.out) n _ HCU.out
              rw [hWq]
              have HWQ : Aside0 (wr.drew.alloc (Obj.cells #[Value.bool false] 4) = Wq) := ⟨hWq⟩
              clear hWq
              go_region_law ((refine step_append_cells (w0 := W) (W := Wq.drew) W.heap.size rfl (.tmp 50) (.tmp 56) 27 44 (.agg #[.string ⟨#[]⟩, .slice none 0 0]) 2 40 rfl Tryd.underlying27 PLines.info44 rfl (by decide) (by decide) (.slice Au m cu) m inner [.string (tokB t), .slice none 0 0] rfl rfl rfl (by simp [Value.oneCell']) HO1.out HB1.out HS1.out (by have := HMM.out; omega) ?_); (intro v1 w2 hown1 hb1 hg1 hat1); (obtain ⟨A1, cap1, rfl⟩ := own_slice hown1); (have HE := Aside0.mk (put_one (W := wr.drew) (n := n) HWQ.out HGQ.out HNEU.out hown1 hg1 hat1)); (obtain ⟨q1, q2⟩ := one_cells (go := go) (n := n) HGQ.out HCU.out HNEU.out hg1); (clear hown1 hb1 hg1 hat1))
              all_goals go_wp2_with fail
              all_goals (have hf := HFIN.out _ HE.out; exact ⟨⟨i + 1, _, by rw [← HIJ.out, wrap_i (by have := HII.out; have := HLW.out; omega)], HII.out, HREAD.out, hf.1, hf.2.1, hf.2.2⟩, by rw [← HIJ.out, wrap_i (by have := HII.out; have := HLW.out; omega)]; have := HII.out; simp [idx]; try omega⟩)
            · obtain ⟨Wq, hWq⟩ : ∃ Wq, (wr.alloc (Obj.cells #[Value.bool true] 4)).drew = Wq := ⟨_, rfl⟩
              have hcq : Wq.cell? ⟨go, n, none⟩ = some (.slice Au m cu) := by rw [← hWq]; exact HC0.out _
              have hfq : Wq.frozen? ⟨go, n, none⟩ = false := by rw [← hWq]; exact HF0.out _
              have hxq : Wq.cell? ⟨g, ii.toNat, none⟩ = some (.string (tokB t)) := by rw [← hWq]; exact HX0.out _
              have HGQ : Aside0 (Wq.heap[go]? = some (.cells cur 27 (0, 0))) := ⟨by rw [← hWq]; exact (Below.heap_alloc _ _ _ HGS.out).trans HGO.out⟩
              have HTQ : Aside0 (∃ c, Wq.heap[g]? = some (.cells c 9 (0, 0))) := ⟨by rw [← hWq]; obtain ⟨c, hc⟩ := HTYP.out; exact ⟨c, (Below.heap_alloc _ _ _ (size_of hc)).trans hc⟩⟩
              have HO1 : Aside0 (Wq.drew.ownsRow W.heap.size 44 2 (.slice Au m cu) m inner) := ⟨by rw [← hWq]; exact ((HOI.out.alloc _).drew).drew⟩
              have HB1 : Aside0 (Below W.heap.size W Wq.drew) := ⟨by rw [← hWq]; exact ((HBW.out.alloc HBW.out.size _).drew).drew⟩
              have HS1 : Aside0 (W.heap.size ≤ Wq.drew.heap.size) := ⟨HB1.out.size⟩
              have hcqa : (Wq.alloc (Obj.cells #[Value.string ⟨#[]⟩, Value.slice none 0 0] 44)).cell? ⟨go, n, none⟩ = some (.slice Au m cu) := cell_blk ((Below.heap_alloc _ _ _ (size_of HGQ.out)).trans HGQ.out) n _ HCU.out
              have hxqa : (Wq.alloc (Obj.cells #[Value.string ⟨#[]⟩, Value.slice none 0 0] 44)).cell? ⟨g, ii.toNat, none⟩ = some (.string (tokB t)) := by obtain ⟨c, hc⟩ := HTQ.out; exact (World.cell?_of_block (w := Wq) (a := ⟨g, ii.toNat, none⟩) (Below.heap_alloc _ _ _ (size_of hc))).trans hxq
              have HXW : Aside0 (∀ w2, Wq.drew.grownBy w2 (Value.slice Au m cu).ownBlock → w2.cell? ⟨g, ii.toNat, none⟩ = some (.string (tokB t))) := ⟨fun w2 hg2 => by obtain ⟨c, hc⟩ := HTQ.out; exact (World.cell?_of_block (w := Wq) (a := ⟨g, ii.toNat, none⟩) (hg2.block g (size_of hc) HGU.out)).trans hxq⟩
              rw [hWq]
              have HWQ : Aside0 (wr.drew.alloc (Obj.cells #[Value.bool true] 4) = Wq) := ⟨hWq⟩
              clear hWq
              go_region_law ((refine step_append_cells (w0 := W) (W := Wq.drew) W.heap.size rfl (.tmp 32) (.tmp 39) 27 44 (.agg #[.string ⟨#[]⟩, .slice none 0 0]) 2 40 rfl Tryd.underlying27 PLines.info44 rfl (by decide) (by decide) (.slice Au m cu) m inner [.string ⟨#[]⟩, .slice none 0 0] rfl rfl rfl (by simp [Value.oneCell']) HO1.out HB1.out HS1.out (by have := HMM.out; omega) ?_); (intro v1 w2 hown1 hb1 hg1 hat1); (have hxw := HXW.out w2 hg1); (obtain ⟨g1, cap1, cur1, rfl, hBg1, hgne, hh1, hnn1, hm1, hz1, ht1, hgo2, hat2, q0, q1, q2, q3, q4, q5⟩ := put_mid (go := go) (n := n) (by exact HGQ.out) HCU.out HNEU.out HIL.out hown1 hg1 hat1); (have hgne' := Ne.symm hgne); (have HG2 := Aside0.mk hg1); (have HH1 := Aside0.mk hh1); (have HZ1 := Aside0.mk hz1); (have HT1 := Aside0.mk ht1); (have HGO2 := Aside0.mk hgo2); (have HAT := Aside0.mk hat2); (clear hown1 hb1 hg1 hat1 hh1 hz1 ht1 hgo2 hat2); (unfold maxLen at hm1); (have hlt2 : (m : Int) < (m : Int) + 1 := by omega))
              all_goals go_wp2_with fail
              all_goals (have hf := HFIN.out _ (put_endB HWQ.out HIL.out hBg1 hgne hnn1 hm1 HZ1.out HT1.out HG2.out HAT.out HH1.out HGO2.out); exact ⟨⟨i + 1, _, by rw [← HIJ.out, wrap_i (by have := HII.out; have := HLW.out; omega)], HII.out, HREAD.out, hf.1, hf.2.1, hf.2.2⟩, by rw [← HIJ.out, wrap_i (by have := HII.out; have := HLW.out; omega)]; have := HII.out; simp [idx]; try omega⟩)
    · have hi0 : decide ((i : Int) < ((toks s.data.toList).length : Int)) = false := by simp; omega
      have hall : readToks [[]] (toks s.data.toList) = .ok st := by
        have := HST.out
        rwa [List.take_of_length_le (by omega)] at this
      cases h1 : decide (1 < (st.length : Int)) with
      | true =>
        have H1 := Aside0.mk (of_decide_eq_true h1)
        have hro : readOut s = .error 4 := by
          unfold readOut
          rw [if_pos HS.out, hall]
          match st, H1.out with
          | [], h => simp at h
          | [_], h => simp at h
          | _ :: _ :: _, _ => rfl
        have HRO := Aside0.mk hro
        clear hro hall
        go_wp2_with fail
        refine bodyPost_ret (results_tmp2 rfl _ _ _) rfl ?_
        refine ⟨.slice none 0 0, by rw [show readE s = 4 by unfold readE; rw [HRO.out]]; rfl, ?_, HBW.out⟩
        rw [show readF s = [] by unfold readF; rw [HRO.out]]
        exact Kd.R_nil _ _ _ _ _
      | false =>
        have H1 := Aside0.mk (of_decide_eq_false h1)
        have hne := readToks_ne hall (by simp)
        obtain ⟨x, rfl⟩ : ∃ x, st = [x] := by
          match st, hne, H1.out with
          | [x], _, _ => exact ⟨x, rfl⟩
          | _ :: _ :: _, _, h => exfalso; simp at h; omega
        have hro : readOut s = .ok x := by
          unfold readOut
          rw [if_pos HS.out, hall]
        have HRO := Aside0.mk hro
        obtain ⟨us, ok, hown, hrows⟩ := HQ.out
        obtain ⟨u, rfl, ok1, hu⟩ : ∃ u, us = [u] ∧ ∃ ok1, k44.R 44 wr W.heap.size ok1 u (tuL x) := by
          match us, hrows with
          | [u], ⟨ok1, _, _, _, h, _⟩ => exact ⟨u, rfl, ok1, h⟩
          | _ :: _ :: _, ⟨_, _, _, _, _, h⟩ => exact h.elim
        obtain ⟨g, cap, hA⟩ : ∃ g cap, Value.slice A5 [x].length c5 = .slice (some ⟨g, 0, none⟩) [x].length cap := by
          rcases hown.2 with ⟨_, h⟩ | ⟨g, cap, _, h, _⟩
          · simp at h
          · exact ⟨g, cap, h⟩
        injection hA with hA _ hcap
        subst hA hcap
        have hg : wr.cell? ⟨g, 0, none⟩ = some u := hown.cells rfl 0 u rfl
        have HU := Aside0.mk hu
        clear hown hrows hu hro hne hall
        go_wp2_with fail
        refine bodyPost_ret (results_tmp2 rfl _ _ _) rfl ?_
        refine ⟨u, by rw [show readE s = 0 by unfold readE; rw [HRO.out]]; rfl, ?_, HBW.out⟩
        rw [show readF s = x by unfold readF; rw [HRO.out]]
        exact Kd.R_mono HU.out (fun _ _ => trivial)
end Go.Proofs.YtmjnodjjnjckiaaDoor.Q44

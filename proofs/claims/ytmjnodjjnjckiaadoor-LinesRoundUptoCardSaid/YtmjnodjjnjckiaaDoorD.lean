/- package lines: (*reader).word. -/
import Derived.Test.YtmjnodjjnjckiaaDoorC
import Derived.OwnWalk
namespace Go.Proofs.YtmjnodjjnjckiaaDoor
open Go.RowKit Go.Shelf Go.Proofs.YtmjnodjjnjckiaaDoorW.PrintWords PLines

theorem info23 : (Tryd.prog.info? 23).map (fun i => (i.zero, i.size, i.bytes)) = some (some (.slice none 0 0), 1, 24) := by kernel_rfl

/-- What a word leaves alone: whatever is no row of the reader's, nor the reader. -/
def Keep (B Br : Nat) (W W' : World) : Prop :=
  Below 0 W W' ∧ ∀ k, k < W.heap.size → k ≠ Br → (∀ c e, (e = 23 ∨ e = 41) → B ≤ k → W.heap[k]? ≠ some (.cells c e (0, 0))) → W'.heap[k]? = W.heap[k]?
theorem Keep.refl (B Br : Nat) (W : World) : Keep B Br W W := ⟨Below.refl _ _, fun _ _ _ _ => rfl⟩

theorem cell_blk {W : World} {b t : Nat} {cs : Array Value} (h : W.heap[b]? = some (.cells cs t (0, 0))) (j : Nat) (v : Value) (hj : cs[j]? = some v) : W.cell? ⟨b, j, none⟩ = some v := by
  simp [World.cell?, h, hj]
theorem frozen_blk {W : World} {b t : Nat} {cs : Array Value} (h : W.heap[b]? = some (.cells cs t (0, 0))) (j : Nat) : W.frozen? ⟨b, j, none⟩ = false := by
  simp [World.frozen?, h]

theorem own_ne {W : World} {B e sz n Br t : Nat} {v : Value} {xs : List Value} {cs : Array Value} (h : W.ownsRow B e sz v n xs) (hr : W.heap[Br]? = some (.cells cs t (0, 0))) (hne : e ≠ t) : some Br ≠ v.ownBlock := by
  intro hk
  obtain ⟨c, hc⟩ := own_typed h Br hk.symm
  rw [hr] at hc; injection hc with hc; injection hc with _ hc; exact hne hc.symm
/-- Behind an append to a reader's rows: where the reader lies. -/
theorem open_mid {B Br : Nat} {L : List Value} {v1 v x : Value} {W w1 : World} (hr : W.heap[Br]? = some (.cells #[v] 60 (0, 0))) (hown : W.ownsRow B 23 1 v L.length L)
    (hown1 : w1.ownsRow B 23 1 v1 (L ++ [x]).length (L ++ [x])) (hg1 : W.grownBy w1 v.ownBlock) :
    ∃ A1 c1, v1 = .slice A1 (L.length + 1) c1 ∧ w1.heap[Br]? = some (.cells #[v] 60 (0, 0)) ∧ w1.cell? ⟨Br, 0, none⟩ = some v ∧ w1.frozen? ⟨Br, 0, none⟩ = false := by
  obtain ⟨A1, c1, rfl⟩ := own_slice hown1
  have hb : w1.heap[Br]? = some (.cells #[v] 60 (0, 0)) := (hg1.block Br (Array.getElem?_eq_some_iff.1 hr).1 (own_ne hown hr (by decide))).trans hr
  exact ⟨A1, c1, by simp, hb, cell_blk hb 0 _ rfl, frozen_blk hb 0⟩

theorem open_end {B Br : Nat} {st : List (List S41)} {us L : List Value} {ok : Nat → Prop} {v1 v : Value} {W w1 : World} (hBr : B ≤ Br) (hL : us.reverse = L) (hLL : L.length = st.length)
    (hr : W.heap[Br]? = some (.cells #[v] 60 (0, 0))) (hown : W.ownsRow B 23 1 v L.length L) (hrows : RowsAt B W ok us st)
    (hown1 : w1.ownsRow B 23 1 v1 (L ++ [Value.slice none 0 0]).length (L ++ [Value.slice none 0 0])) (hg1 : W.grownBy w1 v.ownBlock) (hb1 : Below B W w1) :
    ReaderAt B Br (w1.setCell ⟨Br, 0, none⟩ v1) ([] :: st) ∧ Keep B Br W (w1.setCell ⟨Br, 0, none⟩ v1) := by
  have hbr : w1.heap[Br]? = some (.cells #[v] 60 (0, 0)) := (hg1.block Br (Array.getElem?_eq_some_iff.1 hr).1 (own_ne hown hr (by decide))).trans hr
  constructor
  · refine ⟨hBr, v1, .slice none 0 0 :: us, ok, blk_set hbr 0 v1, ?_, fun _ => False, ok, fun _ h => h.elim, fun _ h => h, Kd.R_nil _ _ _ _ _, ?_⟩
    · rw [List.reverse_cons, hL]
      have := own_setCell hown1 (p := ⟨Br, 0, none⟩) (own_ne hown1 hbr (by decide)) v1
      simpa [hLL] using this
    · refine hrows.step fun k _ hk => ?_
      obtain ⟨hk1, c, hc⟩ := hk
      have hne : k ≠ Br := by rintro rfl; rw [hr] at hc; injection hc with hc; injection hc with _ hc; cases hc
      rw [Below.heap_setCell _ _ _ _ hne]
      exact hg1.block k hk1 (own_ne hown hc (by decide))
  · refine ⟨?_, ?_⟩
    · exact (hb1.mono (Nat.zero_le _)).setCell (Nat.zero_le _) _
    · intro k hk hkb hno
      rw [Below.heap_setCell _ _ _ _ hkb]
      refine hg1.block k hk fun e => ?_
      obtain ⟨c, hc⟩ := own_typed hown k e.symm
      exact hno c 23 (.inl rfl) (own_base hown k e.symm) hc

set_option maxHeartbeats 4000000 in
set_option maxRecDepth 100000 in
theorem word_open (B Br : Nat) (st : List (List S41)) (W : World) (h : ReaderAt B Br W st) (hn : st.length ≤ 400) (hB : B ≤ W.heap.size) :
    Calls Tryd.prog 30 #[.pointer (some ⟨Br, 0, none⟩), .string ⟨#[40]⟩] W fun e w' => e = .returned (.tuple #[]) ∧ ReaderAt B Br w' ([] :: st) ∧ Keep B Br W w' := by
  obtain ⟨hBr, v, us, ok, hr, hown, hrows⟩ := h
  have hl := hrows.length
  obtain ⟨L, hL⟩ : ∃ L, us.reverse = L := ⟨_, rfl⟩
  have hLl : L.length = st.length := by rw [← hL]; simp [hl]
  rw [hL, ← hLl] at hown
  obtain ⟨A, cap, rfl⟩ := own_slice hown
  have hc : W.cell? ⟨Br, 0, none⟩ = some (.slice A L.length cap) := cell_blk hr 0 _ rfl
  have hf : W.frozen? ⟨Br, 0, none⟩ = false := frozen_blk hr 0
  have hb0 : decide ((L.length : Int) ≤ 400) = true := by simp; omega
  have HL := Aside0.mk hL
  have HLL := Aside0.mk hLl
  have HR := Aside0.mk hr
  have HO := Aside0.mk hown
  have HB := Aside0.mk hB
  have HRO := Aside0.mk hrows
  clear hr hown hL hLl hl hrows
  go_enter Tryd.func30, Tryd.ntmps30
  go_wp2_with (first | (go_at_call 28; refine (must_ok _ _).mono ?_; rintro e w' ⟨rfl, rfl⟩) | (at_builtin; refine print_append (w0 := W) (W := W) B rfl (.tmp 34) (.tmp 35) 58 23 (.slice none 0 0) 24 rfl Tryd.underlying58 info23 rfl (by decide) (.slice A L.length cap) L (.slice none 0 0) rfl rfl rfl HO.out (Below.refl B W) HB.out (by have := HLL.out; omega) ?_; intro v1 w1 hown1 hb1 hg1 hat1; obtain ⟨A1, c1, rfl, hr1, hc1, hf1⟩ := open_mid HR.out HO.out hown1 hg1; have HE := Aside0.mk (open_end hBr HL.out HLL.out HR.out HO.out HRO.out hown1 hg1 hb1); clear hown1 hb1 hg1 hat1 hr1))
  go_end0
  exact ⟨rfl, HE.out⟩
set_option maxHeartbeats 4000000 in
set_option maxRecDepth 100000 in
theorem word_open_no (B Br : Nat) (st : List (List S41)) (W : World) (h : ReaderAt B Br W st) (hn : 400 < st.length) :
    Calls Tryd.prog 30 #[.pointer (some ⟨Br, 0, none⟩), .string ⟨#[40]⟩] W fun e w' => e = .panicked (thrown 3) ∧ W = w' := by
  obtain ⟨hBr, v, us, ok, hr, hown, hrows⟩ := h
  obtain ⟨A, cap, rfl⟩ := own_slice hown
  have hc : W.cell? ⟨Br, 0, none⟩ = some (.slice A st.length cap) := cell_blk hr 0 _ rfl
  have hb0 : decide ((st.length : Int) ≤ 400) = false := by simp; omega
  clear hr hown hrows
  go_enter Tryd.func30, Tryd.ntmps30
  go_wp2_with (first | (go_at_call 28; refine (must_no _ _).mono ?_; rintro e w' ⟨rfl, rfl⟩))
  exact ⟨rfl, rfl, rfl⟩

/-- put, at a reader: the last row has one tree more. -/
theorem put_reader (B Br : Nat) (v u : Value) (us : List Value) (ok okp : Nat → Prop) (x : List S41) (st : List (List S41)) (wd : ByteArray) (Ax : Option Addr) (nx cx : Nat) (p : S41) (W : World)
    (hBr : B ≤ Br) (hr : W.heap[Br]? = some (.cells #[v] 60 (0, 0))) (hown : W.ownsRow B 23 1 v (st.length + 1) (us.reverse ++ [u])) (hrows : RowsAt B W ok (u :: us) (x :: st))
    (hp : k41.M W B okp p [.string wd, .slice Ax nx cx]) (hdis : ∀ k, okp k → ¬ ok k) (hB : B ≤ W.heap.size) (hm : x.length ≤ 1000000000000) :
    Calls Tryd.prog 53 #[v, .agg #[.string wd, .slice Ax nx cx]] W fun e w' => e = .returned (.tuple #[]) ∧ ReaderAt B Br w' ((x ++ [p]) :: st) ∧ Keep B Br W w' := by
  have hl : us.length = st.length := by simpa using hrows.length
  obtain ⟨hl2, hv⟩ := hown
  obtain ⟨go, cap, cur, rfl, hBg, hgo, hn, hcm, hcs, htake⟩ := hv.resolve_left (by omega)
  obtain ⟨ok1, ok2, h1, h2, ⟨hu, inner, hoi, hri⟩, h4⟩ := hrows
  have hcur : ∀ j, j < st.length + 1 → cur[j]? = (us.reverse ++ [u])[j]? := fun j hj => by
    rw [← htake, List.getElem?_take_of_lt (by omega), Array.getElem?_toList]
  have hcu : cur[st.length]? = some u := by
    rw [hcur _ (by omega), List.getElem?_append_right (by simp [hl])]; simp [hl]
  have hneu : some go ≠ u.ownBlock := own_ne hoi hgo (by decide)
  refine (put_cells B go st.length cap x.length cur u inner wd Ax nx cx W hgo hcu hn hcm hoi hneu hB hm).mono ?_
  rintro e W' ⟨rfl, hpost⟩
  refine ⟨rfl, ?_, ?_⟩
  · obtain ⟨v1, hR, hgo'⟩ := R41_put (p := p) (okp := okp) ⟨_, hgo⟩ hu hri hp (fun k hk h => hdis k hk (h1 k h).1) hpost
    obtain ⟨_, _, _, hkeep, _, _, _⟩ := hpost
    refine ⟨hBr, .slice (some ⟨go, 0, none⟩) (st.length + 1) cap, v1 :: us, fun _ => True, ?_, ?_, ?_⟩
    · refine (hkeep Br (Array.getElem?_eq_some_iff.1 hr).1 ?_ (own_ne hoi hr (by decide))).trans hr
      rintro rfl; rw [hr] at hgo; injection hgo with hgo; injection hgo with _ hgo; cases hgo
    · refine ⟨by simp [hl], .inr ⟨go, cap, _, rfl, hBg, hgo', by simpa using hn, hcm, by simp [hcs], ?_⟩⟩
      rw [Array.toList_setIfInBounds, List.reverse_cons]
      apply List.ext_getElem?
      intro j
      rw [List.getElem?_take]
      have hsz : cur.toList.length = cap := by simpa using hcs
      split
      · rename_i hj
        simp at hj
        rw [List.getElem?_set]
        by_cases h0 : st.length = j
        · rw [if_pos h0, if_pos (by omega), List.getElem?_append_right (by simp [hl]; omega)]; simp [hl, h0]
        · rw [if_neg h0, Array.getElem?_toList, hcur j (by omega), List.getElem?_append_left (by simp [hl]; omega), List.getElem?_append_left (by simp [hl]; omega)]
      · rename_i hj
        simp at hj
        rw [List.getElem?_eq_none]; simp [hl]; omega
    · refine ⟨fun k => ok1 k ∨ okp k ∨ W.heap.size ≤ k, fun k => ok2 k ∧ Blk41 W k, fun k hk => ⟨trivial, fun h => ?_⟩, fun _ _ => trivial, hR, ?_⟩
      · rcases hk with hk | hk | hk
        · exact (h1 k hk).2 h.1
        · exact hdis k hk (h2 k h.1)
        · have := h.2.1; omega
      · refine h4.bound.move fun k hk => hkeep k hk.2.1 ?_ ?_
        · rintro rfl; obtain ⟨c, hc⟩ := hk.2.2; rw [hgo] at hc; injection hc with hc; injection hc with _ hc; cases hc
        · intro e; exact (h1 k (hu k e.symm)).2 hk.1
  · obtain ⟨_, _, _, hkeep, _, _, hb⟩ := hpost
    refine ⟨hb, fun k hk _ hno => hkeep k hk ?_ ?_⟩
    · rintro rfl; exact hno _ 23 (.inl rfl) hBg hgo
    · intro e
      obtain ⟨c, hc⟩ := own_typed hoi k e.symm
      exact hno c 41 (.inr rfl) (own_base hoi k e.symm) hc
end Go.Proofs.YtmjnodjjnjckiaaDoor

/- The rows of trees that a reader holds: each in memory of its own. No walk. -/
import Derived.Test.YtmjnodjjnjckiaaDoorB
import Derived.OwnWalk
namespace Go.Proofs.YtmjnodjjnjckiaaDoor
open Go.RowKit Go.Shelf Go.Proofs.YtmjnodjjnjckiaaDoorW.PrintWords PLines

/-- Rows, the last one first; no block is two rows'. -/
def RowsAt (B : Nat) (W : World) : (Nat → Prop) → List Value → List (List S41) → Prop
  | _, [], [] => True
  | ok, u :: us, x :: xs => ∃ ok1 ok2 : Nat → Prop, (∀ k, ok1 k → ok k ∧ ¬ ok2 k) ∧ (∀ k, ok2 k → ok k) ∧ k41.R 41 W B ok1 u x ∧ RowsAt B W ok2 us xs
  | _, _, _ => False

/-- A block of a row of trees. -/
def Blk41 (W : World) (k : Nat) : Prop := k < W.heap.size ∧ ∃ cells, W.heap[k]? = some (.cells cells 41 (0, 0))

theorem RowsAt.mono {B : Nat} {W : World} : ∀ {ok ok' : Nat → Prop} {us : List Value} {xs : List (List S41)}, (∀ k, ok k → ok' k) → RowsAt B W ok us xs → RowsAt B W ok' us xs
  | _, _, [], [], _, _ => trivial
  | _, _, _ :: _, _ :: _, h, ⟨ok1, ok2, h1, h2, h3, h4⟩ => ⟨ok1, ok2, fun k hk => ⟨h k (h1 k hk).1, (h1 k hk).2⟩, fun k hk => h k (h2 k hk), h3, h4⟩
  | _, _, [], _ :: _, _, h => h
  | _, _, _ :: _, [], _, h => h
theorem RowsAt.length {B : Nat} {W : World} : ∀ {ok : Nat → Prop} {us : List Value} {xs : List (List S41)}, RowsAt B W ok us xs → us.length = xs.length
  | _, [], [], _ => rfl
  | _, _ :: _, _ :: _, ⟨_, _, _, _, _, h4⟩ => by simp [RowsAt.length h4]
  | _, [], _ :: _, h => h.elim
  | _, _ :: _, [], h => h.elim
theorem R41_bound {B : Nat} {W : World} {ok : Nat → Prop} {u : Value} {x : List S41} (h : k41.R 41 W B ok u x) : k41.R 41 W B (fun k => ok k ∧ Blk41 W k) u x := by
  refine Kd.R_mono (Kd.R_bound h) fun k hk => ⟨hk.1, hk.2.2.1, ?_⟩
  obtain ⟨q, hq, cells, hc⟩ := hk.2.2.2
  have : q = 41 := by
    have hE : ∀ q, q ∈ (41 :: k41.E) → q = 41 := by intro q hq; simp [k41, Kd.fix] at hq; exact hq
    exact hE q hq
  subst this
  exact ⟨cells, hc⟩
theorem M41_bound {B : Nat} {W : World} {ok : Nat → Prop} {p : S41} {cs : List Value} (h : k41.M W B ok p cs) : k41.M W B (fun k => ok k ∧ Blk41 W k) p cs := by
  refine k41.M_mono (fun k hk => ⟨hk.1, hk.2.2.1, ?_⟩) (k41.M_bound h)
  obtain ⟨q, hq, cells, hc⟩ := hk.2.2.2
  have : q = 41 := by
    have hE : ∀ q, q ∈ k41.E → q = 41 := by intro q hq; simp [k41, Kd.fix] at hq; exact hq
    exact hE q hq
  subst this
  exact ⟨cells, hc⟩
theorem RowsAt.bound {B : Nat} {W : World} : ∀ {ok : Nat → Prop} {us : List Value} {xs : List (List S41)}, RowsAt B W ok us xs → RowsAt B W (fun k => ok k ∧ Blk41 W k) us xs
  | _, [], [], _ => trivial
  | _, _ :: _, _ :: _, ⟨ok1, ok2, h1, h2, h3, h4⟩ => ⟨fun k => ok1 k ∧ Blk41 W k, fun k => ok2 k ∧ Blk41 W k, fun k hk => ⟨⟨(h1 k hk.1).1, hk.2⟩, fun h => (h1 k hk.1).2 h.1⟩, fun k hk => ⟨h2 k hk.1, hk.2⟩, R41_bound h3, h4.bound⟩
  | _, [], _ :: _, h => h.elim
  | _, _ :: _, [], h => h.elim
theorem RowsAt.move {B : Nat} {W W' : World} : ∀ {ok : Nat → Prop} {us : List Value} {xs : List (List S41)}, RowsAt B W ok us xs → (∀ k, ok k → W'.heap[k]? = W.heap[k]?) → RowsAt B W' ok us xs
  | _, [], [], _, _ => trivial
  | _, _ :: _, _ :: _, ⟨ok1, ok2, h1, h2, h3, h4⟩, hm => ⟨ok1, ok2, h1, h2, Kd.R_move h3 (fun k hk => hm k (h1 k hk).1), h4.move (fun k hk => hm k (h2 k hk))⟩
  | _, [], _ :: _, h, _ => h.elim
  | _, _ :: _, [], h, _ => h.elim
/-- Blocks of rows of trees lie as they lay: so do the rows. -/
theorem RowsAt.step {B : Nat} {W W' : World} {ok : Nat → Prop} {us : List Value} {xs : List (List S41)} (h : RowsAt B W ok us xs) (hm : ∀ k, ok k → Blk41 W k → W'.heap[k]? = W.heap[k]?) : RowsAt B W' ok us xs :=
  (h.bound.move (fun k hk => hm k hk.1 hk.2)).mono (fun _ hk => hk.1)

/-- A row grows by a tree. -/
theorem R41_put {B go n : Nat} {curo : Array Value} {u : Value} {x : List S41} {inner : List Value} {s kv : Value} {p : S41} {ok1 okp : Nat → Prop} {W W' : World}
    (hgo : ∃ cells, W.heap[go]? = some (.cells cells 23 (0, 0)))
    (hu : ∀ k, u.ownBlock = some k → ok1 k) (hr : Reps (k41.M W B (fun k => ok1 k ∧ some k ≠ u.ownBlock)) 2 x inner)
    (hp : k41.M W B okp p [s, kv]) (hdis : ∀ k, okp k → ¬ ok1 k)
    (hpost : PutPost B go n x.length curo u inner s kv W W') :
    ∃ v1, k41.R 41 W' B (fun k => ok1 k ∨ okp k ∨ W.heap.size ≤ k) v1 (x ++ [p]) ∧ W'.heap[go]? = some (.cells (curo.setIfInBounds n v1) 23 (0, 0)) := by
  obtain ⟨v1, hown, hgo', hkeep, hat, hne, hb⟩ := hpost
  obtain ⟨cgo, hgo⟩ := hgo
  have hbu : ∀ k, u.ownBlock = some k → ¬ okp k := fun k hk h => hdis k h (hu k hk)
  have hsame : ∀ k, Blk41 W k → some k ≠ u.ownBlock → W'.heap[k]? = W.heap[k]? := fun k hk hku => hkeep k hk.1 (by
    rintro rfl
    obtain ⟨c, hc⟩ := hk.2
    rw [hgo] at hc; injection hc with hc; injection hc with _ hc; cases hc) hku
  have hv1 : ∀ k, some k ≠ u.ownBlock → k < W.heap.size → some k ≠ v1.ownBlock := by
    intro k hk hlt
    rcases hat with h | ⟨b, h, hbb⟩
    · rw [h]; exact hk
    · rw [h]; intro e; injection e with e; omega
  have stepM : ∀ {q : S41} {c : List Value} {o : Nat → Prop}, k41.M W B o q c → (∀ k, o k → (ok1 k ∨ okp k) ∧ some k ≠ u.ownBlock) →
      k41.M W' B (fun k => (ok1 k ∨ okp k ∨ W.heap.size ≤ k) ∧ some k ≠ v1.ownBlock) q c := by
    intro q c o hq ho
    have h1 := k41.M_move (w1 := W') (fun k hk => hsame k hk.2 (ho k hk.1).2) (M41_bound hq)
    exact k41.M_mono (fun k hk => ⟨(ho k hk.1).1.elim .inl (fun h => .inr (.inl h)), hv1 k (ho k hk.1).2 hk.2.1⟩) h1
  refine ⟨v1, ⟨fun k hk => ?_, inner ++ [s, kv], by rw [List.length_append]; exact hown, ?_⟩, hgo'⟩
  · rcases hat with h | ⟨b, h, hbb⟩
    · exact .inl (hu k (h ▸ hk))
    · rw [h] at hk; injection hk with hk; exact .inr (.inr (by omega))
  · exact (hr.imp_ (fun _ _ hq => stepM hq (fun k hk => ⟨.inl hk.1, hk.2⟩))).snoc (stepM hp (fun k hk => ⟨.inr hk, fun e => hbu k e.symm hk⟩)) rfl

/-- A reader: its struct, the slice of its rows, the rows. -/
def ReaderAt (B Br : Nat) (W : World) (st : List (List S41)) : Prop :=
  B ≤ Br ∧ ∃ v us ok, W.heap[Br]? = some (.cells #[v] 60 (0, 0)) ∧ W.ownsRow B 23 1 v st.length us.reverse ∧ RowsAt B W ok us st
theorem ReaderAt.step {B Br : Nat} {W W' : World} {st : List (List S41)} (h : ReaderAt B Br W st)
    (hm : ∀ k, B ≤ k → k < W.heap.size → (∃ c e, (e = 60 ∨ e = 23 ∨ e = 41) ∧ W.heap[k]? = some (.cells c e (0, 0))) → W'.heap[k]? = W.heap[k]?) : ReaderAt B Br W' st := by
  obtain ⟨hB, v, us, ok, h1, h2, h3⟩ := h
  refine ⟨hB, v, us, fun k => ok k ∧ B ≤ k, (hm Br hB (Array.getElem?_eq_some_iff.1 h1).1 ⟨_, 60, .inl rfl, h1⟩).trans h1, ?_, ?_⟩
  · refine own_move h2 fun k hk => ?_
    obtain ⟨c, hc⟩ := own_typed h2 k hk
    exact hm k (own_base h2 k hk) (own_lt h2 k hk) ⟨c, 23, .inr (.inl rfl), hc⟩
  · have lift : ∀ {ok : Nat → Prop} {us : List Value} {xs : List (List S41)}, RowsAt B W ok us xs → RowsAt B W' (fun k => ok k ∧ B ≤ k) us xs := by
      intro ok us
      induction us generalizing ok with
      | nil => intro xs h; cases xs with
        | nil => trivial
        | cons => exact h
      | cons u us ih =>
        intro xs h
        cases xs with
        | nil => exact h
        | cons x xs =>
          obtain ⟨ok1, ok2, g1, g2, g3, g4⟩ := h
          refine ⟨fun k => ok1 k ∧ B ≤ k, fun k => ok2 k ∧ B ≤ k, fun k hk => ⟨⟨(g1 k hk.1).1, hk.2⟩, fun h => (g1 k hk.1).2 h.1⟩, fun k hk => ⟨g2 k hk.1, hk.2⟩, ?_, ih g4⟩
          have hb := Kd.R_bound g3
          refine Kd.R_mono (Kd.R_move hb fun k hk => ?_) (fun k hk => ⟨hk.1, hk.2.1⟩)
          obtain ⟨q, hq, cells, hc⟩ := hk.2.2.2
          have hE : ∀ q, q ∈ (41 :: k41.E) → q = 41 := by intro q hq; simp [k41, Kd.fix] at hq; exact hq
          exact hm k hk.2.1 hk.2.2.1 ⟨cells, q, .inr (.inr (hE q hq)), hc⟩
    exact lift h3
theorem ReaderAt.below {B Br : Nat} {W W' : World} {st : List (List S41)} (h : ReaderAt B Br W st) (hb : Below W.heap.size W W') : ReaderAt B Br W' st :=
  h.step fun k _ hk _ => hb.block k hk
end Go.Proofs.YtmjnodjjnjckiaaDoor

/- package lines: (*reader).word. -/
namespace Go.Proofs.YtmjnodjjnjckiaaDoor
open Go.RowKit Go.Shelf Go.Proofs.YtmjnodjjnjckiaaDoorW.PrintWords PLines

theorem info23 : (Tryd.prog.info? 23).map (fun i => (i.zero, i.size, i.bytes)) = some (some (.slice none 0 0), 1, 24) := by kernel_rfl

/-- What a word leaves alone: whatever is no row of the reader's, nor the reader. -/
def Keep (B Br : Nat) (W W' : World) : Prop :=
  Below 0 W W' ∧ ∀ k, k < W.heap.size → k ≠ Br → (∀ c e, (e = 23 ∨ e = 41) → B ≤ k → W.heap[k]? ≠ some (.cells c e (0, 0))) → W'.heap[k]? = W.heap[k]?
theorem Keep.refl (B Br : Nat) (W : World) : Keep B Br W W := ⟨Below.refl _ _, fun _ _ _ _ => rfl⟩

theorem cell_blk {W : World} {b t : Nat} {cs : Array Value} (h : W.heap[b]? = some (.cells cs t (0, 0))) (j : Nat) (v : Value) (hj : cs[j]? = some v) : W.cell? ⟨b, j, none⟩ = some v := by
  simp [World.cell?, h, hj]
theorem frozen_blk {W : World} {b t : Nat} {cs : Array Value} (h : W.heap[b]? = some (.cells cs t (0, 0))) (j : Nat) : W.frozen? ⟨b, j, none⟩ = false := by
  simp [World.frozen?, h]

theorem own_ne {W : World} {B e sz n Br t : Nat} {v : Value} {xs : List Value} {cs : Array Value} (h : W.ownsRow B e sz v n xs) (hr : W.heap[Br]? = some (.cells cs t (0, 0))) (hne : e ≠ t) : some Br ≠ v.ownBlock := by
  intro hk
  obtain ⟨c, hc⟩ := own_typed h Br hk.symm
  rw [hr] at hc; injection hc with hc; injection hc with _ hc; exact hne hc.symm
/-- Behind an append to a reader's rows: where the reader lies. -/
theorem open_mid {B Br : Nat} {L : List Value} {v1 v x : Value} {W w1 : World} (hr : W.heap[Br]? = some (.cells #[v] 60 (0, 0))) (hown : W.ownsRow B 23 1 v L.length L)
    (hown1 : w1.ownsRow B 23 1 v1 (L ++ [x]).length (L ++ [x])) (hg1 : W.grownBy w1 v.ownBlock) :
    ∃ A1 c1, v1 = .slice A1 (L.length + 1) c1 ∧ w1.heap[Br]? = some (.cells #[v] 60 (0, 0)) ∧ w1.cell? ⟨Br, 0, none⟩ = some v ∧ w1.frozen? ⟨Br, 0, none⟩ = false := by
  obtain ⟨A1, c1, rfl⟩ := own_slice hown1
  have hb : w1.heap[Br]? = some (.cells #[v] 60 (0, 0)) := (hg1.block Br (Array.getElem?_eq_some_iff.1 hr).1 (own_ne hown hr (by decide))).trans hr
  exact ⟨A1, c1, by simp, hb, cell_blk hb 0 _ rfl, frozen_blk hb 0⟩

theorem open_end {B Br : Nat} {st : List (List S41)} {us L : List Value} {ok : Nat → Prop} {v1 v : Value} {W w1 : World} (hBr : B ≤ Br) (hL : us.reverse = L) (hLL : L.length = st.length)
    (hr : W.heap[Br]? = some (.cells #[v] 60 (0, 0))) (hown : W.ownsRow B 23 1 v L.length L) (hrows : RowsAt B W ok us st)
    (hown1 : w1.ownsRow B 23 1 v1 (L ++ [Value.slice none 0 0]).length (L ++ [Value.slice none 0 0])) (hg1 : W.grownBy w1 v.ownBlock) (hb1 : Below B W w1) :
    ReaderAt B Br (w1.setCell ⟨Br, 0, none⟩ v1) ([] :: st) ∧ Keep B Br W (w1.setCell ⟨Br, 0, none⟩ v1) := by
  have hbr : w1.heap[Br]? = some (.cells #[v] 60 (0, 0)) := (hg1.block Br (Array.getElem?_eq_some_iff.1 hr).1 (own_ne hown hr (by decide))).trans hr
  constructor
  · refine ⟨hBr, v1, .slice none 0 0 :: us, ok, blk_set hbr 0 v1, ?_, fun _ => False, ok, fun _ h => h.elim, fun _ h => h, Kd.R_nil _ _ _ _ _, ?_⟩
    · rw [List.reverse_cons, hL]
      have := own_setCell hown1 (p := ⟨Br, 0, none⟩) (own_ne hown1 hbr (by decide)) v1
      simpa [hLL] using this
    · refine hrows.step fun k _ hk => ?_
      obtain ⟨hk1, c, hc⟩ := hk
      have hne : k ≠ Br := by rintro rfl; rw [hr] at hc; injection hc with hc; injection hc with _ hc; cases hc
      rw [Below.heap_setCell _ _ _ _ hne]
      exact hg1.block k hk1 (own_ne hown hc (by decide))
  · refine ⟨?_, ?_⟩
    · exact (hb1.mono (Nat.zero_le _)).setCell (Nat.zero_le _) _
    · intro k hk hkb hno
      rw [Below.heap_setCell _ _ _ _ hkb]
      refine hg1.block k hk fun e => ?_
      obtain ⟨c, hc⟩ := own_typed hown k e.symm
      exact hno c 23 (.inl rfl) (own_base hown k e.symm) hc

set_option maxHeartbeats 4000000 in
set_option maxRecDepth 100000 in
theorem word_open (B Br : Nat) (st : List (List S41)) (W : World) (h : ReaderAt B Br W st) (hn : st.length ≤ 400) (hB : B ≤ W.heap.size) :
    Calls Tryd.prog 30 #[.pointer (some ⟨Br, 0, none⟩), .string ⟨#[40]⟩] W fun e w' => e = .returned (.tuple #[]) ∧ ReaderAt B Br w' ([] :: st) ∧ Keep B Br W w' := by
  obtain ⟨hBr, v, us, ok, hr, hown, hrows⟩ := h
  have hl := hrows.length
  obtain ⟨L, hL⟩ : ∃ L, us.reverse = L := ⟨_, rfl⟩
  have hLl : L.length = st.length := by rw [← hL]; simp [hl]
  rw [hL, ← hLl] at hown
  obtain ⟨A, cap, rfl⟩ := own_slice hown
  have hc : W.cell? ⟨Br, 0, none⟩ = some (.slice A L.length cap) := cell_blk hr 0 _ rfl
  have hf : W.frozen? ⟨Br, 0, none⟩ = false := frozen_blk hr 0
  have hb0 : decide ((L.length : Int) ≤ 400) = true := by simp; omega
  have HL := Aside0.mk hL
  have HLL := Aside0.mk hLl
  have HR := Aside0.mk hr
  have HO := Aside0.mk hown
  have HB := Aside0.mk hB
  have HRO := Aside0.mk hrows
  clear hr hown hL hLl hl hrows
  go_enter Tryd.func30, Tryd.ntmps30
  go_wp2_with (first | (go_at_call 28; refine (must_ok _ _).mono ?_; rintro e w' ⟨rfl, rfl⟩) | (at_builtin; refine print_append (w0 := W) (W := W) B rfl (.tmp 34) (.tmp 35) 58 23 (.slice none 0 0) 24 rfl Tryd.underlying58 info23 rfl (by decide) (.slice A L.length cap) L (.slice none 0 0) rfl rfl rfl HO.out (Below.refl B W) HB.out (by have := HLL.out; omega) ?_; intro v1 w1 hown1 hb1 hg1 hat1; obtain ⟨A1, c1, rfl, hr1, hc1, hf1⟩ := open_mid HR.out HO.out hown1 hg1; have HE := Aside0.mk (open_end hBr HL.out HLL.out HR.out HO.out HRO.out hown1 hg1 hb1); clear hown1 hb1 hg1 hat1 hr1))
  go_end0
  exact ⟨rfl, HE.out⟩
set_option maxHeartbeats 4000000 in
set_option maxRecDepth 100000 in
theorem word_open_no (B Br : Nat) (st : List (List S41)) (W : World) (h : ReaderAt B Br W st) (hn : 400 < st.length) :
    Calls Tryd.prog 30 #[.pointer (some ⟨Br, 0, none⟩), .string ⟨#[40]⟩] W fun e w' => e = .panicked (thrown 3) ∧ W = w' := by
  obtain ⟨hBr, v, us, ok, hr, hown, hrows⟩ := h
  obtain ⟨A, cap, rfl⟩ := own_slice hown
  have hc : W.cell? ⟨Br, 0, none⟩ = some (.slice A st.length cap) := cell_blk hr 0 _ rfl
  have hb0 : decide ((st.length : Int) ≤ 400) = false := by simp; omega
  clear hr hown hrows
  go_enter Tryd.func30, Tryd.ntmps30
  go_wp2_with (first | (go_at_call 28; refine (must_no _ _).mono ?_; rintro e w' ⟨rfl, rfl⟩))
  exact ⟨rfl, rfl, rfl⟩

/-- put, at a reader: the last row has one tree more. -/
theorem put_reader (B Br : Nat) (v u : Value) (us : List Value) (ok okp : Nat → Prop) (x : List S41) (st : List (List S41)) (wd : ByteArray) (Ax : Option Addr) (nx cx : Nat) (p : S41) (W : World)
    (hBr : B ≤ Br) (hr : W.heap[Br]? = some (.cells #[v] 60 (0, 0))) (hown : W.ownsRow B 23 1 v (st.length + 1) (us.reverse ++ [u])) (hrows : RowsAt B W ok (u :: us) (x :: st))
    (hp : k41.M W B okp p [.string wd, .slice Ax nx cx]) (hdis : ∀ k, okp k → ¬ ok k) (hB : B ≤ W.heap.size) (hm : x.length ≤ 1000000000000) :
    Calls Tryd.prog 53 #[v, .agg #[.string wd, .slice Ax nx cx]] W fun e w' => e = .returned (.tuple #[]) ∧ ReaderAt B Br w' ((x ++ [p]) :: st) ∧ Keep B Br W w' := by
  have hl : us.length = st.length := by simpa using hrows.length
  obtain ⟨hl2, hv⟩ := hown
  obtain ⟨go, cap, cur, rfl, hBg, hgo, hn, hcm, hcs, htake⟩ := hv.resolve_left (by omega)
  obtain ⟨ok1, ok2, h1, h2, ⟨hu, inner, hoi, hri⟩, h4⟩ := hrows
  have hcur : ∀ j, j < st.length + 1 → cur[j]? = (us.reverse ++ [u])[j]? := fun j hj => by
    rw [← htake, List.getElem?_take_of_lt (by omega), Array.getElem?_toList]
  have hcu : cur[st.length]? = some u := by
    rw [hcur _ (by omega), List.getElem?_append_right (by simp [hl])]; simp [hl]
  have hneu : some go ≠ u.ownBlock := own_ne hoi hgo (by decide)
  refine (put_cells B go st.length cap x.length cur u inner wd Ax nx cx W hgo hcu hn hcm hoi hneu hB hm).mono ?_
  rintro e W' ⟨rfl, hpost⟩
  refine ⟨rfl, ?_, ?_⟩
  · obtain ⟨v1, hR, hgo'⟩ := R41_put (p := p) (okp := okp) ⟨_, hgo⟩ hu hri hp (fun k hk h => hdis k hk (h1 k h).1) hpost
    obtain ⟨_, _, _, hkeep, _, _, _⟩ := hpost
    refine ⟨hBr, .slice (some ⟨go, 0, none⟩) (st.length + 1) cap, v1 :: us, fun _ => True, ?_, ?_, ?_⟩
    · refine (hkeep Br (Array.getElem?_eq_some_iff.1 hr).1 ?_ (own_ne hoi hr (by decide))).trans hr
      rintro rfl; rw [hr] at hgo; injection hgo with hgo; injection hgo with _ hgo; cases hgo
    · refine ⟨by simp [hl], .inr ⟨go, cap, _, rfl, hBg, hgo', by simpa using hn, hcm, by simp [hcs], ?_⟩⟩
      rw [Array.toList_setIfInBounds, List.reverse_cons]
      apply List.ext_getElem?
      intro j
      rw [List.getElem?_take]
      have hsz : cur.toList.length = cap := by simpa using hcs
      split
      · rename_i hj
        simp at hj
        rw [List.getElem?_set]
        by_cases h0 : st.length = j
        · rw [if_pos h0, if_pos (by omega), List.getElem?_append_right (by simp [hl]; omega)]; simp [hl, h0]
        · rw [if_neg h0, Array.getElem?_toList, hcur j (by omega), List.getElem?_append_left (by simp [hl]; omega), List.getElem?_append_left (by simp [hl]; omega)]
      · rename_i hj
        simp at hj
        rw [List.getElem?_eq_none]; simp [hl]; omega
    · refine ⟨fun k => ok1 k ∨ okp k ∨ W.heap.size ≤ k, fun k => ok2 k ∧ Blk41 W k, fun k hk => ⟨trivial, fun h => ?_⟩, fun _ _ => trivial, hR, ?_⟩
      · rcases hk with hk | hk | hk
        · exact (h1 k hk).2 h.1
        · exact hdis k hk (h2 k h.1)
        · have := h.2.1; omega
      · refine h4.bound.move fun k hk => hkeep k hk.2.1 ?_ ?_
        · rintro rfl; obtain ⟨c, hc⟩ := hk.2.2; rw [hgo] at hc; injection hc with hc; injection hc with _ hc; cases hc
        · intro e; exact (h1 k (hu k e.symm)).2 hk.1
  · obtain ⟨_, _, _, hkeep, _, _, hb⟩ := hpost
    refine ⟨hb, fun k hk _ hno => hkeep k hk ?_ ?_⟩
    · rintro rfl; exact hno _ 23 (.inl rfl) hBg hgo
    · intro e
      obtain ⟨c, hc⟩ := own_typed hoi k e.symm
      exact hno c 41 (.inr rfl) (own_base hoi k e.symm) hc
end Go.Proofs.YtmjnodjjnjckiaaDoor

/- package lines: (*reader).word at a word and at the sign that ends a list. -/
namespace Go.Proofs.YtmjnodjjnjckiaaDoor
open Go.RowKit Go.Shelf Go.Proofs.YtmjnodjjnjckiaaDoorW.PrintWords PLines

theorem Keep.trans {B Br : Nat} {W W1 W2 : World} (h : Keep B Br W W1) (k : Keep B Br W1 W2) : Keep B Br W W2 :=
  ⟨h.1.trans k.1, fun j hj hjb hno => by
    have h1 := h.2 j hj hjb hno
    exact (k.2 j (Nat.lt_of_lt_of_le hj h.1.size) hjb (fun c e he hb hc => hno c e he hb (by rw [← h1]; exact hc))).trans h1⟩

/-- A reader, laid open: its last row stands out. -/
theorem ReaderAt.open_ {B Br : Nat} {W : World} {x : List S41} {st : List (List S41)} (h : ReaderAt B Br W (x :: st)) :
    B ≤ Br ∧ ∃ v u us ok A cap, v = .slice A (st.length + 1) cap ∧ W.heap[Br]? = some (.cells #[v] 60 (0, 0)) ∧ W.ownsRow B 23 1 v (st.length + 1) (us.reverse ++ [u]) ∧ RowsAt B W ok (u :: us) (x :: st) := by
  obtain ⟨hB, v, us, ok, hr, hown, hrows⟩ := h
  cases us with
  | nil => exact hrows.elim
  | cons u us =>
    obtain ⟨A, cap, rfl⟩ := own_slice hown
    exact ⟨hB, _, u, us, ok, A, cap, by simp, hr, by simpa using hown, hrows⟩
theorem M41_word (W : World) (B : Nat) (ok : Nat → Prop) (s : ByteArray) : k41.M W B ok ⟨s, []⟩ [.string s, .slice none 0 0] := k41_mkM W B ok ⟨s, []⟩ (Kd.R_nil _ _ _ _ _)

set_option maxHeartbeats 4000000 in
set_option maxRecDepth 100000 in
theorem word_word (B Br : Nat) (x : List S41) (st : List (List S41)) (s : ByteArray) (W : World) (h : ReaderAt B Br W (x :: st)) (hn : st.length + 1 ≤ 400) (hB : B ≤ W.heap.size) (hm : x.length ≤ 1000000000000)
    (h1 : (s.toList == [40]) = false) (h2 : (s.toList == [41]) = false) :
    Calls Tryd.prog 30 #[.pointer (some ⟨Br, 0, none⟩), .string s] W fun e w' => e = .returned (.tuple #[]) ∧ ReaderAt B Br w' ((x ++ [⟨s, []⟩]) :: st) ∧ Keep B Br W w' := by
  obtain ⟨hBr, v, u, us, ok, A, cap, rfl, hr, hown, hrows⟩ := h.open_
  have hc : W.cell? ⟨Br, 0, none⟩ = some (.slice A (st.length + 1) cap) := cell_blk hr 0 _ rfl
  have hb0 : decide ((st.length : Int) + 1 ≤ 400) = true := by simp; omega
  have HP := Aside0.mk (put_reader B Br _ u us ok (fun _ => False) x st s none 0 0 ⟨s, []⟩ W hBr hr hown hrows (M41_word W B _ s) (fun _ h => h.elim) hB hm)
  clear hr hown hrows h
  go_enter Tryd.func30, Tryd.ntmps30
  go_wp2_with (first | (go_at_call 28; refine (must_ok _ _).mono ?_; rintro e w' ⟨rfl, rfl⟩) | (go_at_call 53; refine HP.out.mono ?_; rintro e w' ⟨rfl, hpost⟩; have HE := Aside0.mk hpost; clear hpost))
  go_end0
  exact ⟨rfl, HE.out⟩
set_option maxHeartbeats 4000000 in
set_option maxRecDepth 100000 in
theorem word_word_no (B Br : Nat) (x : List S41) (st : List (List S41)) (s : ByteArray) (W : World) (h : ReaderAt B Br W (x :: st)) (hn : 400 < st.length + 1)
    (h1 : (s.toList == [40]) = false) (h2 : (s.toList == [41]) = false) :
    Calls Tryd.prog 30 #[.pointer (some ⟨Br, 0, none⟩), .string s] W fun e w' => e = .panicked (thrown 3) ∧ W = w' := by
  obtain ⟨hBr, v, u, us, ok, A, cap, rfl, hr, hown, hrows⟩ := h.open_
  have hc : W.cell? ⟨Br, 0, none⟩ = some (.slice A (st.length + 1) cap) := cell_blk hr 0 _ rfl
  have hb0 : decide ((st.length : Int) + 1 ≤ 400) = false := by simp; omega
  clear hr hown hrows h
  go_enter Tryd.func30, Tryd.ntmps30
  go_wp2_with (first | (go_at_call 28; refine (must_no _ _).mono ?_; rintro e w' ⟨rfl, rfl⟩))
  exact ⟨rfl, rfl, rfl⟩

set_option maxHeartbeats 4000000 in
set_option maxRecDepth 100000 in
theorem word_shut_no (B Br : Nat) (x : List S41) (W : World) (h : ReaderAt B Br W [x]) :
    Calls Tryd.prog 30 #[.pointer (some ⟨Br, 0, none⟩), .string ⟨#[41]⟩] W fun e w' => e = .panicked (thrown 4) ∧ W = w' := by
  obtain ⟨hBr, v, u, us, ok, A, cap, rfl, hr, hown, hrows⟩ := h.open_
  have hc : W.cell? ⟨Br, 0, none⟩ = some (.slice A 1 cap) := cell_blk hr 0 _ rfl
  clear hr hown hrows h
  go_enter Tryd.func30, Tryd.ntmps30
  go_wp2_with (first | (go_at_call 28; refine (must_no _ _).mono ?_; rintro e w' ⟨rfl, rfl⟩))
  exact ⟨rfl, rfl, rfl⟩

/-- The list that is open last is shut: its tree stands in a box of its own, the reader has one row less; what put wants there. -/
theorem shut_mid {B Br : Nat} {top sec : List S41} {st : List (List S41)} {W : World} (h : ReaderAt B Br W (top :: sec :: st)) (_hB : B ≤ W.heap.size) (hm : sec.length ≤ 1000000000000) :
    B ≤ Br ∧ ∃ N go cap At nt ct, 0 < N ∧ W.heap[Br]? = some (.cells #[.slice (some ⟨go, 0, none⟩) (N + 1) cap] 60 (0, 0)) ∧ W.cell? ⟨go, N, none⟩ = some (.slice At nt ct) ∧ go < W.heap.size ∧ N + 1 ≤ cap ∧ cap ≤ maxLen ∧
      Calls Tryd.prog 53 #[.slice (some ⟨go, 0, none⟩) N cap, .agg #[.string ⟨#[]⟩, .slice At nt ct]] (((W.setCell ⟨Br, 0, none⟩ (.slice (some ⟨go, 0, none⟩) N cap)).alloc (.cells #[.string ⟨#[]⟩, .slice At nt ct] 41)).drew)
        fun e w' => e = .returned (.tuple #[]) ∧ ReaderAt B Br w' ((sec ++ [⟨⟨#[]⟩, top⟩]) :: st) ∧ Keep B Br W w' := by
  obtain ⟨hBr, v, u, us, ok, A, cap, rfl, hr, hown, hrows⟩ := h.open_
  obtain ⟨hl2, hv⟩ := hown
  obtain ⟨go, cap', cur, hv, hBg, hgo, hn, hcm, hcs, htake⟩ := hv.resolve_left (by simp)
  injection hv with e1 e2 e3
  subst e1 e3
  have hr : W.heap[Br]? = some (.cells #[.slice (some ⟨go, 0, none⟩) (st.length + 2) cap] 60 (0, 0)) := hr
  have hn : st.length + 2 ≤ cap := hn
  have htake : cur.toList.take ((st.length + 2) * 1) = us.reverse ++ [u] := htake
  obtain ⟨ok1, ok2, h1, h2, hR, h4⟩ := hrows
  cases us with
  | nil => exact h4.elim
  | cons u2 us =>
  have hlen : us.length = st.length := by simpa using h4.length
  obtain ⟨At, ct, rfl⟩ := Kd.R_slice hR
  have hcell : W.cell? ⟨go, st.length + 1, none⟩ = some (.slice At top.length ct) := by
    have : cur[st.length + 1]? = some (.slice At top.length ct) := by
      have h5 := congrArg (fun l => l[st.length + 1]?) htake
      rw [List.getElem?_take_of_lt (by omega), Array.getElem?_toList] at h5
      rw [h5, List.getElem?_append_right (by simp [hlen])]; simp [hlen]
    simp [World.cell?, hgo, this]
  have hgoS := (Array.getElem?_eq_some_iff.1 hgo).1
  have hBrS := (Array.getElem?_eq_some_iff.1 hr).1
  refine ⟨hBr, st.length + 1, go, cap, At, top.length, ct, by omega, hr, hcell, hgoS, hn, hcm, ?_⟩
  obtain ⟨W2, hW2⟩ : ∃ W2, ((W.setCell ⟨Br, 0, none⟩ (.slice (some ⟨go, 0, none⟩) (st.length + 1) cap)).alloc (.cells #[.string ⟨#[]⟩, .slice At top.length ct] 41)).drew = W2 := ⟨_, rfl⟩
  have hk2 : ∀ k, k < W.heap.size → k ≠ Br → W2.heap[k]? = W.heap[k]? := fun k hk hkb => by
    rw [← hW2]; exact (Below.heap_alloc _ _ _ (by simpa using hk)).trans (Below.heap_setCell _ _ _ _ hkb)
  have hne : go ≠ Br := by rintro rfl; rw [hr] at hgo; injection hgo with hgo; injection hgo with _ hgo; cases hgo
  have hr2 : W2.heap[Br]? = some (.cells #[.slice (some ⟨go, 0, none⟩) (st.length + 1) cap] 60 (0, 0)) := by
    rw [← hW2]; exact (Below.heap_alloc _ _ _ (by simpa using hBrS)).trans (blk_set hr 0 _)
  have hsz2 : W.heap.size < W2.heap.size := by rw [← hW2]; simp
  have hb2 : Keep B Br W W2 := ⟨by rw [← hW2]; exact (((Below.refl 0 W).setCell (Nat.zero_le _) _).alloc (Nat.zero_le _) _).drew, fun k hk hkb _ => hk2 k hk hkb⟩
  have stepR : ∀ k, Blk41 W k → W2.heap[k]? = W.heap[k]? := fun k hk => hk2 k hk.1 (by
    rintro rfl; obtain ⟨c, hc⟩ := hk.2; rw [hr] at hc; injection hc with hc; injection hc with _ hc; cases hc)
  rw [hW2]
  refine (put_reader B Br _ u2 us (fun k => ok2 k ∧ Blk41 W k) (fun k => ok1 k ∧ Blk41 W k) sec st ⟨#[]⟩ At top.length ct ⟨⟨#[]⟩, top⟩ W2 hBr hr2 ?_ (h4.bound.move fun k hk => stepR k hk.2) ?_ (fun k hk h => (h1 k hk.1).2 h.1) (by omega) hm).mono ?_
  · refine ⟨by simp [hlen], .inr ⟨go, cap, cur, rfl, hBg, (hk2 go hgoS hne).trans hgo, by omega, hcm, hcs, ?_⟩⟩
    have h5 := congrArg (List.take (st.length + 1)) htake
    rw [List.take_take, Nat.min_eq_left (by omega)] at h5
    rw [Nat.mul_one, h5, List.reverse_cons, List.take_left' (by simp [hlen])]
  · exact k41_mkM W2 B _ ⟨⟨#[]⟩, top⟩ (Kd.R_move (R41_bound hR) fun k hk => stepR k hk.2)
  · rintro e w' ⟨rfl, hra, hke⟩
    exact ⟨rfl, hra, hb2.trans hke⟩

set_option maxHeartbeats 400000 in
set_option maxRecDepth 100000 in
theorem word_shut (B Br : Nat) (top sec : List S41) (st : List (List S41)) (W : World) (h : ReaderAt B Br W (top :: sec :: st)) (hB : B ≤ W.heap.size) (hm : sec.length ≤ 1000000000000) :
    Calls Tryd.prog 30 #[.pointer (some ⟨Br, 0, none⟩), .string ⟨#[41]⟩] W fun e w' => e = .returned (.tuple #[]) ∧ ReaderAt B Br w' ((sec ++ [⟨⟨#[]⟩, top⟩]) :: st) ∧ Keep B Br W w' := by
  obtain ⟨hBr, N, go, cap, At, nt, ct, hN, hr, hcell, hgoS, hn, hcm, hput⟩ := shut_mid h hB hm
  have hc : W.cell? ⟨Br, 0, none⟩ = some (.slice (some ⟨go, 0, none⟩) (N + 1) cap) := cell_blk hr 0 _ rfl
  have hf : W.frozen? ⟨Br, 0, none⟩ = false := frozen_blk hr 0
  have hBrS := (Array.getElem?_eq_some_iff.1 hr).1
  unfold maxLen at hcm
  have hb0 : decide ((0 : Int) < (N : Int)) = true := decide_eq_true (by omega)
  have HP := Aside0.mk hput
  clear hr hput h
  go_enter Tryd.func30, Tryd.ntmps30
  go_wp2_with fail
  refine (must_ok _ _).mono ?_
  rintro e w' ⟨rfl, rfl⟩
  go_wp2_with fail
  obtain ⟨W2, hW2⟩ : ∃ W2, (W.setCell ⟨Br, 0, none⟩ (.slice (some ⟨go, 0, none⟩) N cap)).alloc (.cells #[.string ⟨#[]⟩, .slice At nt ct] 41) = W2 := ⟨_, rfl⟩
  have hx0 : W2.cell? ⟨W.heap.size, 0, none⟩ = some (.string ⟨#[]⟩) := by rw [← hW2]; simpa using World.cell?_alloc_new (W.setCell ⟨Br, 0, none⟩ (.slice (some ⟨go, 0, none⟩) N cap)) #[.string ⟨#[]⟩, .slice At nt ct] 41 0
  have hx1 : W2.cell? ⟨W.heap.size, 1, none⟩ = some (.slice At nt ct) := by rw [← hW2]; simpa using World.cell?_alloc_new (W.setCell ⟨Br, 0, none⟩ (.slice (some ⟨go, 0, none⟩) N cap)) #[.string ⟨#[]⟩, .slice At nt ct] 41 1
  have hxr : W2.cell? ⟨Br, 0, none⟩ = some (.slice (some ⟨go, 0, none⟩) N cap) := by
    rw [← hW2, World.cell?_alloc_past _ _ _ (by simpa using hBrS)]; exact World.cell?_setCell_same' _ _ _ (by rw [hc]; rfl)
  rw [hW2] at HP
  rw [hW2]
  clear hW2 hc hf hcell
  go_region_law ((go_simp; go_at_call 53; refine HP.out.mono ?_; rintro e w' ⟨rfl, hpost⟩; have HE := Aside0.mk hpost; clear hpost))
  all_goals go_end0
  all_goals exact ⟨rfl, HE.out⟩
end Go.Proofs.YtmjnodjjnjckiaaDoor

/- package lines: (*reader).word at a word and at the sign that ends a list. -/
import Derived.Test.YtmjnodjjnjckiaaDoorD
namespace Go.Proofs.YtmjnodjjnjckiaaDoor
open Go.RowKit Go.Shelf Go.Proofs.YtmjnodjjnjckiaaDoorW.PrintWords PLines

theorem Keep.trans {B Br : Nat} {W W1 W2 : World} (h : Keep B Br W W1) (k : Keep B Br W1 W2) : Keep B Br W W2 :=
  ⟨h.1.trans k.1, fun j hj hjb hno => by
    have h1 := h.2 j hj hjb hno
    exact (k.2 j (Nat.lt_of_lt_of_le hj h.1.size) hjb (fun c e he hb hc => hno c e he hb (by rw [← h1]; exact hc))).trans h1⟩

/-- A reader, laid open: its last row stands out. -/
theorem ReaderAt.open_ {B Br : Nat} {W : World} {x : List S41} {st : List (List S41)} (h : ReaderAt B Br W (x :: st)) :
    B ≤ Br ∧ ∃ v u us ok A cap, v = .slice A (st.length + 1) cap ∧ W.heap[Br]? = some (.cells #[v] 60 (0, 0)) ∧ W.ownsRow B 23 1 v (st.length + 1) (us.reverse ++ [u]) ∧ RowsAt B W ok (u :: us) (x :: st) := by
  obtain ⟨hB, v, us, ok, hr, hown, hrows⟩ := h
  cases us with
  | nil => exact hrows.elim
  | cons u us =>
    obtain ⟨A, cap, rfl⟩ := own_slice hown
    exact ⟨hB, _, u, us, ok, A, cap, by simp, hr, by simpa using hown, hrows⟩
theorem M41_word (W : World) (B : Nat) (ok : Nat → Prop) (s : ByteArray) : k41.M W B ok ⟨s, []⟩ [.string s, .slice none 0 0] := k41_mkM W B ok ⟨s, []⟩ (Kd.R_nil _ _ _ _ _)

set_option maxHeartbeats 4000000 in
set_option maxRecDepth 100000 in
theorem word_word (B Br : Nat) (x : List S41) (st : List (List S41)) (s : ByteArray) (W : World) (h : ReaderAt B Br W (x :: st)) (hn : st.length + 1 ≤ 400) (hB : B ≤ W.heap.size) (hm : x.length ≤ 1000000000000)
    (h1 : (s.toList == [40]) = false) (h2 : (s.toList == [41]) = false) :
    Calls Tryd.prog 30 #[.pointer (some ⟨Br, 0, none⟩), .string s] W fun e w' => e = .returned (.tuple #[]) ∧ ReaderAt B Br w' ((x ++ [⟨s, []⟩]) :: st) ∧ Keep B Br W w' := by
  obtain ⟨hBr, v, u, us, ok, A, cap, rfl, hr, hown, hrows⟩ := h.open_
  have hc : W.cell? ⟨Br, 0, none⟩ = some (.slice A (st.length + 1) cap) := cell_blk hr 0 _ rfl
  have hb0 : decide ((st.length : Int) + 1 ≤ 400) = true := by simp; omega
  have HP := Aside0.mk (put_reader B Br _ u us ok (fun _ => False) x st s none 0 0 ⟨s, []⟩ W hBr hr hown hrows (M41_word W B _ s) (fun _ h => h.elim) hB hm)
  clear hr hown hrows h
  go_enter Tryd.func30, Tryd.ntmps30
  go_wp2_with (first | (go_at_call 28; refine (must_ok _ _).mono ?_; rintro e w' ⟨rfl, rfl⟩) | (go_at_call 53; refine HP.out.mono ?_; rintro e w' ⟨rfl, hpost⟩; have HE := Aside0.mk hpost; clear hpost))
  go_end0
  exact ⟨rfl, HE.out⟩
set_option maxHeartbeats 4000000 in
set_option maxRecDepth 100000 in
theorem word_word_no (B Br : Nat) (x : List S41) (st : List (List S41)) (s : ByteArray) (W : World) (h : ReaderAt B Br W (x :: st)) (hn : 400 < st.length + 1)
    (h1 : (s.toList == [40]) = false) (h2 : (s.toList == [41]) = false) :
    Calls Tryd.prog 30 #[.pointer (some ⟨Br, 0, none⟩), .string s] W fun e w' => e = .panicked (thrown 3) ∧ W = w' := by
  obtain ⟨hBr, v, u, us, ok, A, cap, rfl, hr, hown, hrows⟩ := h.open_
  have hc : W.cell? ⟨Br, 0, none⟩ = some (.slice A (st.length + 1) cap) := cell_blk hr 0 _ rfl
  have hb0 : decide ((st.length : Int) + 1 ≤ 400) = false := by simp; omega
  clear hr hown hrows h
  go_enter Tryd.func30, Tryd.ntmps30
  go_wp2_with (first | (go_at_call 28; refine (must_no _ _).mono ?_; rintro e w' ⟨rfl, rfl⟩))
  exact ⟨rfl, rfl, rfl⟩

set_option maxHeartbeats 4000000 in
set_option maxRecDepth 100000 in
theorem word_shut_no (B Br : Nat) (x : List S41) (W : World) (h : ReaderAt B Br W [x]) :
    Calls Tryd.prog 30 #[.pointer (some ⟨Br, 0, none⟩), .string ⟨#[41]⟩] W fun e w' => e = .panicked (thrown 4) ∧ W = w' := by
  obtain ⟨hBr, v, u, us, ok, A, cap, rfl, hr, hown, hrows⟩ := h.open_
  have hc : W.cell? ⟨Br, 0, none⟩ = some (.slice A 1 cap) := cell_blk hr 0 _ rfl
  clear hr hown hrows h
  go_enter Tryd.func30, Tryd.ntmps30
  go_wp2_with (first | (go_at_call 28; refine (must_no _ _).mono ?_; rintro e w' ⟨rfl, rfl⟩))
  exact ⟨rfl, rfl, rfl⟩

/-- The list that is open last is shut: its tree stands in a box of its own, the reader has one row less; what put wants there. -/
theorem shut_mid {B Br : Nat} {top sec : List S41} {st : List (List S41)} {W : World} (h : ReaderAt B Br W (top :: sec :: st)) (_hB : B ≤ W.heap.size) (hm : sec.length ≤ 1000000000000) :
    B ≤ Br ∧ ∃ N go cap At nt ct, 0 < N ∧ W.heap[Br]? = some (.cells #[.slice (some ⟨go, 0, none⟩) (N + 1) cap] 60 (0, 0)) ∧ W.cell? ⟨go, N, none⟩ = some (.slice At nt ct) ∧ go < W.heap.size ∧ N + 1 ≤ cap ∧ cap ≤ maxLen ∧
      Calls Tryd.prog 53 #[.slice (some ⟨go, 0, none⟩) N cap, .agg #[.string ⟨#[]⟩, .slice At nt ct]] (((W.setCell ⟨Br, 0, none⟩ (.slice (some ⟨go, 0, none⟩) N cap)).alloc (.cells #[.string ⟨#[]⟩, .slice At nt ct] 41)).drew)
        fun e w' => e = .returned (.tuple #[]) ∧ ReaderAt B Br w' ((sec ++ [⟨⟨#[]⟩, top⟩]) :: st) ∧ Keep B Br W w' := by
  obtain ⟨hBr, v, u, us, ok, A, cap, rfl, hr, hown, hrows⟩ := h.open_
  obtain ⟨hl2, hv⟩ := hown
  obtain ⟨go, cap', cur, hv, hBg, hgo, hn, hcm, hcs, htake⟩ := hv.resolve_left (by simp)
  injection hv with e1 e2 e3
  subst e1 e3
  have hr : W.heap[Br]? = some (.cells #[.slice (some ⟨go, 0, none⟩) (st.length + 2) cap] 60 (0, 0)) := hr
  have hn : st.length + 2 ≤ cap := hn
  have htake : cur.toList.take ((st.length + 2) * 1) = us.reverse ++ [u] := htake
  obtain ⟨ok1, ok2, h1, h2, hR, h4⟩ := hrows
  cases us with
  | nil => exact h4.elim
  | cons u2 us =>
  have hlen : us.length = st.length := by simpa using h4.length
  obtain ⟨At, ct, rfl⟩ := Kd.R_slice hR
  have hcell : W.cell? ⟨go, st.length + 1, none⟩ = some (.slice At top.length ct) := by
    have : cur[st.length + 1]? = some (.slice At top.length ct) := by
      have h5 := congrArg (fun l => l[st.length + 1]?) htake
      rw [List.getElem?_take_of_lt (by omega), Array.getElem?_toList] at h5
      rw [h5, List.getElem?_append_right (by simp [hlen])]; simp [hlen]
    simp [World.cell?, hgo, this]
  have hgoS := (Array.getElem?_eq_some_iff.1 hgo).1
  have hBrS := (Array.getElem?_eq_some_iff.1 hr).1
  refine ⟨hBr, st.length + 1, go, cap, At, top.length, ct, by omega, hr, hcell, hgoS, hn, hcm, ?_⟩
  obtain ⟨W2, hW2⟩ : ∃ W2, ((W.setCell ⟨Br, 0, none⟩ (.slice (some ⟨go, 0, none⟩) (st.length + 1) cap)).alloc (.cells #[.string ⟨#[]⟩, .slice At top.length ct] 41)).drew = W2 := ⟨_, rfl⟩
  have hk2 : ∀ k, k < W.heap.size → k ≠ Br → W2.heap[k]? = W.heap[k]? := fun k hk hkb => by
    rw [← hW2]; exact (Below.heap_alloc _ _ _ (by simpa using hk)).trans (Below.heap_setCell _ _ _ _ hkb)
  have hne : go ≠ Br := by rintro rfl; rw [hr] at hgo; injection hgo with hgo; injection hgo with _ hgo; cases hgo
  have hr2 : W2.heap[Br]? = some (.cells #[.slice (some ⟨go, 0, none⟩) (st.length + 1) cap] 60 (0, 0)) := by
    rw [← hW2]; exact (Below.heap_alloc _ _ _ (by simpa using hBrS)).trans (blk_set hr 0 _)
  have hsz2 : W.heap.size < W2.heap.size := by rw [← hW2]; simp
  have hb2 : Keep B Br W W2 := ⟨by rw [← hW2]; exact (((Below.refl 0 W).setCell (Nat.zero_le _) _).alloc (Nat.zero_le _) _).drew, fun k hk hkb _ => hk2 k hk hkb⟩
  have stepR : ∀ k, Blk41 W k → W2.heap[k]? = W.heap[k]? := fun k hk => hk2 k hk.1 (by
    rintro rfl; obtain ⟨c, hc⟩ := hk.2; rw [hr] at hc; injection hc with hc; injection hc with _ hc; cases hc)
  rw [hW2]
  refine (put_reader B Br _ u2 us (fun k => ok2 k ∧ Blk41 W k) (fun k => ok1 k ∧ Blk41 W k) sec st ⟨#[]⟩ At top.length ct ⟨⟨#[]⟩, top⟩ W2 hBr hr2 ?_ (h4.bound.move fun k hk => stepR k hk.2) ?_ (fun k hk h => (h1 k hk.1).2 h.1) (by omega) hm).mono ?_
  · refine ⟨by simp [hlen], .inr ⟨go, cap, cur, rfl, hBg, (hk2 go hgoS hne).trans hgo, by omega, hcm, hcs, ?_⟩⟩
    have h5 := congrArg (List.take (st.length + 1)) htake
    rw [List.take_take, Nat.min_eq_left (by omega)] at h5
    rw [Nat.mul_one, h5, List.reverse_cons, List.take_left' (by simp [hlen])]
  · exact k41_mkM W2 B _ ⟨⟨#[]⟩, top⟩ (Kd.R_move (R41_bound hR) fun k hk => stepR k hk.2)
  · rintro e w' ⟨rfl, hra, hke⟩
    exact ⟨rfl, hra, hb2.trans hke⟩

set_option maxHeartbeats 400000 in
set_option maxRecDepth 100000 in
theorem word_shut (B Br : Nat) (top sec : List S41) (st : List (List S41)) (W : World) (h : ReaderAt B Br W (top :: sec :: st)) (hB : B ≤ W.heap.size) (hm : sec.length ≤ 1000000000000) :
    Calls Tryd.prog 30 #[.pointer (some ⟨Br, 0, none⟩), .string ⟨#[41]⟩] W fun e w' => e = .returned (.tuple #[]) ∧ ReaderAt B Br w' ((sec ++ [⟨⟨#[]⟩, top⟩]) :: st) ∧ Keep B Br W w' := by
  obtain ⟨hBr, N, go, cap, At, nt, ct, hN, hr, hcell, hgoS, hn, hcm, hput⟩ := shut_mid h hB hm
  have hc : W.cell? ⟨Br, 0, none⟩ = some (.slice (some ⟨go, 0, none⟩) (N + 1) cap) := cell_blk hr 0 _ rfl
  have hf : W.frozen? ⟨Br, 0, none⟩ = false := frozen_blk hr 0
  have hBrS := (Array.getElem?_eq_some_iff.1 hr).1
  unfold maxLen at hcm
  have hb0 : decide ((0 : Int) < (N : Int)) = true := decide_eq_true (by omega)
  have HP := Aside0.mk hput
  clear hr hput h
  go_enter Tryd.func30, Tryd.ntmps30
  go_wp2_with fail
  refine (must_ok _ _).mono ?_
  rintro e w' ⟨rfl, rfl⟩
  go_wp2_with fail
  obtain ⟨W2, hW2⟩ : ∃ W2, (W.setCell ⟨Br, 0, none⟩ (.slice (some ⟨go, 0, none⟩) N cap)).alloc (.cells #[.string ⟨#[]⟩, .slice At nt ct] 41) = W2 := ⟨_, rfl⟩
  have hx0 : W2.cell? ⟨W.heap.size, 0, none⟩ = some (.string ⟨#[]⟩) := by rw [← hW2]; simpa using World.cell?_alloc_new (W.setCell ⟨Br, 0, none⟩ (.slice (some ⟨go, 0, none⟩) N cap)) #[.string ⟨#[]⟩, .slice At nt ct] 41 0
  have hx1 : W2.cell? ⟨W.heap.size, 1, none⟩ = some (.slice At nt ct) := by rw [← hW2]; simpa using World.cell?_alloc_new (W.setCell ⟨Br, 0, none⟩ (.slice (some ⟨go, 0, none⟩) N cap)) #[.string ⟨#[]⟩, .slice At nt ct] 41 1
  have hxr : W2.cell? ⟨Br, 0, none⟩ = some (.slice (some ⟨go, 0, none⟩) N cap) := by
    rw [← hW2, World.cell?_alloc_past _ _ _ (by simpa using hBrS)]; exact World.cell?_setCell_same' _ _ _ (by rw [hc]; rfl)
  rw [hW2] at HP
  rw [hW2]
  clear hW2 hc hf hcell
  go_region_law ((go_simp; go_at_call 53; refine HP.out.mono ?_; rintro e w' ⟨rfl, hpost⟩; have HE := Aside0.mk hpost; clear hpost))
  all_goals go_end0
  all_goals exact ⟨rfl, HE.out⟩
end Go.Proofs.YtmjnodjjnjckiaaDoor

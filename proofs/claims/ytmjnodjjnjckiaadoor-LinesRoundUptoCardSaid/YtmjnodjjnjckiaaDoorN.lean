/- package lines: (*writer).add. -/
import Derived.Test.YtmjnodjjnjckiaaDoorM
namespace Go.Proofs.YtmjnodjjnjckiaaDoor
open Go.RowKit Go.Shelf Go.Proofs.YtmjnodjjnjckiaaDoorW.PrintWords PLines

/-- A writer that holds bytes. -/
def WrAt (B b : Nat) (l : List UInt8) (W : World) : Prop :=
  Lib.IsBuilder 77 5 B b (Lib.byteCells l) W ∧ (l = [] → W.heap[b]? = some (.cells #[.pointer none, .slice none 0 0] 77 (0, 0)))
theorem strCells_byte (s : ByteArray) : Lib.strCells s = Lib.byteCells s.data.toList := rfl
theorem byteCells_append (a b : List UInt8) : Lib.byteCells (a ++ b) = Lib.byteCells a ++ Lib.byteCells b := by simp [Lib.byteCells]

set_option maxHeartbeats 2000000 in
set_option maxRecDepth 100000 in
theorem add_yes (B b : Nat) (l : List UInt8) (s : ByteArray) (w : World) (h : WrAt B b l w) (hB : B ≤ w.heap.size) (hs : 0 < s.size) (hle : l.length + s.size ≤ 262144) :
    Calls Tryd.prog 58 #[.pointer (some ⟨b, 0, none⟩), .string s] w fun e w' => e = .returned (.tuple #[]) ∧ WrAt B b (l ++ s.data.toList) w' ∧ KeepW B b w w' := by
  have hL := builder_len B b _ w h.1
  have hP := builder_put B b _ s w h.1 (by simp [Lib.byteCells]; omega) hB
  have hlen : (Lib.byteCells l).length = l.length := by simp [Lib.byteCells]
  rw [hlen] at hL
  have hb0 : decide ((l.length : Int) + (s.size : Int) ≤ 262144) = true := by simp; omega
  have hw : wrap64 ((l.length : Int) + (s.size : Int)) = (l.length : Int) + (s.size : Int) := by unfold wrap64; omega
  have HL := Aside0.mk hL
  have HP := Aside0.mk hP
  have HS := Aside0.mk hs
  clear hL hP h hlen hs hle
  go_enter Tryd.func58, Tryd.ntmps58
  go_wp2_with (first | (go_at_call 46; refine HL.out.mono ?_; rintro e w' ⟨rfl, rfl⟩) | (go_at_call 28; refine (must_ok _ _).mono ?_; rintro e w' ⟨rfl, rfl⟩) | (go_at_call 45; refine HP.out.mono ?_; rintro e w' ⟨rfl, hb, _, hk⟩; have HB := Aside0.mk hb; have HK := Aside0.mk hk; clear hb hk))
  go_end0
  refine ⟨rfl, ⟨.inr ?_, fun hn => ?_⟩, HK.out⟩
  · rw [byteCells_append]; exact HB.out
  · have := congrArg List.length hn
    have h2 := HS.out
    rw [List.length_append, ← size_eq, List.length_nil] at this
    omega
set_option maxHeartbeats 2000000 in
set_option maxRecDepth 100000 in
theorem add_no (B b : Nat) (l : List UInt8) (s : ByteArray) (w : World) (h : WrAt B b l w) (hs : s.size ≤ 1000000000000) (hl : l.length ≤ 262144) (hle : 262144 < l.length + s.size) :
    Calls Tryd.prog 58 #[.pointer (some ⟨b, 0, none⟩), .string s] w fun e w' => e = .panicked (thrown 3) ∧ w = w' := by
  have hL := builder_len B b _ w h.1
  have hlen : (Lib.byteCells l).length = l.length := by simp [Lib.byteCells]
  rw [hlen] at hL
  have hb0 : decide ((l.length : Int) + (s.size : Int) ≤ 262144) = false := by simp; omega
  have hw : wrap64 ((l.length : Int) + (s.size : Int)) = (l.length : Int) + (s.size : Int) := by unfold wrap64; omega
  have HL := Aside0.mk hL
  clear hL h hlen hle
  go_enter Tryd.func58, Tryd.ntmps58
  go_wp2_with (first | (go_at_call 46; refine HL.out.mono ?_; rintro e w' ⟨rfl, rfl⟩) | (go_at_call 28; refine (must_no _ _).mono ?_; rintro e w' ⟨rfl, rfl⟩))
  exact ⟨rfl, rfl, rfl⟩

mutual
/-- The text of a tree, and of trees, parted. -/
def outT : S41 → List UInt8
  | ⟨w, ks⟩ => if w.size = 0 then 40 :: (outL ks ++ [41]) else w.data.toList
def outL : List S41 → List UInt8
  | [] => []
  | x :: xs => outT x ++ outR xs
def outR : List S41 → List UInt8
  | [] => []
  | x :: xs => 32 :: (outT x ++ outR xs)
end
mutual
/-- No word is beyond all bounds. -/
def smT : S41 → Prop
  | ⟨w, ks⟩ => w.size ≤ 1000000000000 ∧ smL ks
def smL : List S41 → Prop
  | [] => True
  | x :: xs => smT x ∧ smL xs
end
theorem smT_eq (x : S41) : smT x = (x.f0.size ≤ 1000000000000 ∧ smL x.f1) := by cases x; rfl
theorem smL_iff {l : List S41} : smL l ↔ ∀ x ∈ l, smT x := by
  induction l with
  | nil => simp [smL]
  | cons x xs ih => simp [smL, ih]
theorem outT_eq (x : S41) : outT x = if x.f0.size = 0 then 40 :: (outL x.f1 ++ [41]) else x.f0.data.toList := by cases x; rfl

theorem out_take {l : List S41} {i : Nat} (h : i < l.length) : outL (l.take (i + 1)) = outL (l.take i) ++ ((if i = 0 then [] else [32]) ++ outT (rd_T41 l (i : Int))) := by
  have hR : ∀ (l : List S41) (i : Nat), i < l.length → outR (l.take (i + 1)) = outR (l.take i) ++ (32 :: outT (rd_T41 l (i : Int))) := by
    intro l
    induction l with
    | nil => intro i h; simp at h
    | cons x xs ih =>
      intro i h
      cases i with
      | zero => simp [outR, rd_T41]
      | succ i =>
        simp only [List.take_succ_cons, outR]
        rw [ih i (by simpa using h)]
        simp [rd_T41, List.getD]
  cases l with
  | nil => simp at h
  | cons x xs =>
    cases i with
    | zero => simp [outL, outR, rd_T41]
    | succ i =>
      simp only [List.take_succ_cons, outL]
      rw [hR xs i (by simpa using h)]
      simp [rd_T41, List.getD]
theorem outR_len : ∀ (l : List S41) (i : Nat), (outR (l.take i)).length ≤ (outR l).length
  | [], _ => by simp [outR]
  | x :: xs, 0 => by simp [outR]
  | x :: xs, i + 1 => by
    have := outR_len xs i
    simp only [List.take_succ_cons, outR, List.length_cons, List.length_append]; omega
theorem out_len (l : List S41) (i : Nat) : (outL (l.take i)).length ≤ (outL l).length := by
  cases l with
  | nil => simp [outL]
  | cons x xs =>
    cases i with
    | zero => simp [outL]
    | succ i =>
      have := outR_len xs i
      simp only [List.take_succ_cons, outL, List.length_append]; omega
theorem WrAt.move {B b : Nat} {l : List UInt8} {W W' : World} (h : WrAt B b l W) (hm : ∀ k, B ≤ k → k < W.heap.size → (k = b ∨ ∃ c, W.heap[k]? = some (.cells c 5 (0, 0))) → W'.heap[k]? = W.heap[k]?) : WrAt B b l W' := by
  have mv : ∀ {p : Value}, Lib.BuilderAt 77 5 B b p (Lib.byteCells l) W → Lib.BuilderAt 77 5 B b p (Lib.byteCells l) W' := by
    rintro p ⟨hB, v, hb, hown, hne⟩
    refine ⟨hB, v, (hm b hB (size_of hb) (.inl rfl)).trans hb, own_move hown fun k hk => ?_, hne⟩
    exact hm k (own_base hown k hk) (own_lt hown k hk) (.inr (own_typed hown k hk))
  refine ⟨h.1.elim (fun h => .inl (mv h)) (fun h => .inr (mv h)), fun hl => ?_⟩
  have hb := h.2 hl
  have hB : B ≤ b := h.1.elim (fun h => h.1) (fun h => h.1)
  exact (hm b hB (size_of hb) (.inl rfl)).trans hb
theorem box_world {wr w2 : World} {gb : Nat} {a v : Value} (hb2 : Below wr.heap.size wr w2) (hg : gb = wr.heap.size) :
    Below wr.heap.size wr ((w2.setCell ⟨gb, 0, none⟩ a).setCell ⟨gb, 1, none⟩ v) :=
  (hb2.setCell (p := ⟨gb, 0, none⟩) (by simp; omega) a).setCell (p := ⟨gb, 1, none⟩) (by simp; omega) v
theorem WrAt.lt {B b : Nat} {l : List UInt8} {W : World} (h : WrAt B b l W) : b < W.heap.size := by
  rcases h.1 with h | h
  · obtain ⟨_, v, hb, _⟩ := h; exact size_of hb
  · obtain ⟨_, v, hb, _⟩ := h; exact size_of hb
theorem box_kept {B b gb : Nat} {x y : Value} {w w' : World} (h : w.heap[gb]? = some (.cells #[x, y] 41 (0, 0))) (hk : KeepW B b w w') (hne : gb ≠ b) : w'.heap[gb]? = some (.cells #[x, y] 41 (0, 0)) :=
  (hk.2 gb (size_of h) hne (fun c _ hc => by rw [h] at hc; simp at hc)).trans h

/-- Within a round: the writer, the round's box, what is kept. -/
structure St (B b gb : Nat) (W w : World) (S : List UInt8) (x : S41) (A1 : Option Addr) (c1 : Nat) : Prop where
  wr : WrAt B b S w
  box : w.heap[gb]? = some (.cells #[.string x.f0, .slice A1 x.f1.length c1] 41 (0, 0))
  kp : KeepW B b W w
  ne : gb ≠ b
  hB : B ≤ w.heap.size
  len : S.length ≤ 262144
theorem St.next {B b gb : Nat} {W w w' : World} {S S' : List UInt8} {x : S41} {A1 : Option Addr} {c1 : Nat} (h : St B b gb W w S x A1 c1) (hw : WrAt B b S' w') (hk : KeepW B b w w') (hl : S'.length ≤ 262144) : St B b gb W w' S' x A1 c1 :=
  ⟨hw, box_kept h.box hk h.ne, h.kp.trans hk, h.ne, Nat.le_trans h.hB hk.1.size, hl⟩
theorem St.start {B b gb : Nat} {W wr w2 : World} {S : List UInt8} {x : S41} {A1 : Option Addr} {c1 : Nat} {u v : Value} (hw : WrAt B b S wr) (hk : KeepW B b W wr) (hB : B ≤ W.heap.size) (hl : S.length ≤ 262144)
    (hb2 : Below wr.heap.size wr w2) (hg : gb = wr.heap.size) (hbox : w2.heap[gb]? = some (.cells #[u, v] 41 (0, 0))) :
    St B b gb W ((w2.setCell ⟨gb, 0, none⟩ (.string x.f0)).setCell ⟨gb, 1, none⟩ (.slice A1 x.f1.length c1)) S x A1 c1 := by
  have hbw := box_world (a := .string x.f0) (v := .slice A1 x.f1.length c1) hb2 hg
  refine ⟨hw.move fun k _ hk _ => hbw.block k hk, by simpa using blk_set (blk_set hbox 0 (.string x.f0)) 1 (.slice A1 x.f1.length c1), hk.trans (KeepW.of_below hbw), ?_, ?_, hl⟩
  · have := hw.lt; omega
  · have h1 := hbw.size; have h2 := hk.1.size; omega
theorem St.word {B b gb : Nat} {W w : World} {S : List UInt8} {x : S41} {A1 : Option Addr} {c1 : Nat} (h : St B b gb W w S x A1 c1) : w.cell? ⟨gb, 0, none⟩ = some (.string x.f0) := cell_blk h.box 0 _ rfl
theorem St.kids {B b gb : Nat} {W w : World} {S : List UInt8} {x : S41} {A1 : Option Addr} {c1 : Nat} (h : St B b gb W w S x A1 c1) : w.cell? ⟨gb, 1, none⟩ = some (.slice A1 x.f1.length c1) := cell_blk h.box 1 _ rfl
theorem tot_len {t : List UInt8} {l : List S41} {i : Nat} (h : i < l.length) : (t ++ outL (l.take i)).length + (if i = 0 then [] else [(32 : UInt8)]).length + (outT (rd_T41 l (i : Int))).length ≤ (t ++ outL l).length := by
  have h1 := out_len l (i + 1)
  rw [out_take h] at h1
  simp only [List.length_append] at h1 ⊢
  omega
theorem fin_eq {t P : List UInt8} {l : List S41} {i : Nat} (h : i < l.length) (hp : (if i = 0 then [] else [32]) ++ outT (rd_T41 l (i : Int)) = P) : (t ++ outL (l.take i)) ++ P = t ++ outL (l.take (i + 1)) := by
  rw [out_take h, hp, List.append_assoc]

set_option maxHeartbeats 8000000 in
set_option maxRecDepth 100000 in
theorem row_calls (n : Nat) : ∀ (A : Option Addr) (c : Nat) (l : List S41) (B b : Nat) (t : List UInt8) (W0 W : World) (_ : Kd.C k41 W0 A l.length l) (_ : l.length ≤ c) (_ : SizeOf.sizeOf l ≤ n) (_ : smL l) (_ : WrAt B b t W) (_ : t.length ≤ 262144)
    (_ : B ≤ W.heap.size) (_ : W0.heap.size ≤ b) (_ : W0.heap.size ≤ B) (_ : Below W0.heap.size W0 W),
    Calls Tryd.prog 37 #[.pointer (some ⟨b, 0, none⟩), .slice A l.length c] W fun e w' =>
      ((t ++ outL l).length ≤ 262144 ∧ e = .returned (.tuple #[]) ∧ WrAt B b (t ++ outL l) w' ∧ KeepW B b W w') ∨ (262144 < (t ++ outL l).length ∧ e = .panicked (thrown 3) ∧ KeepW B b W w') := by
  induction n with
  | zero => intro A c l B b t W0 W _ _ hn; cases l <;> simp at hn
  | succ n ih =>
  intro A c l B b t W0 W hr hc hn hsm h ht hB hb hBb hW
  have HR := Aside0.mk hr
  have HC := Aside0.mk hc
  have HL := Aside0.mk (C_len hr)
  have HN := Aside0.mk hn
  have IH := Aside0.mk ih
  have HT := Aside0.mk ht
  have HB := Aside0.mk hB
  have Hb := Aside0.mk hb
  have HBb := Aside0.mk hBb
  have HW := Aside0.mk hW
  have HWR := Aside0.mk h
  have HSM := Aside0.mk hsm
  clear hr hc hn ih ht hB hb hBb hW h hsm
  go_enter Tryd.func37, Tryd.ntmps37
  go_wp2
  go_loopw [8] (fun v wr => ∃ i : Nat, v = .int .i64 i ∧ i ≤ l.length ∧ (t ++ outL (l.take i)).length ≤ 262144 ∧ WrAt B b (t ++ outL (l.take i)) wr ∧ KeepW B b W wr) (fun v _ => l.length - idx v)
  case atStart => exact ⟨0, rfl, Nat.zero_le _, by simp [outL]; exact HT.out, by simpa [outL] using HWR.out, KeepW.refl _ _ _⟩
  case round =>
    obtain ⟨i, rfl, hil, hti, hwr, hkw⟩ := hrel
    have HI := Aside0.mk hil
    have HTI := Aside0.mk hti
    have HWI := Aside0.mk hwr
    have HKI := Aside0.mk hkw
    clear HWR hil hti hwr hkw
    by_cases hi : i < l.length
    · have hi0 : decide ((i : Int) < (l.length : Int)) = true := by simp; exact hi
      obtain ⟨ad, A1, c1, rfl, hx0, hx1, hl1, hk1⟩ := at_T41 HR.out (i : Int) (by omega) (by omega)
      obtain ⟨x, hx⟩ : ∃ x, rd_T41 l (i : Int) = x := ⟨_, rfl⟩
      rw [hx] at hx0 hx1 hl1 hk1
      have hwb : Below W0.heap.size W0 wr := HW.out.trans (HKI.out.below HW.out.size Hb.out HBb.out)
      replace hx0 := (hwb.cell (World.block_lt_of_cell? W0 _ hx0)).trans hx0
      replace hx1 := (hwb.cell (World.block_lt_of_cell? W0 _ hx1)).trans hx1
      have HX := Aside0.mk hx
      have HL1 := Aside0.mk hl1
      have HK1 := Aside0.mk hk1
      have HWB := Aside0.mk hwb
      clear hx hl1 hk1 hwb
      obtain ⟨ii, hii⟩ : ∃ ii : Int, (i : Int) = ii := ⟨_, rfl⟩
      rw [hii] at hi0 hx0 hx1 ⊢
      have p1 : (0 ≤ ii) = True := eq_true (by omega)
      have p2 : (ii < (l.length : Int)) = True := eq_true (by omega)
      have HII := Aside0.mk hi
      have HIJ := Aside0.mk hii
      clear hi hii
      have HTOT := Aside0.mk (tot_len (t := t) HII.out)
      cases hz : decide (0 < ii) with
      | false =>
        have HI0 : Aside0 (i = 0) := ⟨by have h1 := of_decide_eq_false hz; have h2 := HIJ.out; omega⟩
        cases he : x.f0.toList.isEmpty with
        | false =>
          have HSZ : Aside0 (¬ x.f0.size = 0) := ⟨by rw [empty_size] at he; exact beq_eq_false_iff_ne.1 he⟩
          go_wp2_with (first | ((with_reducible refine gate_dst (N := 5) rfl ?_); refine box_event ?hg (N := 5) ?hd (cs := #[.string (⟨#[]⟩ : ByteArray), .slice none 0 0]) (t := 41) ?hr ?_; (case hd => rfl); (case hg => rfl); (case hr => first | (go_simp; done) | (go_simp; rfl)); intro gb hg w2 hbox hb; have HB2 := Aside0.mk hb; have HG := Aside0.mk hg; have BK := Aside0.mk hbox; have hcz0 : w2.cell? ⟨gb, 0, none⟩ = some (.string (⟨#[]⟩ : ByteArray)) := cell_blk hbox 0 _ rfl; have hcz1 : w2.cell? ⟨gb, 1, none⟩ = some (.slice none 0 0) := cell_blk hbox 1 _ rfl; have hfz0 := frozen_blk hbox 0; have hfz1 := frozen_blk hbox 1; clear hb hbox hg))
          have hst := St.start (x := x) (A1 := A1) (c1 := c1) HWI.out HKI.out HB.out HTI.out HB2.out HG.out BK.out
          obtain ⟨w3, hw3⟩ : ∃ w3, ((w2.setCell ⟨gb, 0, none⟩ (.string x.f0)).setCell ⟨gb, 1, none⟩ (.slice A1 x.f1.length c1)) = w3 := ⟨_, rfl⟩
          rw [hw3] at hst ⊢
          obtain ⟨T, hT⟩ : ∃ T, t ++ outL (l.take i) = T := ⟨_, rfl⟩
          rw [hT] at hst
          have HTD := Aside0.mk hT
          have HS := Aside0.mk hst
          have hd0 := HS.out.word
          have hd1 := HS.out.kids
          clear hst hw3 hT hcz0 hcz1 hfz0 hfz1 hx0 hx1
          by_cases hf : T.length + (x.f0 : ByteArray).size ≤ 262144
          · refine (add_yes B b T x.f0 _ HS.out.wr HS.out.hB (by have := HSZ.out; omega) hf).mono ?_
            rintro e w5 ⟨rfl, hwr5, hk5⟩
            have hs5 : St B b gb W w5 (T ++ x.f0.data.toList) x A1 c1 := HS.out.next hwr5 hk5 (by have h7 := size_eq (x.f0 : ByteArray); simp only [List.length_append] at hf ⊢; exact Nat.le_trans (Nat.le_of_eq (by first | rfl | (rw [h7]; rfl) | rw [h7])) hf)
            have HS := Aside0.mk hs5
            have hd0 := HS.out.word
            have hd1 := HS.out.kids
            clear hs5 hwr5 hk5 hf
            go_wp2_with fail
            go_roundw
            case rel =>
              have he := fin_eq (t := t) (P := (x.f0.data.toList)) HII.out (by rw [HX.out, outT_eq, if_pos HI0.out, if_neg HSZ.out]; simp)
              rw [HTD.out] at he
              have hs := HS.out
              rw [show (T ++ x.f0.data.toList) = t ++ outL (l.take (i + 1)) from by rw [← he]] at hs
              exact ⟨i + 1, by rw [← HIJ.out, wrap_i (by have := HII.out; have := HC.out; have := HL.out; omega)], HII.out, hs.len, hs.wr, hs.kp⟩
            case measure => rw [← HIJ.out, wrap_i (by have := HII.out; have := HC.out; have := HL.out; omega)]; have := HII.out; simp [idx]; try omega

          · refine (add_no B b T x.f0 _ HS.out.wr (by have h1 := smL_iff.1 HSM.out _ (rd_mem HII.out); rw [HX.out, smT_eq] at h1; exact h1.1) HS.out.len (by omega)).mono ?_
            rintro e w5 ⟨rfl, rfl⟩
            refine ⟨rfl, .inr ⟨?_, rfl, HS.out.kp⟩⟩
            have h1 := HTOT.out
            rw [HX.out, HTD.out, outT_eq, if_pos HI0.out, if_neg HSZ.out] at h1
            have h7 := size_eq x.f0
            have e32 : (⟨#[32]⟩ : ByteArray).size = 1 := rfl
            have e40 : (⟨#[40]⟩ : ByteArray).size = 1 := rfl
            have e41 : (⟨#[41]⟩ : ByteArray).size = 1 := rfl
            simp only [List.length_append, List.length_cons, List.length_nil] at h1 hf ⊢
            omega

        | true =>
          have HSZ : Aside0 (x.f0.size = 0) := ⟨by rw [empty_size] at he; exact eq_of_beq he⟩
          go_wp2_with (first | ((with_reducible refine gate_dst (N := 5) rfl ?_); refine box_event ?hg (N := 5) ?hd (cs := #[.string (⟨#[]⟩ : ByteArray), .slice none 0 0]) (t := 41) ?hr ?_; (case hd => rfl); (case hg => rfl); (case hr => first | (go_simp; done) | (go_simp; rfl)); intro gb hg w2 hbox hb; have HB2 := Aside0.mk hb; have HG := Aside0.mk hg; have BK := Aside0.mk hbox; have hcz0 : w2.cell? ⟨gb, 0, none⟩ = some (.string (⟨#[]⟩ : ByteArray)) := cell_blk hbox 0 _ rfl; have hcz1 : w2.cell? ⟨gb, 1, none⟩ = some (.slice none 0 0) := cell_blk hbox 1 _ rfl; have hfz0 := frozen_blk hbox 0; have hfz1 := frozen_blk hbox 1; clear hb hbox hg))
          have hst := St.start (x := x) (A1 := A1) (c1 := c1) HWI.out HKI.out HB.out HTI.out HB2.out HG.out BK.out
          obtain ⟨w3, hw3⟩ : ∃ w3, ((w2.setCell ⟨gb, 0, none⟩ (.string x.f0)).setCell ⟨gb, 1, none⟩ (.slice A1 x.f1.length c1)) = w3 := ⟨_, rfl⟩
          rw [hw3] at hst ⊢
          obtain ⟨T, hT⟩ : ∃ T, t ++ outL (l.take i) = T := ⟨_, rfl⟩
          rw [hT] at hst
          have HTD := Aside0.mk hT
          have HS := Aside0.mk hst
          have hd0 := HS.out.word
          have hd1 := HS.out.kids
          clear hst hw3 hT hcz0 hcz1 hfz0 hfz1 hx0 hx1
          by_cases hf : T.length + (⟨#[40]⟩ : ByteArray).size ≤ 262144
          · refine (add_yes B b T ⟨#[40]⟩ _ HS.out.wr HS.out.hB (by decide) hf).mono ?_
            rintro e w5 ⟨rfl, hwr5, hk5⟩
            have hs5 : St B b gb W w5 (T ++ [40]) x A1 c1 := HS.out.next hwr5 hk5 (by have h7 := size_eq (⟨#[40]⟩ : ByteArray); simp only [List.length_append] at hf ⊢; exact Nat.le_trans (Nat.le_of_eq (by first | rfl | (rw [h7]; rfl) | rw [h7])) hf)
            have HS := Aside0.mk hs5
            have hd0 := HS.out.word
            have hd1 := HS.out.kids
            clear hs5 hwr5 hk5 hf
            go_wp2_with fail
            refine (IH.out A1 c1 x.f1 B b (T ++ [40]) W0 _ HK1.out HL1.out (by have h1 := size41 (rd_mem HII.out); rw [HX.out] at h1; have h2 := HN.out; omega) (by have h1 := smL_iff.1 HSM.out _ (rd_mem HII.out); rw [HX.out, smT_eq] at h1; exact h1.2) HS.out.wr HS.out.len HS.out.hB Hb.out HBb.out (HW.out.trans (HS.out.kp.below HW.out.size Hb.out HBb.out))).mono ?_
            rintro e w6 (⟨hl6, rfl, hwr6, hk6⟩ | ⟨hl6, rfl, hk6⟩)
            · have hs6 := HS.out.next hwr6 hk6 hl6
              have HS := Aside0.mk hs6
              have hd0 := HS.out.word
              have hd1 := HS.out.kids
              clear hs6 hwr6 hk6 hl6
              go_wp2_with fail
              by_cases hf : ((T ++ [40]) ++ outL x.f1).length + (⟨#[41]⟩ : ByteArray).size ≤ 262144
              · refine (add_yes B b ((T ++ [40]) ++ outL x.f1) ⟨#[41]⟩ _ HS.out.wr HS.out.hB (by decide) hf).mono ?_
                rintro e w5 ⟨rfl, hwr5, hk5⟩
                have hs5 : St B b gb W w5 (((T ++ [40]) ++ outL x.f1) ++ [41]) x A1 c1 := HS.out.next hwr5 hk5 (by have h7 := size_eq (⟨#[41]⟩ : ByteArray); simp only [List.length_append] at hf ⊢; exact Nat.le_trans (Nat.le_of_eq (by first | rfl | (rw [h7]; rfl) | rw [h7])) hf)
                have HS := Aside0.mk hs5
                have hd0 := HS.out.word
                have hd1 := HS.out.kids
                clear hs5 hwr5 hk5 hf
                go_wp2_with fail
                go_roundw
                case rel =>
                  have he := fin_eq (t := t) (P := ((40 :: (outL x.f1 ++ [41])))) HII.out (by rw [HX.out, outT_eq, if_pos HI0.out, if_pos HSZ.out]; simp)
                  rw [HTD.out] at he
                  have hs := HS.out
                  rw [show (((T ++ [40]) ++ outL x.f1) ++ [41]) = t ++ outL (l.take (i + 1)) from by rw [← he]; try simp] at hs
                  exact ⟨i + 1, by rw [← HIJ.out, wrap_i (by have := HII.out; have := HC.out; have := HL.out; omega)], HII.out, hs.len, hs.wr, hs.kp⟩
                case measure => rw [← HIJ.out, wrap_i (by have := HII.out; have := HC.out; have := HL.out; omega)]; have := HII.out; simp [idx]; try omega

              · refine (add_no B b ((T ++ [40]) ++ outL x.f1) ⟨#[41]⟩ _ HS.out.wr (by decide) HS.out.len (by omega)).mono ?_
                rintro e w5 ⟨rfl, rfl⟩
                refine ⟨rfl, .inr ⟨?_, rfl, HS.out.kp⟩⟩
                have h1 := HTOT.out
                rw [HX.out, HTD.out, outT_eq, if_pos HI0.out, if_pos HSZ.out] at h1
                have h7 := size_eq x.f0
                have e32 : (⟨#[32]⟩ : ByteArray).size = 1 := rfl
                have e40 : (⟨#[40]⟩ : ByteArray).size = 1 := rfl
                have e41 : (⟨#[41]⟩ : ByteArray).size = 1 := rfl
                simp only [List.length_append, List.length_cons, List.length_nil] at h1 hf ⊢
                omega

            · refine ⟨rfl, .inr ⟨?_, rfl, HS.out.kp.trans hk6⟩⟩
              have h1 := HTOT.out
              rw [HX.out, HTD.out, outT_eq, if_pos HI0.out, if_pos HSZ.out] at h1
              have h7 := size_eq x.f0
              have e32 : (⟨#[32]⟩ : ByteArray).size = 1 := rfl
              have e40 : (⟨#[40]⟩ : ByteArray).size = 1 := rfl
              have e41 : (⟨#[41]⟩ : ByteArray).size = 1 := rfl
              simp only [List.length_append, List.length_cons, List.length_nil] at h1 hl6 ⊢
              omega

          · refine (add_no B b T ⟨#[40]⟩ _ HS.out.wr (by decide) HS.out.len (by omega)).mono ?_
            rintro e w5 ⟨rfl, rfl⟩
            refine ⟨rfl, .inr ⟨?_, rfl, HS.out.kp⟩⟩
            have h1 := HTOT.out
            rw [HX.out, HTD.out, outT_eq, if_pos HI0.out, if_pos HSZ.out] at h1
            have h7 := size_eq x.f0
            have e32 : (⟨#[32]⟩ : ByteArray).size = 1 := rfl
            have e40 : (⟨#[40]⟩ : ByteArray).size = 1 := rfl
            have e41 : (⟨#[41]⟩ : ByteArray).size = 1 := rfl
            simp only [List.length_append, List.length_cons, List.length_nil] at h1 hf ⊢
            omega

      | true =>
        have HI0 : Aside0 (¬ i = 0) := ⟨by have h1 := of_decide_eq_true hz; have h2 := HIJ.out; omega⟩
        cases he : x.f0.toList.isEmpty with
        | false =>
          have HSZ : Aside0 (¬ x.f0.size = 0) := ⟨by rw [empty_size] at he; exact beq_eq_false_iff_ne.1 he⟩
          go_wp2_with (first | ((with_reducible refine gate_dst (N := 5) rfl ?_); refine box_event ?hg (N := 5) ?hd (cs := #[.string (⟨#[]⟩ : ByteArray), .slice none 0 0]) (t := 41) ?hr ?_; (case hd => rfl); (case hg => rfl); (case hr => first | (go_simp; done) | (go_simp; rfl)); intro gb hg w2 hbox hb; have HB2 := Aside0.mk hb; have HG := Aside0.mk hg; have BK := Aside0.mk hbox; have hcz0 : w2.cell? ⟨gb, 0, none⟩ = some (.string (⟨#[]⟩ : ByteArray)) := cell_blk hbox 0 _ rfl; have hcz1 : w2.cell? ⟨gb, 1, none⟩ = some (.slice none 0 0) := cell_blk hbox 1 _ rfl; have hfz0 := frozen_blk hbox 0; have hfz1 := frozen_blk hbox 1; clear hb hbox hg))
          have hst := St.start (x := x) (A1 := A1) (c1 := c1) HWI.out HKI.out HB.out HTI.out HB2.out HG.out BK.out
          obtain ⟨w3, hw3⟩ : ∃ w3, ((w2.setCell ⟨gb, 0, none⟩ (.string x.f0)).setCell ⟨gb, 1, none⟩ (.slice A1 x.f1.length c1)) = w3 := ⟨_, rfl⟩
          rw [hw3] at hst ⊢
          obtain ⟨T, hT⟩ : ∃ T, t ++ outL (l.take i) = T := ⟨_, rfl⟩
          rw [hT] at hst
          have HTD := Aside0.mk hT
          have HS := Aside0.mk hst
          have hd0 := HS.out.word
          have hd1 := HS.out.kids
          clear hst hw3 hT hcz0 hcz1 hfz0 hfz1 hx0 hx1
          by_cases hf : T.length + (⟨#[32]⟩ : ByteArray).size ≤ 262144
          · refine (add_yes B b T ⟨#[32]⟩ _ HS.out.wr HS.out.hB (by decide) hf).mono ?_
            rintro e w5 ⟨rfl, hwr5, hk5⟩
            have hs5 : St B b gb W w5 (T ++ [32]) x A1 c1 := HS.out.next hwr5 hk5 (by have h7 := size_eq (⟨#[32]⟩ : ByteArray); simp only [List.length_append] at hf ⊢; exact Nat.le_trans (Nat.le_of_eq (by first | rfl | (rw [h7]; rfl) | rw [h7])) hf)
            have HS := Aside0.mk hs5
            have hd0 := HS.out.word
            have hd1 := HS.out.kids
            clear hs5 hwr5 hk5 hf
            go_wp2_with fail
            by_cases hf : (T ++ [32]).length + (x.f0 : ByteArray).size ≤ 262144
            · refine (add_yes B b (T ++ [32]) x.f0 _ HS.out.wr HS.out.hB (by have := HSZ.out; omega) hf).mono ?_
              rintro e w5 ⟨rfl, hwr5, hk5⟩
              have hs5 : St B b gb W w5 ((T ++ [32]) ++ x.f0.data.toList) x A1 c1 := HS.out.next hwr5 hk5 (by have h7 := size_eq (x.f0 : ByteArray); simp only [List.length_append] at hf ⊢; exact Nat.le_trans (Nat.le_of_eq (by first | rfl | (rw [h7]; rfl) | rw [h7])) hf)
              have HS := Aside0.mk hs5
              have hd0 := HS.out.word
              have hd1 := HS.out.kids
              clear hs5 hwr5 hk5 hf
              go_wp2_with fail
              go_roundw
              case rel =>
                have he := fin_eq (t := t) (P := (32 :: x.f0.data.toList)) HII.out (by rw [HX.out, outT_eq, if_neg HI0.out, if_neg HSZ.out]; simp)
                rw [HTD.out] at he
                have hs := HS.out
                rw [show ((T ++ [32]) ++ x.f0.data.toList) = t ++ outL (l.take (i + 1)) from by rw [← he]; try simp] at hs
                exact ⟨i + 1, by rw [← HIJ.out, wrap_i (by have := HII.out; have := HC.out; have := HL.out; omega)], HII.out, hs.len, hs.wr, hs.kp⟩
              case measure => rw [← HIJ.out, wrap_i (by have := HII.out; have := HC.out; have := HL.out; omega)]; have := HII.out; simp [idx]; try omega

            · refine (add_no B b (T ++ [32]) x.f0 _ HS.out.wr (by have h1 := smL_iff.1 HSM.out _ (rd_mem HII.out); rw [HX.out, smT_eq] at h1; exact h1.1) HS.out.len (by omega)).mono ?_
              rintro e w5 ⟨rfl, rfl⟩
              refine ⟨rfl, .inr ⟨?_, rfl, HS.out.kp⟩⟩
              have h1 := HTOT.out
              rw [HX.out, HTD.out, outT_eq, if_neg HI0.out, if_neg HSZ.out] at h1
              have h7 := size_eq x.f0
              have e32 : (⟨#[32]⟩ : ByteArray).size = 1 := rfl
              have e40 : (⟨#[40]⟩ : ByteArray).size = 1 := rfl
              have e41 : (⟨#[41]⟩ : ByteArray).size = 1 := rfl
              simp only [List.length_append, List.length_cons, List.length_nil] at h1 hf ⊢
              omega

          · refine (add_no B b T ⟨#[32]⟩ _ HS.out.wr (by decide) HS.out.len (by omega)).mono ?_
            rintro e w5 ⟨rfl, rfl⟩
            refine ⟨rfl, .inr ⟨?_, rfl, HS.out.kp⟩⟩
            have h1 := HTOT.out
            rw [HX.out, HTD.out, outT_eq, if_neg HI0.out, if_neg HSZ.out] at h1
            have h7 := size_eq x.f0
            have e32 : (⟨#[32]⟩ : ByteArray).size = 1 := rfl
            have e40 : (⟨#[40]⟩ : ByteArray).size = 1 := rfl
            have e41 : (⟨#[41]⟩ : ByteArray).size = 1 := rfl
            simp only [List.length_append, List.length_cons, List.length_nil] at h1 hf ⊢
            omega

        | true =>
          have HSZ : Aside0 (x.f0.size = 0) := ⟨by rw [empty_size] at he; exact eq_of_beq he⟩
          go_wp2_with (first | ((with_reducible refine gate_dst (N := 5) rfl ?_); refine box_event ?hg (N := 5) ?hd (cs := #[.string (⟨#[]⟩ : ByteArray), .slice none 0 0]) (t := 41) ?hr ?_; (case hd => rfl); (case hg => rfl); (case hr => first | (go_simp; done) | (go_simp; rfl)); intro gb hg w2 hbox hb; have HB2 := Aside0.mk hb; have HG := Aside0.mk hg; have BK := Aside0.mk hbox; have hcz0 : w2.cell? ⟨gb, 0, none⟩ = some (.string (⟨#[]⟩ : ByteArray)) := cell_blk hbox 0 _ rfl; have hcz1 : w2.cell? ⟨gb, 1, none⟩ = some (.slice none 0 0) := cell_blk hbox 1 _ rfl; have hfz0 := frozen_blk hbox 0; have hfz1 := frozen_blk hbox 1; clear hb hbox hg))
          have hst := St.start (x := x) (A1 := A1) (c1 := c1) HWI.out HKI.out HB.out HTI.out HB2.out HG.out BK.out
          obtain ⟨w3, hw3⟩ : ∃ w3, ((w2.setCell ⟨gb, 0, none⟩ (.string x.f0)).setCell ⟨gb, 1, none⟩ (.slice A1 x.f1.length c1)) = w3 := ⟨_, rfl⟩
          rw [hw3] at hst ⊢
          obtain ⟨T, hT⟩ : ∃ T, t ++ outL (l.take i) = T := ⟨_, rfl⟩
          rw [hT] at hst
          have HTD := Aside0.mk hT
          have HS := Aside0.mk hst
          have hd0 := HS.out.word
          have hd1 := HS.out.kids
          clear hst hw3 hT hcz0 hcz1 hfz0 hfz1 hx0 hx1
          by_cases hf : T.length + (⟨#[32]⟩ : ByteArray).size ≤ 262144
          · refine (add_yes B b T ⟨#[32]⟩ _ HS.out.wr HS.out.hB (by decide) hf).mono ?_
            rintro e w5 ⟨rfl, hwr5, hk5⟩
            have hs5 : St B b gb W w5 (T ++ [32]) x A1 c1 := HS.out.next hwr5 hk5 (by have h7 := size_eq (⟨#[32]⟩ : ByteArray); simp only [List.length_append] at hf ⊢; exact Nat.le_trans (Nat.le_of_eq (by first | rfl | (rw [h7]; rfl) | rw [h7])) hf)
            have HS := Aside0.mk hs5
            have hd0 := HS.out.word
            have hd1 := HS.out.kids
            clear hs5 hwr5 hk5 hf
            go_wp2_with fail
            by_cases hf : (T ++ [32]).length + (⟨#[40]⟩ : ByteArray).size ≤ 262144
            · refine (add_yes B b (T ++ [32]) ⟨#[40]⟩ _ HS.out.wr HS.out.hB (by decide) hf).mono ?_
              rintro e w5 ⟨rfl, hwr5, hk5⟩
              have hs5 : St B b gb W w5 ((T ++ [32]) ++ [40]) x A1 c1 := HS.out.next hwr5 hk5 (by have h7 := size_eq (⟨#[40]⟩ : ByteArray); simp only [List.length_append] at hf ⊢; exact Nat.le_trans (Nat.le_of_eq (by first | rfl | (rw [h7]; rfl) | rw [h7])) hf)
              have HS := Aside0.mk hs5
              have hd0 := HS.out.word
              have hd1 := HS.out.kids
              clear hs5 hwr5 hk5 hf
              go_wp2_with fail
              refine (IH.out A1 c1 x.f1 B b ((T ++ [32]) ++ [40]) W0 _ HK1.out HL1.out (by have h1 := size41 (rd_mem HII.out); rw [HX.out] at h1; have h2 := HN.out; omega) (by have h1 := smL_iff.1 HSM.out _ (rd_mem HII.out); rw [HX.out, smT_eq] at h1; exact h1.2) HS.out.wr HS.out.len HS.out.hB Hb.out HBb.out (HW.out.trans (HS.out.kp.below HW.out.size Hb.out HBb.out))).mono ?_
              rintro e w6 (⟨hl6, rfl, hwr6, hk6⟩ | ⟨hl6, rfl, hk6⟩)
              · have hs6 := HS.out.next hwr6 hk6 hl6
                have HS := Aside0.mk hs6
                have hd0 := HS.out.word
                have hd1 := HS.out.kids
                clear hs6 hwr6 hk6 hl6
                go_wp2_with fail
                by_cases hf : (((T ++ [32]) ++ [40]) ++ outL x.f1).length + (⟨#[41]⟩ : ByteArray).size ≤ 262144
                · refine (add_yes B b (((T ++ [32]) ++ [40]) ++ outL x.f1) ⟨#[41]⟩ _ HS.out.wr HS.out.hB (by decide) hf).mono ?_
                  rintro e w5 ⟨rfl, hwr5, hk5⟩
                  have hs5 : St B b gb W w5 ((((T ++ [32]) ++ [40]) ++ outL x.f1) ++ [41]) x A1 c1 := HS.out.next hwr5 hk5 (by have h7 := size_eq (⟨#[41]⟩ : ByteArray); simp only [List.length_append] at hf ⊢; exact Nat.le_trans (Nat.le_of_eq (by first | rfl | (rw [h7]; rfl) | rw [h7])) hf)
                  have HS := Aside0.mk hs5
                  have hd0 := HS.out.word
                  have hd1 := HS.out.kids
                  clear hs5 hwr5 hk5 hf
                  go_wp2_with fail
                  go_roundw
                  case rel =>
                    have he := fin_eq (t := t) (P := (32 :: (40 :: (outL x.f1 ++ [41])))) HII.out (by rw [HX.out, outT_eq, if_neg HI0.out, if_pos HSZ.out]; simp)
                    rw [HTD.out] at he
                    have hs := HS.out
                    rw [show ((((T ++ [32]) ++ [40]) ++ outL x.f1) ++ [41]) = t ++ outL (l.take (i + 1)) from by rw [← he]; try simp] at hs
                    exact ⟨i + 1, by rw [← HIJ.out, wrap_i (by have := HII.out; have := HC.out; have := HL.out; omega)], HII.out, hs.len, hs.wr, hs.kp⟩
                  case measure => rw [← HIJ.out, wrap_i (by have := HII.out; have := HC.out; have := HL.out; omega)]; have := HII.out; simp [idx]; try omega

                · refine (add_no B b (((T ++ [32]) ++ [40]) ++ outL x.f1) ⟨#[41]⟩ _ HS.out.wr (by decide) HS.out.len (by omega)).mono ?_
                  rintro e w5 ⟨rfl, rfl⟩
                  refine ⟨rfl, .inr ⟨?_, rfl, HS.out.kp⟩⟩
                  have h1 := HTOT.out
                  rw [HX.out, HTD.out, outT_eq, if_neg HI0.out, if_pos HSZ.out] at h1
                  have h7 := size_eq x.f0
                  have e32 : (⟨#[32]⟩ : ByteArray).size = 1 := rfl
                  have e40 : (⟨#[40]⟩ : ByteArray).size = 1 := rfl
                  have e41 : (⟨#[41]⟩ : ByteArray).size = 1 := rfl
                  simp only [List.length_append, List.length_cons, List.length_nil] at h1 hf ⊢
                  omega

              · refine ⟨rfl, .inr ⟨?_, rfl, HS.out.kp.trans hk6⟩⟩
                have h1 := HTOT.out
                rw [HX.out, HTD.out, outT_eq, if_neg HI0.out, if_pos HSZ.out] at h1
                have h7 := size_eq x.f0
                have e32 : (⟨#[32]⟩ : ByteArray).size = 1 := rfl
                have e40 : (⟨#[40]⟩ : ByteArray).size = 1 := rfl
                have e41 : (⟨#[41]⟩ : ByteArray).size = 1 := rfl
                simp only [List.length_append, List.length_cons, List.length_nil] at h1 hl6 ⊢
                omega

            · refine (add_no B b (T ++ [32]) ⟨#[40]⟩ _ HS.out.wr (by decide) HS.out.len (by omega)).mono ?_
              rintro e w5 ⟨rfl, rfl⟩
              refine ⟨rfl, .inr ⟨?_, rfl, HS.out.kp⟩⟩
              have h1 := HTOT.out
              rw [HX.out, HTD.out, outT_eq, if_neg HI0.out, if_pos HSZ.out] at h1
              have h7 := size_eq x.f0
              have e32 : (⟨#[32]⟩ : ByteArray).size = 1 := rfl
              have e40 : (⟨#[40]⟩ : ByteArray).size = 1 := rfl
              have e41 : (⟨#[41]⟩ : ByteArray).size = 1 := rfl
              simp only [List.length_append, List.length_cons, List.length_nil] at h1 hf ⊢
              omega

          · refine (add_no B b T ⟨#[32]⟩ _ HS.out.wr (by decide) HS.out.len (by omega)).mono ?_
            rintro e w5 ⟨rfl, rfl⟩
            refine ⟨rfl, .inr ⟨?_, rfl, HS.out.kp⟩⟩
            have h1 := HTOT.out
            rw [HX.out, HTD.out, outT_eq, if_neg HI0.out, if_pos HSZ.out] at h1
            have h7 := size_eq x.f0
            have e32 : (⟨#[32]⟩ : ByteArray).size = 1 := rfl
            have e40 : (⟨#[40]⟩ : ByteArray).size = 1 := rfl
            have e41 : (⟨#[41]⟩ : ByteArray).size = 1 := rfl
            simp only [List.length_append, List.length_cons, List.length_nil] at h1 hf ⊢
            omega

    · have hi0 : decide ((i : Int) < (l.length : Int)) = false := by simp; omega
      go_wp2
      go_end0
      obtain rfl : i = l.length := by have := HI.out; omega
      have h1 := HTI.out
      have h2 := HWI.out
      rw [List.take_length] at h1 h2
      exact .inl ⟨h1, rfl, h2, HKI.out⟩
end Go.Proofs.YtmjnodjjnjckiaaDoor

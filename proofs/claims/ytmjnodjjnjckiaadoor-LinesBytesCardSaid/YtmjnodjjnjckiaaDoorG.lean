/- A range over a function whose rounds may panic: one round, step by step. No program in sight. -/
import Derived.RangeFuncLeaves
import Derived.RangeFuncNested
import Derived.Test.YtmjnodjjnjckiaaDoorE
import Derived.Shelf.Abstract
import Derived.OwnWalkIn
import Derived.TacticsInMore
import Derived.LoopNIn
import Derived.LoopIn
import Derived.Outline
namespace Go.Proofs.YtmjnodjjnjckiaaDoor
variable {P : Program}

section
variable {b : Frame} {a : Act} {k : List Item} {cs : List Frame} {w w' : World} {ops : Array Oper} {i : Nat} {rest : List Nat} {o : Oper}
theorem stepR_op_value {v : Value} (ho : ops[i]? = some o) (hw : Region.wanted o (yielded ops a.tmps) = true) (hd : ∀ c, o.op ≠ .defer c) (hr : (execOp a.eval o).run P w = .ok (.value v) w') :
    step P (lone (b.atR a (.inRegion ops (i :: rest) :: k)) cs w) = .next (lone (b.atR (a.put o.dst v) (.inRegion ops rest :: k)) cs w') := by
  have hg := stepGR_op (P := P) (b := b) (k := k) (cs := cs) (w := w) (rest := rest) ho hw
  rw [Oper.semAt_eq _ _ _ hd] at hg
  have hfin : (b.atR a (.inRegion ops (i :: rest) :: k)).finish v = b.atR (a.put o.dst v) (.inRegion ops rest :: k) := by
    rw [Frame.finish_atR, ho]; rfl
  refine step_lone_go ?_
  rw [hg, ← hfin]; simp [stepG.apply, hr]
theorem stepR_op_enter {f : FuncId} {args : Array Value} (ho : ops[i]? = some o) (hw : Region.wanted o (yielded ops a.tmps) = true) (hd : ∀ c, o.op ≠ .defer c) (hr : (execOp a.eval o).run P w = .ok (.enter f args) w') :
    step P (lone (b.atR a (.inRegion ops (i :: rest) :: k)) cs w) = .next (lone (Frame.enter P f args .normal) (b.atR a (.inRegion ops (i :: rest) :: k) :: cs) w') := by
  have hg := stepGR_op (P := P) (b := b) (k := k) (cs := cs) (w := w) (rest := rest) ho hw
  rw [Oper.semAt_eq _ _ _ hd] at hg
  refine step_lone_go ?_
  rw [hg]; simp [stepG.apply, hr, Frame.atR]
/-- A round's frame that panics, within a region: the panic goes to who called yield. -/
theorem stepR_region_panics {c : Frame} {chain : List PanicEntry} (hd : a.defers = []) :
    step P (lone ((b.atR a (.inRegion ops (i :: rest) :: k)).raise chain) (c :: cs) w) = .next (lone (c.raise chain) cs w) := by
  refine step_lone_go ?_
  rw [Frame.raise_atR]
  have hc : ({ b.atR a (.inRegion ops (i :: rest) :: k) with mode := .panicking chain } : Frame).catches P = false := by
    unfold Frame.catches Frame.atR
    cases P.funcs[b.fn]? <;> rfl
  have hc' : Frame.catches P { fn := b.fn, tmps := a.tmps, todo := .inRegion ops (i :: rest) :: k, defers := [], mode := .panicking chain, kind := b.kind, roundOf := b.roundOf } = false := by
    rw [← hd]; exact hc
  simp [stepG, unwind, Frame.atR, hd, hc']
end

/-- A round whose body is one region: two operations that yield, and a call; the call may panic. -/
theorem round_calls {l fn n id id2 f : Nat} {tmps t1 t2 t3 : Array Value} {opsA ops : Array Oper} {oA o0 o1 o2 : Oper} {vA v0 v1 : Value} {args : Array Value} {W1 W2 : World} {R : Ending → World → Prop} {idA : Nat}
    (hA : opsA = #[oA]) (hops : ops = #[o0, o1, o2])
    (gA : oA.guard = none) (g0 : o0.guard = none) (g1 : o1.guard = none) (g2 : o2.guard = none)
    (dA : ∀ c, oA.op ≠ .defer c) (d0 : ∀ c, o0.op ≠ .defer c) (d1 : ∀ c, o1.op ≠ .defer c) (d2 : ∀ c, o2.op ≠ .defer c)
    (rA : (execOp (Act.eval { tmps := tmps, defers := [] }) oA).run P W1 = .ok (.value vA) W1) (hA1 : ({ tmps := tmps, defers := [] } : Act).put oA.dst vA = { tmps := t1, defers := [] })
    (hb : (Instr.beginRound l).run P W1 = .ok () W2)
    (r0 : (execOp (Act.eval { tmps := t1, defers := [] }) o0).run P W2 = .ok (.value v0) W2) (h01 : ({ tmps := t1, defers := [] } : Act).put o0.dst v0 = { tmps := t2, defers := [] })
    (r1 : (execOp (Act.eval { tmps := t2, defers := [] }) o1).run P W2 = .ok (.value v1) W2) (h11 : ({ tmps := t2, defers := [] } : Act).put o1.dst v1 = { tmps := t3, defers := [] })
    (r2 : (execOp (Act.eval { tmps := t3, defers := [] }) o2).run P W2 = .ok (.enter f args) W2)
    (hcall : Calls P f args W2 fun e W' => match e with
      | .returned _ => ∃ v' w', (Instr.endRound l none).run P W' = .ok v' w' ∧ R (.returned v') w'
      | .panicked ch => R (.panicked ch) W'
      | .outgrown => False) :
    RoundIn Fence.wide n P l fn tmps (.region idA opsA false) (.block id (.region id2 ops false)) W1 R := by
  subst hA hops
  refine ⟨trivial, fun c cs _ => ?_⟩
  let b : Frame := { (default : Frame) with fn := fn, kind := .normal, roundOf := some l }
  have hb0 : Frame.round l fn tmps (.region idA #[oA] false) (.block id (.region id2 #[o0, o1, o2] false)) .normal =
      b.atR { tmps := tmps, defers := [] } [.code (.region idA #[oA] false), .beginRound, .code (.block id (.region id2 #[o0, o1, o2] false))] := by
    simp [Frame.round, Frame.atR, b]
  have wn : ∀ {o : Oper} {ops : Array Oper} {t : Array Value}, o.guard = none → Region.wanted o (yielded ops t) = true := fun h => by simp [Region.wanted, h]
  have s : Steps P (lone (Frame.round l fn tmps (.region idA #[oA] false) (.block id (.region id2 #[o0, o1, o2] false)) .normal) (c :: cs) W1)
      (lone (Frame.enter P f args .normal) (b.atR { tmps := t3, defers := [] } (.inRegion #[o0, o1, o2] [2] :: [.inBlock id]) :: c :: cs) W2) := by
    rw [hb0]
    refine .head stepR_region ?_
    refine .head (stepR_op_value (i := 0) (rest := []) (o := oA) rfl (wn gA) dA rA) ?_
    rw [hA1]
    refine .head stepR_region_end ?_
    refine .head (stepR_beginRound rfl hb) ?_
    refine .head stepR_block ?_
    refine .head stepR_region ?_
    refine .head (stepR_op_value (i := 0) (rest := [1, 2]) (o := o0) rfl (wn g0) d0 r0) ?_
    rw [h01]
    refine .head (stepR_op_value (i := 1) (rest := [2]) (o := o1) rfl (wn g1) d1 r1) ?_
    rw [h11]
    exact .one (stepR_op_enter (i := 2) (rest := []) (o := o2) rfl (wn g2) d2 r2)
  obtain ⟨e, W', fr, hR, hcomes, hfn, hleave⟩ := hcall (b.atR { tmps := t3, defers := [] } (.inRegion #[o0, o1, o2] [2] :: [.inBlock id]) :: c :: cs)
  cases e with
  | outgrown => exact hR.elim
  | returned v =>
    obtain ⟨v', w', hend, hR'⟩ := hR
    refine ⟨.returned v', w', hR', comesIn_wide.2 ?_⟩
    refine s.trans (Steps.trans hcomes (.head (step_leave_returned hleave) ?_))
    have hfin : (b.atR { tmps := t3, defers := [] } (.inRegion #[o0, o1, o2] [2] :: [.inBlock id])).finish v = b.atR (({ tmps := t3, defers := [] } : Act).put o2.dst v) (.inRegion #[o0, o1, o2] [] :: [.inBlock id]) := by
      rw [Frame.finish_atR]; rfl
    rw [hfin]
    refine .head stepR_region_end (.head stepR_inBlock (.one ?_))
    exact stepR_round_end rfl rfl hend
  | panicked ch =>
    refine ⟨.panicked ch, W', hR, comesIn_wide.2 ?_⟩
    exact s.trans (Steps.trans hcomes (.head (step_leave_panicked hleave) (.one (stepR_region_panics rfl))))
end Go.Proofs.YtmjnodjjnjckiaaDoor

/- package lines: words$1, the iterator over the words of a text. -/
namespace Go.Proofs.YtmjnodjjnjckiaaDoor
open Go.RowKit Go.Shelf Go.Proofs.YtmjnodjjnjckiaaDoorW.PrintWords PLines
attribute [local go_sem] Oper.semAt_some

/-- The wide fence, no round. -/
abbrev FW : Fence := Fence.wide

/-- How long the text in a box is. -/
def boxLen (Bt : Nat) (w : World) : Nat := match w.cell? ⟨Bt, 0, none⟩ with
  | some (.string t) => t.size
  | _ => 0
theorem boxLen_eq {Bt : Nat} {w : World} {t : ByteArray} (h : w.heap[Bt]? = some (.cells #[.string t] 9 (0, 0))) : boxLen Bt w = t.size := by
  have := cell_blk h 0 (.string t) rfl
  unfold boxLen; rw [this]
/-- The iterator between two rounds: what has come, what is left (trimmed), the box. -/
def WordsAt (Bt : Nat) (all : List (List UInt8)) (N : Nat) (m : Int) (J : List (List UInt8) → World → Prop) (w : World) : Prop :=
  ∃ (pre : List (List UInt8)) (T : ByteArray) (l0 : List UInt8), w.heap[Bt]? = some (.cells #[.string T] 9 (0, 0)) ∧ T.data.toList = Lib.trimLeftS l0 [9, 10, 13, 32] ∧ all = pre ++ toks T.data.toList ∧ T.size ≤ N ∧ J pre w ∧ w.cell? ⟨0, 0, none⟩ = some (.int .i64 m)
theorem grown_set (w : World) (b j : Nat) (v : Value) : w.grownBy (w.setCell ⟨b, j, none⟩ v) (some b) :=
  ⟨rfl, rfl, rfl, by simp, fun k _ hk => Below.heap_setCell _ _ _ _ (fun e => hk (by rw [e]))⟩
theorem grown_below {w w1 : World} (h : Below w.heap.size w w1) (row : Option Nat) : w.grownBy w1 row := ⟨h.os, h.tape, h.output, h.size, fun k hk _ => h.block k hk⟩
/-- The box is trimmed: the relation stands again. -/
theorem words_again {Bt N : Nat} {all : List (List UInt8)} {m : Int} {J : List (List UInt8) → World → Prop} {w w1 : World} {pre : List (List UInt8)} {T T' : ByteArray} (hBt : 0 < Bt)
    (hJ : ∀ pre W W' T, J pre W → W.grownBy W' (some Bt) → W'.heap[Bt]? = some (.cells #[.string T] 9 (0, 0)) → J pre W') (hbox : w.heap[Bt]? = some (.cells #[.string T'] 9 (0, 0))) (hb : Below w.heap.size w w1)
    (hall : all = pre ++ toks T.data.toList) (hsz : T.size ≤ N) (hj : J pre w) (hm : w.cell? ⟨0, 0, none⟩ = some (.int .i64 m)) :
    WordsAt Bt all N m J (w1.setCell ⟨Bt, 0, none⟩ (.string ⟨(Lib.trimLeftS T.data.toList [9, 10, 13, 32]).toArray⟩)) := by
  have hlt := (Array.getElem?_eq_some_iff.1 hbox).1
  refine ⟨pre, _, T.data.toList, blk_set ((hb.block Bt hlt).trans hbox) 0 _, by simp, by simp only; rw [toks_trim]; exact hall, ?_, ?_, ?_⟩
  · have := trim_le T.data.toList
    rw [size_eq] at hsz ⊢
    simp only; omega
  · exact hJ _ _ _ _ hj ((grown_below hb _).trans (grown_set _ _ _ _)) (blk_set ((hb.block Bt hlt).trans hbox) 0 _)
  · refine (World.cell?_of_block (a := ⟨0, 0, none⟩) (Below.heap_setCell _ _ _ 0 (by simp; omega))).trans ?_
    exact (hb.cell (p := ⟨0, 0, none⟩) (by simp; omega)).trans hm
theorem boxLen_again {Bt : Nat} {w w1 : World} {T' : ByteArray} {l : List UInt8} (hbox : w.heap[Bt]? = some (.cells #[.string T'] 9 (0, 0))) (hb : Below w.heap.size w w1) :
    boxLen Bt (w1.setCell ⟨Bt, 0, none⟩ (.string ⟨l.toArray⟩)) = l.length := by
  rw [boxLen_eq (blk_set ((hb.block Bt (Array.getElem?_eq_some_iff.1 hbox).1).trans hbox) 0 _), size_eq]

/-- Behind a round: the rest of the text lies in the box, and is trimmed. -/
theorem words_tail {Bt N : Nat} {all : List (List UInt8)} {m : Int} {J : List (List UInt8) → World → Prop} {wr W3 W4 : World} {pre : List (List UInt8)} {T T' R : ByteArray} (hBt : 0 < Bt)
    (hJ : ∀ pre W W' T, J pre W → W.grownBy W' (some Bt) → W'.heap[Bt]? = some (.cells #[.string T] 9 (0, 0)) → J pre W') (hbox : W3.heap[Bt]? = some (.cells #[.string T'] 9 (0, 0)))
    (hb : Below (W3.setCell ⟨Bt, 0, none⟩ (.string R)).heap.size (W3.setCell ⟨Bt, 0, none⟩ (.string R)) W4)
    (hall : all = pre ++ toks R.data.toList) (hsz : R.size ≤ N) (hj : J pre W3) (hm : W3.cell? ⟨0, 0, none⟩ = some (.int .i64 m))
    (hold : wr.heap[Bt]? = some (.cells #[.string T] 9 (0, 0))) (hlt : R.size < T.size) :
    (W4.cell? ⟨Bt, 0, none⟩ = some (.string R) ∧ W4.frozen? ⟨Bt, 0, none⟩ = false) ∧
    WordsAt Bt all N m J (W4.setCell ⟨Bt, 0, none⟩ (.string ⟨(Lib.trimLeftS R.data.toList [9, 10, 13, 32]).toArray⟩)) ∧
    boxLen Bt (W4.setCell ⟨Bt, 0, none⟩ (.string ⟨(Lib.trimLeftS R.data.toList [9, 10, 13, 32]).toArray⟩)) < boxLen Bt wr := by
  have hb3 : (W3.setCell ⟨Bt, 0, none⟩ (.string R)).heap[Bt]? = some (.cells #[.string R] 9 (0, 0)) := blk_set hbox 0 _
  have hb4 : W4.heap[Bt]? = some (.cells #[.string R] 9 (0, 0)) := (hb.block Bt (Array.getElem?_eq_some_iff.1 hb3).1).trans hb3
  refine ⟨⟨cell_blk hb4 0 _ rfl, frozen_blk hb4 0⟩, words_again hBt hJ hb3 hb hall hsz (hJ _ _ _ _ hj (grown_set _ _ _ _) hb3) ?_, ?_⟩
  · exact (World.cell?_of_block (a := ⟨0, 0, none⟩) (Below.heap_setCell _ _ _ 0 (by simp; omega))).trans hm
  · rw [boxLen_again hb3 hb, boxLen_eq hold]
    have := trim_le R.data.toList
    rw [← size_eq] at this
    omega

theorem cut_short (r : List UInt8) : (Lib.cut (59 :: r) [10]).2.1.length ≤ r.length := by
  rw [cut_tail, List.dropWhile_cons, if_pos (by decide), List.length_drop]
  have := dropWhile_le (fun x => x != 10) r
  omega
theorem bytes_inj' {a b : ByteArray} (h : a.data.toList = b.data.toList) : a = b := by
  cases a; cases b; simp at h; rw [h]
theorem extract_list (T : ByteArray) (i j : Nat) : (T.extract i j).data.toList = (T.data.toList.drop i).take (j - i) := by
  rw [ByteArray.data_extract, Array.toList_extract, List.extract_eq_take_drop]
theorem byte0 {T : ByteArray} {c : UInt8} {r : List UInt8} (h : T.data.toList = c :: r) (hp : 0 < T.size) : T[0]'hp = c := by
  cases T with
  | mk a =>
    obtain ⟨l⟩ := a
    simp at h
    subst h
    rfl

set_option maxHeartbeats 4000000 in
set_option maxRecDepth 100000 in
theorem words_iter (l Bt n : Nat) (s : ByteArray) (m : Int) (J : List (List UInt8) → World → Prop) (Jp : List PanicEntry → World → Prop) (W : World)
    (hs : s.size ≤ 262144) (hBt : 0 < Bt) (hbox : W.heap[Bt]? = some (.cells #[.string s] 9 (0, 0))) (hm : W.cell? ⟨0, 0, none⟩ = some (.int .i64 m))
    (hJ : ∀ pre W W' T, J pre W → W.grownBy W' (some Bt) → W'.heap[Bt]? = some (.cells #[.string T] 9 (0, 0)) → J pre W')
    (hY : ∀ pre x rest W1, toks s.data.toList = pre ++ x :: rest → J pre W1 → YieldAt FW (n - 1) Tryd.prog l #[.string ⟨x.toArray⟩] W1 fun e W' =>
      (e = .returned (.bool true) ∧ J (pre ++ [x]) W' ∧ W'.heap[Bt]? = W1.heap[Bt]? ∧ W'.heap[0]? = W1.heap[0]? ∧ W1.heap.size ≤ W'.heap.size) ∨ (∃ ch, e = .panicked ch ∧ Jp ch W'))
    (h0 : J [] W) :
    CallsIn FW n Tryd.prog 48 #[.func (.yield l) #[] #[], .pointer (some ⟨Bt, 0, none⟩)] W fun e W' =>
      (e = .returned (.tuple #[]) ∧ J (toks s.data.toList) W') ∨ (∃ ch, e = .panicked ch ∧ Jp ch W') := by
  have hc : W.cell? ⟨Bt, 0, none⟩ = some (.string s) := cell_blk hbox 0 _ rfl
  have hf : W.frozen? ⟨Bt, 0, none⟩ = false := frozen_blk hbox 0
  refine callsIn_of_wp Tryd.func48 rfl trivial ?_ rfl
  simp only [Tryd.ntmps48, List.size_toArray, List.length_cons, List.length_nil, Nat.reduceAdd, Nat.reduceSub, Array.replicate_succ, Array.replicate_zero, List.push_toArray, List.append_toArray, List.nil_append, List.cons_append]
  gi_wp2_with fail
  refine ⟨trivial, (fun h => nomatch h), (callsIn_wide.2 (trim_blanks s W)).mono ?_⟩
  rintro e W1 ⟨rfl, hb1⟩
  have hbox1 : W1.heap[Bt]? = some (.cells #[.string s] 9 (0, 0)) := (hb1.block Bt (Array.getElem?_eq_some_iff.1 hbox).1).trans hbox
  have hm1 : W1.cell? ⟨0, 0, none⟩ = some (.int .i64 m) := (hb1.cell (p := ⟨0, 0, none⟩) (by have := (Array.getElem?_eq_some_iff.1 hbox).1; simp; omega)).trans hm
  have hc1 : W1.cell? ⟨Bt, 0, none⟩ = some (.string s) := cell_blk hbox1 0 _ rfl
  have hf1 : W1.frozen? ⟨Bt, 0, none⟩ = false := frozen_blk hbox1 0
  have hJ1 : J [] W1 := hJ _ _ _ _ h0 ⟨hb1.os, hb1.tape, hb1.output, hb1.size, fun k hk _ => hb1.block k hk⟩ hbox1
  have HBOX := Aside0.mk hbox1
  have HM := Aside0.mk hm1
  have HJ := Aside0.mk hJ
  have HY := Aside0.mk hY
  clear hbox hm h0 hc hf hb1 hJ hY hbox1 hm1
  gi_wp2_with fail
  gi_loopw [] (fun wr => WordsAt Bt (toks s.data.toList) s.size m J wr) (fun wr => boxLen Bt wr)
  case atStart => exact words_again (T := s) (pre := []) hBt HJ.out HBOX.out (Below.refl _ _) rfl (Nat.le_refl _) hJ1 HM.out
  case round =>
    obtain ⟨pre, T, l0, hbox, htrim, hall, hN, hj, hm0⟩ := hrel
    have hc : wr.cell? ⟨Bt, 0, none⟩ = some (.string T) := cell_blk hbox 0 _ rfl
    have hf : wr.frozen? ⟨Bt, 0, none⟩ = false := frozen_blk hbox 0
    clear hc1 hf1
    cases hT : T.data.toList with
    | nil =>
      have hne : T.toList.isEmpty = true := by rw [ByteArray.toList_eq, hT]; rfl
      rw [hT, toks_nil, List.append_nil] at hall
      have HA := Aside0.mk hall
      have HT := Aside0.mk hT
      have HJJ := Aside0.mk hj
      clear hall hT hj htrim
      gi_wp2_with fail
      go_end0
      exact .inl ⟨rfl, by rw [HA.out]; exact HJJ.out⟩
    | cons c r =>
      have hne : T.toList.isEmpty = false := by rw [ByteArray.toList_eq, hT]; rfl
      have hcb : isBlank c = false := trim_head (by rw [← htrim, hT])
      have hsz : T.size = r.length + 1 := by rw [size_eq, hT]; rfl
      have hI := index_ends T wr
      rw [idx_ends, hT] at hI
      rw [hT] at hall
      have HT := Aside0.mk hT
      have HA := Aside0.mk hall
      have HJJ := Aside0.mk hj
      have HSZ := Aside0.mk hsz
      have HC := Aside0.mk hcb
      have HOLD := Aside0.mk hbox
      have HM0 := Aside0.mk hm0
      have HN := Aside0.mk hN
      clear htrim hT hall hj hsz hcb
      by_cases hah : ahead (c :: r) < (c :: r).length
      · rw [if_pos hah] at hI
        have HAH := Aside0.mk hah
        have h255 : (c == 59) = true ∨ (c == 59) = false := by cases (c == 59) <;> simp
        rcases h255 with h59 | h59
        · obtain rfl : c = 59 := eq_of_beq h59
          have h0 : ahead ((59 : UInt8) :: r) = 0 := ahead_end (by decide)
          rw [h0] at hI
          have HI := Aside0.mk hI
          have hpos : 0 < T.size := by have := HSZ.out; omega
          have hb59 : (((T[0]'hpos).toNat : Int) == 59) = true := by rw [byte0 HT.out hpos]; rfl
          clear hI hah h0 h59
          gi_wp2_with fail
          refine ⟨trivial, (fun h => nomatch h), (callsIn_wide.2 HI.out).mono ?_⟩
          rintro e w2 ⟨rfl, hb2⟩
          have hlt := (Array.getElem?_eq_some_iff.1 hbox).1
          have hbox2 : w2.heap[Bt]? = some (.cells #[.string T] 9 (0, 0)) := (hb2.block Bt hlt).trans hbox
          have hc2 : w2.cell? ⟨Bt, 0, none⟩ = some (.string T) := cell_blk hbox2 0 _ rfl
          have hf2 : w2.frozen? ⟨Bt, 0, none⟩ = false := frozen_blk hbox2 0
          have HB2 := Aside0.mk hbox2
          have HBB := Aside0.mk hb2
          clear hbox2 hb2 hbox hc hf
          have hm2 : w2.cell? ⟨0, 0, none⟩ = some (.int .i64 m) := (HBB.out.cell (p := ⟨0, 0, none⟩) (by simp; omega)).trans HM0.out
          have hj2 : J pre w2 := HJ.out _ _ _ _ HJJ.out (grown_below HBB.out _) HB2.out
          have HJ2 := Aside0.mk hj2
          have HM2 := Aside0.mk hm2
          clear hm2 hj2 hm0
          gi_wp2_with fail
          refine ⟨trivial, (fun h => nomatch h), (callsIn_wide.2 (cut_line T m w2 (by omega) HM2.out)).mono ?_⟩
          rintro e w3 ⟨rfl, nd, rfl⟩
          have hc3 : (w2.drewN nd).cell? ⟨Bt, 0, none⟩ = some (.string T) := hc2
          have hf3 : (w2.drewN nd).frozen? ⟨Bt, 0, none⟩ = false := hf2
          obtain ⟨R, hR⟩ : ∃ R : ByteArray, R = ⟨(Lib.cut T.data.toList [10]).2.1.toArray⟩ := ⟨_, rfl⟩
          have hRl : R.data.toList = (Lib.cut T.data.toList [10]).2.1 := by rw [hR]
          rw [← hR]
          have HRL := Aside0.mk hRl
          clear hR hRl
          gi_wp2_with fail
          refine ⟨trivial, (fun h => nomatch h), (callsIn_wide.2 (trim_blanks _ _)).mono ?_⟩
          rintro e W4 ⟨rfl, hb4⟩
          obtain ⟨⟨hc4, hf4⟩, hrel4, hmea4⟩ := words_tail (W3 := w2) (pre := pre) (all := toks s.data.toList) (N := s.size) (T := T) hBt HJ.out HB2.out (W4 := W4) (R := R) ⟨hb4.os, hb4.tape, hb4.output, hb4.size, hb4.block⟩
            (by rw [HA.out, HRL.out, HT.out, toks_remark]) (by rw [size_eq, HRL.out, HT.out]; have h1 := cut_short r; have h2 := HSZ.out; omega) HJ2.out HM2.out HOLD.out (by rw [size_eq, HRL.out, HT.out]; have h1 := cut_short r; have h2 := HSZ.out; omega)
          have HREL := Aside0.mk hrel4
          have HMEA := Aside0.mk hmea4
          clear hb4 hrel4 hmea4 hc3 hf3
          gi_wp2_with fail
          go_roundw
          case rel => exact HREL.out
          case measure => exact HMEA.out
        · have hpos : 0 < T.size := by have := HSZ.out; omega
          have hb59 : (((T[0]'hpos).toNat : Int) == 59) = false := by
            rw [byte0 HT.out hpos, beq_eq_false_iff_ne]
            intro e
            have : c.toNat = 59 := by omega
            have : c = 59 := by rw [← UInt8.toNat_inj]; exact this
            rw [this] at h59; exact absurd h59 (by decide)
          have H59 := Aside0.mk h59
          clear h59
          by_cases hce : isEnd c = true
          · have h0 : ahead (c :: r) = 0 := ahead_end hce
            rw [h0] at hI
            have HI := Aside0.mk hI
            have HCE := Aside0.mk hce
            clear hI hah h0 hce
            gi_wp2_with fail
            refine ⟨trivial, (fun h => nomatch h), (callsIn_wide.2 HI.out).mono ?_⟩
            rintro e w2 ⟨rfl, hb2⟩
            have hlt := (Array.getElem?_eq_some_iff.1 hbox).1
            have hbox2 : w2.heap[Bt]? = some (.cells #[.string T] 9 (0, 0)) := (hb2.block Bt hlt).trans hbox
            have hc2 : w2.cell? ⟨Bt, 0, none⟩ = some (.string T) := cell_blk hbox2 0 _ rfl
            have hf2 : w2.frozen? ⟨Bt, 0, none⟩ = false := frozen_blk hbox2 0
            have HB2 := Aside0.mk hbox2
            have HBB := Aside0.mk hb2
            have hall : toks s.data.toList = pre ++ ([c]) :: toks (r) := by
              rw [HA.out]
              rw [toks_sign HC.out H59.out HCE.out]
            have hj2 : J pre w2 := HJ.out _ _ _ _ HJJ.out (grown_below hb2 _) HB2.out
            obtain ⟨fn, tmps, assign, body, hy, hR⟩ := HY.out pre ([c]) _ w2 hall hj2
            rw [show (⟨([c]).toArray⟩ : ByteArray) = T.extract 0 1 from bytes_inj' (by rw [extract_list, HT.out]; simp)] at hy
            have HR := Aside0.mk hR
            have hm2 : w2.cell? ⟨0, 0, none⟩ = some (.int .i64 m) := (hb2.cell (p := ⟨0, 0, none⟩) (by simp; omega)).trans HM0.out
            have HM2 := Aside0.mk hm2
            have HALL := Aside0.mk hall
            clear hbox2 hb2 hbox hc hf hR hall hj2 hm2 hm0
            gi_wp2_with fail
            refine ⟨(fun h => nomatch h), HR.out.mono ?_⟩
            rintro e W3 (⟨rfl, hJ3, hbx3, hg3, hsz3⟩ | ⟨ch, rfl, hp⟩)
            case inr => exact ⟨rfl, .inr ⟨ch, rfl, hp⟩⟩
            have hbox3 := hbx3.trans HB2.out
            have hc3 : W3.cell? ⟨Bt, 0, none⟩ = some (.string T) := cell_blk hbox3 0 _ rfl
            have hf3 : W3.frozen? ⟨Bt, 0, none⟩ = false := frozen_blk hbox3 0
            have HB3 := Aside0.mk hbox3
            have HJ3 := Aside0.mk hJ3
            have HM3 := Aside0.mk ((World.cell?_of_block (a := ⟨0, 0, none⟩) hg3).trans HM2.out)
            clear hbox3 hbx3 hg3 hJ3 hsz3 hy HR
            gi_wp2_with fail
            obtain ⟨R, hR⟩ : ∃ R : ByteArray, T.extract 1 T.size = R := ⟨_, rfl⟩
            have hRl : R.data.toList = r := by rw [← hR, extract_list, HT.out]; have h1 := HSZ.out; rw [h1]; simp
            rw [hR]
            clear hR
            refine ⟨trivial, (fun h => nomatch h), (callsIn_wide.2 (trim_blanks _ _)).mono ?_⟩
            rintro e W4 ⟨rfl, hb4⟩
            obtain ⟨⟨hc4, hf4⟩, hrel4, hmea4⟩ := words_tail (all := toks s.data.toList) (N := s.size) (T := T) hBt HJ.out HB3.out hb4 (by rw [HALL.out, hRl]; simp) (by rw [size_eq, hRl]; have h1 := HSZ.out; have h2 := HN.out; omega) HJ3.out HM3.out HOLD.out (by rw [size_eq, hRl]; have h1 := HSZ.out; have h2 := HN.out; omega)
            have HREL := Aside0.mk hrel4
            have HMEA := Aside0.mk hmea4
            clear hrel4 hmea4 hc3 hf3 hRl
            gi_wp2_with fail
            go_roundw
            case rel => exact HREL.out
            case measure => exact HMEA.out

          · have hce' : isEnd c = false := by simpa using hce
            obtain ⟨k, hk⟩ : ∃ k, ahead (c :: r) = k := ⟨_, rfl⟩
            have hk1 : 1 ≤ k := by rw [← hk, ahead_cons hce']; omega
            have hk2 : k ≤ r.length := by rw [← hk]; simp at hah; omega
            have hk3 : k < T.size := by have := HSZ.out; omega
            have hkn : ((k : Int) == 0) = false := beq_eq_false_iff_ne.2 (by omega)
            rw [hk] at hI
            have HI := Aside0.mk hI
            have HCE := Aside0.mk hce'
            have HK := Aside0.mk hk
            clear hI hah hce hce' hk
            gi_wp2_with fail
            refine ⟨trivial, (fun h => nomatch h), (callsIn_wide.2 HI.out).mono ?_⟩
            rintro e w2 ⟨rfl, hb2⟩
            have hlt := (Array.getElem?_eq_some_iff.1 hbox).1
            have hbox2 : w2.heap[Bt]? = some (.cells #[.string T] 9 (0, 0)) := (hb2.block Bt hlt).trans hbox
            have hc2 : w2.cell? ⟨Bt, 0, none⟩ = some (.string T) := cell_blk hbox2 0 _ rfl
            have hf2 : w2.frozen? ⟨Bt, 0, none⟩ = false := frozen_blk hbox2 0
            have HB2 := Aside0.mk hbox2
            have HBB := Aside0.mk hb2
            have hall : toks s.data.toList = pre ++ ((c :: r).take k) :: toks ((c :: r).drop k) := by
              rw [HA.out]
              rw [toks_word HCE.out, HK.out]
            have hj2 : J pre w2 := HJ.out _ _ _ _ HJJ.out (grown_below hb2 _) HB2.out
            obtain ⟨fn, tmps, assign, body, hy, hR⟩ := HY.out pre ((c :: r).take k) _ w2 hall hj2
            rw [show (⟨((c :: r).take k).toArray⟩ : ByteArray) = T.extract 0 k from bytes_inj' (by rw [extract_list, HT.out]; simp)] at hy
            have HR := Aside0.mk hR
            have hm2 : w2.cell? ⟨0, 0, none⟩ = some (.int .i64 m) := (hb2.cell (p := ⟨0, 0, none⟩) (by simp; omega)).trans HM0.out
            have HM2 := Aside0.mk hm2
            have HALL := Aside0.mk hall
            clear hbox2 hb2 hbox hc hf hR hall hj2 hm2 hm0
            gi_wp2_with fail
            refine ⟨(fun h => nomatch h), HR.out.mono ?_⟩
            rintro e W3 (⟨rfl, hJ3, hbx3, hg3, hsz3⟩ | ⟨ch, rfl, hp⟩)
            case inr => exact ⟨rfl, .inr ⟨ch, rfl, hp⟩⟩
            have hbox3 := hbx3.trans HB2.out
            have hc3 : W3.cell? ⟨Bt, 0, none⟩ = some (.string T) := cell_blk hbox3 0 _ rfl
            have hf3 : W3.frozen? ⟨Bt, 0, none⟩ = false := frozen_blk hbox3 0
            have HB3 := Aside0.mk hbox3
            have HJ3 := Aside0.mk hJ3
            have HM3 := Aside0.mk ((World.cell?_of_block (a := ⟨0, 0, none⟩) hg3).trans HM2.out)
            clear hbox3 hbx3 hg3 hJ3 hsz3 hy HR
            gi_wp2_with fail
            obtain ⟨R, hR⟩ : ∃ R : ByteArray, T.extract k T.size = R := ⟨_, rfl⟩
            have hRl : R.data.toList = (c :: r).drop k := by rw [← hR, extract_list, HT.out]; have h1 := HSZ.out; rw [h1]; exact List.take_of_length_le (by rw [List.length_drop, List.length_cons]; omega)
            rw [hR]
            clear hR
            refine ⟨trivial, (fun h => nomatch h), (callsIn_wide.2 (trim_blanks _ _)).mono ?_⟩
            rintro e W4 ⟨rfl, hb4⟩
            obtain ⟨⟨hc4, hf4⟩, hrel4, hmea4⟩ := words_tail (all := toks s.data.toList) (N := s.size) (T := T) hBt HJ.out HB3.out hb4 (by rw [HALL.out, hRl]; simp) (by rw [size_eq, hRl]; rw [List.length_drop, List.length_cons]; have h1 := HSZ.out; have h2 := HN.out; omega) HJ3.out HM3.out HOLD.out (by rw [size_eq, hRl]; rw [List.length_drop, List.length_cons]; have h1 := HSZ.out; have h2 := HN.out; omega)
            have HREL := Aside0.mk hrel4
            have HMEA := Aside0.mk hmea4
            clear hrel4 hmea4 hc3 hf3 hRl
            gi_wp2_with fail
            go_roundw
            case rel => exact HREL.out
            case measure => exact HMEA.out
      · rw [if_neg hah] at hI
        have HI := Aside0.mk hI
        have HAH := Aside0.mk hah
        clear hI hah
        gi_wp2_with fail
        refine ⟨trivial, (fun h => nomatch h), (callsIn_wide.2 HI.out).mono ?_⟩
        rintro e w2 ⟨rfl, hb2⟩
        have hlt := (Array.getElem?_eq_some_iff.1 hbox).1
        have hbox2 : w2.heap[Bt]? = some (.cells #[.string T] 9 (0, 0)) := (hb2.block Bt hlt).trans hbox
        have hc2 : w2.cell? ⟨Bt, 0, none⟩ = some (.string T) := cell_blk hbox2 0 _ rfl
        have hf2 : w2.frozen? ⟨Bt, 0, none⟩ = false := frozen_blk hbox2 0
        have HB2 := Aside0.mk hbox2
        have HBB := Aside0.mk hb2
        have hall : toks s.data.toList = pre ++ (c :: r) :: [] := by
          rw [HA.out]
          have hah := HAH.out
          have hle := ahead_le (c :: r)
          have hce : isEnd c = false := by
            cases hce : isEnd c with
            | false => rfl
            | true => rw [ahead_end hce] at hah; simp at hah
          have e1 : ahead (c :: r) = (c :: r).length := by omega
          rw [toks_word hce, e1, List.take_length, List.drop_length, toks_nil]
        have hj2 : J pre w2 := HJ.out _ _ _ _ HJJ.out (grown_below hb2 _) HB2.out
        have hTT : (⟨(c :: r).toArray⟩ : ByteArray) = T := by rw [← HT.out]
        obtain ⟨fn, tmps, assign, body, hy, hR⟩ := HY.out pre (c :: r) [] w2 hall hj2
        rw [hTT] at hy
        have HR := Aside0.mk hR
        have hm2 : w2.cell? ⟨0, 0, none⟩ = some (.int .i64 m) := (hb2.cell (p := ⟨0, 0, none⟩) (by simp; omega)).trans HM0.out
        have HM2 := Aside0.mk hm2
        have HALL := Aside0.mk hall
        clear hbox2 hb2 hbox hc hf hR hall hj2 hTT hm2 hm0
        gi_wp2_with fail
        refine ⟨(fun h => nomatch h), HR.out.mono ?_⟩
        rintro e W3 (⟨rfl, hJ3, hbx3, hg3, hsz3⟩ | ⟨ch, rfl, hp⟩)
        case inr => exact ⟨rfl, .inr ⟨ch, rfl, hp⟩⟩
        have hbox3 := hbx3.trans HB2.out
        have hc3 : W3.cell? ⟨Bt, 0, none⟩ = some (.string T) := cell_blk hbox3 0 _ rfl
        have hf3 : W3.frozen? ⟨Bt, 0, none⟩ = false := frozen_blk hbox3 0
        have HB3 := Aside0.mk hbox3
        have HG3 := Aside0.mk hg3
        have HJ3 := Aside0.mk hJ3
        have HZ3 := Aside0.mk hsz3
        have HM3 := Aside0.mk ((World.cell?_of_block (a := ⟨0, 0, none⟩) hg3).trans HM2.out)
        clear hbox3 hbx3 hg3 hJ3 hsz3 hy HR
        gi_wp2_with fail
        refine ⟨trivial, (fun h => nomatch h), (callsIn_wide.2 (trim_blanks _ _)).mono ?_⟩
        rintro e W4 ⟨rfl, hb4⟩
        obtain ⟨⟨hc4, hf4⟩, hrel4, hmea4⟩ := words_tail (all := toks s.data.toList) (N := s.size) (T := T) hBt HJ.out HB3.out hb4 (by rw [HALL.out]; simp [toks_nil]) (Nat.zero_le _) HJ3.out HM3.out HOLD.out (by have := HSZ.out; show 0 < T.size; omega)
        have HREL := Aside0.mk hrel4
        have HMEA := Aside0.mk hmea4
        clear hb4 hrel4 hmea4 hc3 hf3
        gi_wp2_with fail
        go_roundw
        case rel => exact HREL.out
        case measure => exact HMEA.out
end Go.Proofs.YtmjnodjjnjckiaaDoor

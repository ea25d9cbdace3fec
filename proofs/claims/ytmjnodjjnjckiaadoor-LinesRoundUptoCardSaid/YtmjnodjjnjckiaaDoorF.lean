/- A range over a function whose rounds may panic: one round, step by step. No program in sight. -/
import Derived.RangeFuncLeaves
import Derived.RangeFuncNested
namespace Go.Proofs.YtmjnodjjnjckiaaDoor
variable {P : Program}

section
variable {b : Frame} {a : Act} {k : List Item} {cs : List Frame} {w w' : World} {ops : Array Oper} {i : Nat} {rest : List Nat} {o : Oper}
theorem stepR_op_value {v : Value} (ho : ops[i]? = some o) (hw : Region.wanted o (yielded ops a.tmps) = true) (hd : ∀ c, o.op ≠ .defer c) (hr : (execOp a.eval o).run P w = .ok (.value v) w') :
    step P (lone (b.atR a (.inRegion ops (i :: rest) :: k)) cs w) = .next (lone (b.atR (a.put o.dst v) (.inRegion ops rest :: k)) cs w') := by
  have hg := stepGR_op (P := P) (b := b) (k := k) (cs := cs) (w := w) (rest := rest) ho hw
  rw [Oper.semAt_eq _ _ _ hd] at hg
  have hfin : (b.atR a (.inRegion ops (i :: rest) :: k)).finish v = b.atR (a.put o.dst v) (.inRegion ops rest :: k) := by
    rw [Frame.finish_atR, ho]; rfl
  refine step_lone_go ?_
  rw [hg, ← hfin]; simp [stepG.apply, hr]
theorem stepR_op_enter {f : FuncId} {args : Array Value} (ho : ops[i]? = some o) (hw : Region.wanted o (yielded ops a.tmps) = true) (hd : ∀ c, o.op ≠ .defer c) (hr : (execOp a.eval o).run P w = .ok (.enter f args) w') :
    step P (lone (b.atR a (.inRegion ops (i :: rest) :: k)) cs w) = .next (lone (Frame.enter P f args .normal) (b.atR a (.inRegion ops (i :: rest) :: k) :: cs) w') := by
  have hg := stepGR_op (P := P) (b := b) (k := k) (cs := cs) (w := w) (rest := rest) ho hw
  rw [Oper.semAt_eq _ _ _ hd] at hg
  refine step_lone_go ?_
  rw [hg]; simp [stepG.apply, hr, Frame.atR]
/-- A round's frame that panics, within a region: the panic goes to who called yield. -/
theorem stepR_region_panics {c : Frame} {chain : List PanicEntry} (hd : a.defers = []) :
    step P (lone ((b.atR a (.inRegion ops (i :: rest) :: k)).raise chain) (c :: cs) w) = .next (lone (c.raise chain) cs w) := by
  refine step_lone_go ?_
  rw [Frame.raise_atR]
  have hc : ({ b.atR a (.inRegion ops (i :: rest) :: k) with mode := .panicking chain } : Frame).catches P = false := by
    unfold Frame.catches Frame.atR
    cases P.funcs[b.fn]? <;> rfl
  have hc' : Frame.catches P { fn := b.fn, tmps := a.tmps, todo := .inRegion ops (i :: rest) :: k, defers := [], mode := .panicking chain, kind := b.kind, roundOf := b.roundOf } = false := by
    rw [← hd]; exact hc
  simp [stepG, unwind, Frame.atR, hd, hc']
end

/-- A round whose body is one region: two operations that yield, and a call; the call may panic. -/
theorem round_calls {l fn n id id2 f : Nat} {tmps t1 t2 t3 : Array Value} {opsA ops : Array Oper} {oA o0 o1 o2 : Oper} {vA v0 v1 : Value} {args : Array Value} {W1 W2 : World} {R : Ending → World → Prop} {idA : Nat}
    (hA : opsA = #[oA]) (hops : ops = #[o0, o1, o2])
    (gA : oA.guard = none) (g0 : o0.guard = none) (g1 : o1.guard = none) (g2 : o2.guard = none)
    (dA : ∀ c, oA.op ≠ .defer c) (d0 : ∀ c, o0.op ≠ .defer c) (d1 : ∀ c, o1.op ≠ .defer c) (d2 : ∀ c, o2.op ≠ .defer c)
    (rA : (execOp (Act.eval { tmps := tmps, defers := [] }) oA).run P W1 = .ok (.value vA) W1) (hA1 : ({ tmps := tmps, defers := [] } : Act).put oA.dst vA = { tmps := t1, defers := [] })
    (hb : (Instr.beginRound l).run P W1 = .ok () W2)
    (r0 : (execOp (Act.eval { tmps := t1, defers := [] }) o0).run P W2 = .ok (.value v0) W2) (h01 : ({ tmps := t1, defers := [] } : Act).put o0.dst v0 = { tmps := t2, defers := [] })
    (r1 : (execOp (Act.eval { tmps := t2, defers := [] }) o1).run P W2 = .ok (.value v1) W2) (h11 : ({ tmps := t2, defers := [] } : Act).put o1.dst v1 = { tmps := t3, defers := [] })
    (r2 : (execOp (Act.eval { tmps := t3, defers := [] }) o2).run P W2 = .ok (.enter f args) W2)
    (hcall : Calls P f args W2 fun e W' => match e with
      | .returned _ => ∃ v' w', (Instr.endRound l none).run P W' = .ok v' w' ∧ R (.returned v') w'
      | .panicked ch => R (.panicked ch) W'
      | .outgrown => False) :
    RoundIn Fence.wide n P l fn tmps (.region idA opsA false) (.block id (.region id2 ops false)) W1 R := by
  subst hA hops
  refine ⟨trivial, fun c cs _ => ?_⟩
  let b : Frame := { (default : Frame) with fn := fn, kind := .normal, roundOf := some l }
  have hb0 : Frame.round l fn tmps (.region idA #[oA] false) (.block id (.region id2 #[o0, o1, o2] false)) .normal =
      b.atR { tmps := tmps, defers := [] } [.code (.region idA #[oA] false), .beginRound, .code (.block id (.region id2 #[o0, o1, o2] false))] := by
    simp [Frame.round, Frame.atR, b]
  have wn : ∀ {o : Oper} {ops : Array Oper} {t : Array Value}, o.guard = none → Region.wanted o (yielded ops t) = true := fun h => by simp [Region.wanted, h]
  have s : Steps P (lone (Frame.round l fn tmps (.region idA #[oA] false) (.block id (.region id2 #[o0, o1, o2] false)) .normal) (c :: cs) W1)
      (lone (Frame.enter P f args .normal) (b.atR { tmps := t3, defers := [] } (.inRegion #[o0, o1, o2] [2] :: [.inBlock id]) :: c :: cs) W2) := by
    rw [hb0]
    refine .head stepR_region ?_
    refine .head (stepR_op_value (i := 0) (rest := []) (o := oA) rfl (wn gA) dA rA) ?_
    rw [hA1]
    refine .head stepR_region_end ?_
    refine .head (stepR_beginRound rfl hb) ?_
    refine .head stepR_block ?_
    refine .head stepR_region ?_
    refine .head (stepR_op_value (i := 0) (rest := [1, 2]) (o := o0) rfl (wn g0) d0 r0) ?_
    rw [h01]
    refine .head (stepR_op_value (i := 1) (rest := [2]) (o := o1) rfl (wn g1) d1 r1) ?_
    rw [h11]
    exact .one (stepR_op_enter (i := 2) (rest := []) (o := o2) rfl (wn g2) d2 r2)
  obtain ⟨e, W', fr, hR, hcomes, hfn, hleave⟩ := hcall (b.atR { tmps := t3, defers := [] } (.inRegion #[o0, o1, o2] [2] :: [.inBlock id]) :: c :: cs)
  cases e with
  | outgrown => exact hR.elim
  | returned v =>
    obtain ⟨v', w', hend, hR'⟩ := hR
    refine ⟨.returned v', w', hR', comesIn_wide.2 ?_⟩
    refine s.trans (Steps.trans hcomes (.head (step_leave_returned hleave) ?_))
    have hfin : (b.atR { tmps := t3, defers := [] } (.inRegion #[o0, o1, o2] [2] :: [.inBlock id])).finish v = b.atR (({ tmps := t3, defers := [] } : Act).put o2.dst v) (.inRegion #[o0, o1, o2] [] :: [.inBlock id]) := by
      rw [Frame.finish_atR]; rfl
    rw [hfin]
    refine .head stepR_region_end (.head stepR_inBlock (.one ?_))
    exact stepR_round_end rfl rfl hend
  | panicked ch =>
    refine ⟨.panicked ch, W', hR, comesIn_wide.2 ?_⟩
    exact s.trans (Steps.trans hcomes (.head (step_leave_panicked hleave) (.one (stepR_region_panics rfl))))
end Go.Proofs.YtmjnodjjnjckiaaDoor

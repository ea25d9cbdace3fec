/- package spandrellaw30: awake. -/
import Derived.Test.YtmjnodjjnjckiaaDoorP
namespace Go.Proofs.YtmjnodjjnjckiaaDoor
open Go.RowKit Go.Shelf Go.Proofs.YtmjnodjjnjckiaaDoorW.PrintWords PLines

def awakeText : ByteArray := ⟨#[40, 97, 32, 98, 41, 59, 32, 99, 10, 40, 41]⟩
def awakeTree : List S41 := [⟨⟨#[]⟩, [⟨⟨#[97]⟩, []⟩, ⟨⟨#[98]⟩, []⟩]⟩, ⟨⟨#[]⟩, []⟩]
theorem awake_toks : toks awakeText.data.toList = [[40], [97], [98], [41], [40], [41]] := by
  simp [awakeText, toks_cons, toks_nil, isBlank, isSign, isEnd, endR]
theorem awake_read : readOut awakeText = .ok awakeTree := by
  unfold readOut
  rw [awake_toks]
  rfl

theorem awake_write : writeOut awakeTree = .ok [40, 97, 32, 98, 41, 32, 40, 41] := by
  unfold writeOut
  rw [if_pos (by decide), if_pos (by decide), if_pos (by decide)]
  rfl
theorem awake_mem {w : World} {base : Nat} {ok : Nat → Prop} {v : Value} (h : k41.R 41 w base ok v awakeTree) :
    ∃ g c A1 c1 A2 c2 ad1, v = .slice (some ⟨g, 0, none⟩) 2 c ∧ w.cell? ⟨g, 0, none⟩ = some (.string ⟨#[]⟩) ∧ w.cell? ⟨g, 1, none⟩ = some (.slice A1 2 c1) ∧ w.cell? ⟨g, 2, none⟩ = some (.string ⟨#[]⟩) ∧ w.cell? ⟨g, 3, none⟩ = some (.slice A2 0 c2) ∧
      A1 = some ad1 ∧ w.cell? ⟨ad1.block, ad1.off + 2, none⟩ = some (.string ⟨#[98]⟩) ∧ 2 ≤ c ∧ 2 ≤ c1 ∧ Kd.C k41 w (some ⟨g, 0, none⟩) 2 awakeTree ∧ Kd.C k41 w A1 2 [⟨⟨#[97]⟩, []⟩, ⟨⟨#[98]⟩, []⟩] := by
  obtain ⟨g, cap, hv, _⟩ := Kd.R_form h (by decide)
  obtain ⟨A, c, hv', hc, hC⟩ := Kd.R_reads h
  rw [hv] at hv'
  injection hv' with hA _ hcap
  subst hA hcap
  obtain ⟨ad, A1, c1, e1, a1, a2, a3, a4⟩ := at_T41 hC 0 (by decide) (by decide)
  obtain ⟨ad', A2, c2, e2, b1, b2, b3, b4⟩ := at_T41 hC 1 (by decide) (by decide)
  injection e1 with e1; subst e1
  injection e2 with e2; subst e2
  obtain ⟨ad1, A3, c3, e3, d1, _⟩ := at_T41 a4 1 (by decide) (by decide)
  exact ⟨g, cap, A1, c1, A2, c2, ad1, hv, a1, a2, b1, b2, e3, d1, hc, a3, hC, a4⟩

set_option maxHeartbeats 4000000 in
set_option maxRecDepth 100000 in
theorem awake_calls (m : Int) (W : World) (h0 : 0 < W.heap.size) (hm : W.cell? ⟨0, 0, none⟩ = some (.int .i64 m)) :
    Calls Tryd.prog 8 #[] W fun e W' => e = .returned (.bool true) ∧ Below W.heap.size W W' := by
  have hrd := read_calls awakeText m W h0 hm
  rw [show readE awakeText = 0 by unfold readE; rw [awake_read], show readF awakeText = awakeTree by unfold readF; rw [awake_read]] at hrd
  go_enter Tryd.func8, Tryd.ntmps8
  go_wp2_with fail
  refine hrd.mono ?_
  rintro e w1 ⟨v, rfl, hR, hb1⟩
  obtain ⟨g, c, A1, c1, A2, c2, ad1, rfl, q0, q1, q2, q3, rfl, q4, q5, q6, q7, q8⟩ := awake_mem hR
  have hwr := write_calls _ c awakeTree w1 q7 q5 (by decide)
  rw [show writeE awakeTree = 0 by unfold writeE; rw [awake_write], show writeT awakeTree = [40, 97, 32, 98, 41, 32, 40, 41] by unfold writeT; rw [awake_write]] at hwr
  have HB1 := Aside0.mk hb1
  clear hR hrd hb1
  go_wp2_with fail
  refine hwr.mono ?_
  rintro e w2 ⟨rfl, hb2⟩
  have r0 := (hb2.cell (World.block_lt_of_cell? w1 _ q0)).trans q0
  have r1 := (hb2.cell (World.block_lt_of_cell? w1 _ q1)).trans q1
  have r2 := (hb2.cell (World.block_lt_of_cell? w1 _ q2)).trans q2
  have r3 := (hb2.cell (World.block_lt_of_cell? w1 _ q3)).trans q3
  have r4 := (hb2.cell (World.block_lt_of_cell? w1 _ q4)).trans q4
  have HD := Aside0.mk (deep_calls (x := ⟨⟨#[]⟩, [⟨⟨#[97]⟩, []⟩, ⟨⟨#[98]⟩, []⟩]⟩) (Kd.C_below q8 hb2) q6 (by decide))
  have HB2 := Aside0.mk (HB1.out.trans (hb2.mono HB1.out.size))
  clear hb2 q0 q1 q2 q3 q4 q7 q8 hwr
  go_wp2_with fail
  have hd2 : deT ⟨⟨#[]⟩, [⟨⟨#[97]⟩, []⟩, ⟨⟨#[98]⟩, []⟩]⟩ = 2 := by decide
  rw [hd2] at HD
  refine HD.out.mono ?_
  rintro e w3 ⟨rfl, hb3⟩
  have HB3 := Aside0.mk (HB2.out.trans (hb3.mono HB2.out.size))
  clear hb3
  go_wp2_with fail
  go_ret
  exact ⟨rfl, HB3.out⟩
end Go.Proofs.YtmjnodjjnjckiaaDoor

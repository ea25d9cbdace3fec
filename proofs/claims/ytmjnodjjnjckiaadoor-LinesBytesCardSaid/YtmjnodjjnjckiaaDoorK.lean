/- package lines: tried, what it tells, or the error that is thrown. -/
import Derived.Test.YtmjnodjjnjckiaaDoorI
import Derived.Tactics2
import Derived.Defers
import Derived.Recover
import Derived.Laws.Pointers
namespace Go.Proofs.YtmjnodjjnjckiaaDoor
open Go.RowKit Go.Shelf Go.Proofs.YtmjnodjjnjckiaaDoorW.PrintWords PLines

theorem u24 : Tryd.prog.underlying 24 = some (.int .i64) := by kernel_rfl
theorem hta (k : Int) (w : World) : (Instr.typeAssert (.iface 24 (.int .i64 k)) 20 24 true).run Tryd.prog w = .ok (.tuple #[.int .i64 k, .bool true]) w := by
  simp [Instr.typeAssert, run_underlying u24, go_sem, Result.andThen]
theorem catch_no (pe px : Addr) (W : World) :
    CallsD Tryd.prog 47 #[.pointer (some pe), .pointer (some px)] .returning W fun e u' w' => e = .returned (.tuple #[]) ∧ u' = .returning ∧ w' = W := by
  refine callsD_of_wpS Tryd.func47 rfl fun c₀ cs hu => ?_
  simp only [Tryd.ntmps47, List.size_toArray, List.length_cons, List.length_nil, Nat.reduceAdd, Nat.reduceSub, Array.replicate_succ, Array.replicate_zero, List.push_toArray, List.append_toArray, List.nil_append, List.cons_append]
  apply wpS_seq
  apply wpS_region
  simp [wpOpsS, go_sem, recoverD, hu, Exit.thenS]
  refine wpS_of_wp ?_
  go_wp2
  cases c₀
  simp_all [bodyPostS, results, Tryd.f47]
set_option maxRecDepth 100000 in
set_option maxHeartbeats 2000000 in
theorem catch_yes (pe px : Addr) (k : Int) (v0 v1 : Value) (W : World) (h1 : W.cell? pe = some v0) (h2 : W.frozen? pe = false) (h3 : W.cell? px = some v1) (h4 : W.frozen? px = false) (hne : pe.block ≠ px.block) :
    CallsD Tryd.prog 47 #[.pointer (some pe), .pointer (some px)] (.panicking (thrown k)) W fun e u' w' =>
      e = .returned (.tuple #[]) ∧ u' = .panicking [{ v := .iface 24 (.int .i64 k), recovered := true }] ∧ w' = (W.setCell pe (.int .i64 k)).setCell px (.slice none 0 0) := by
  have hta := hta k
  have h3' : (W.setCell pe (.int .i64 k)).cell? px = some v1 := (World.cell?_of_block (Below.heap_setCell _ _ _ px.block (fun e => hne e.symm))).trans h3
  have h4' : (W.setCell pe (.int .i64 k)).frozen? px = false := (World.frozen?_of_block (Below.heap_setCell _ _ _ px.block (fun e => hne e.symm))).trans h4
  refine callsD_of_wpS Tryd.func47 rfl fun c₀ cs hu => ?_
  unfold thrown at hu
  simp only [Tryd.ntmps47, List.size_toArray, List.length_cons, List.length_nil, Nat.reduceAdd, Nat.reduceSub, Array.replicate_succ, Array.replicate_zero, List.push_toArray, List.append_toArray, List.nil_append, List.cons_append]
  apply wpS_seq
  apply wpS_region
  simp [wpOpsS, go_sem, recoverD, hu, Exit.thenS]
  refine wpS_of_wp ?_
  go_wp2
  cases c₀
  simp_all [bodyPostS, results, Tryd.f47]

/-- The trees that Read tells; the error's number. -/
def readF (s : ByteArray) : List S41 := match readOut s with | .ok x => x | .error _ => []
def readE (s : ByteArray) : Int := match readOut s with | .ok _ => 0 | .error k => k

/-- The two results of tried lie in boxes: they are as they were. -/
theorem boxes {W W3 : World} {z : Value} {t : TypeId} (hb : Below ((W.alloc (.cells #[z] t)).alloc (.cells #[.int .i64 0] 24)).heap.size ((W.alloc (.cells #[z] t)).alloc (.cells #[.int .i64 0] 24)) W3) :
    W3.cell? ⟨W.heap.size, 0, none⟩ = some z ∧ W3.frozen? ⟨W.heap.size, 0, none⟩ = false ∧ W3.cell? ⟨W.heap.size + 1, 0, none⟩ = some (.int .i64 0) ∧ W3.frozen? ⟨W.heap.size + 1, 0, none⟩ = false ∧
    Below W.heap.size W W3 := by
  have h0 : ((W.alloc (.cells #[z] t)).alloc (.cells #[.int .i64 0] 24)).heap[W.heap.size]? = some (.cells #[z] t) :=
    (Below.heap_alloc _ _ _ (by simp)).trans (World.alloc_heap_new W _)
  have h1 : ((W.alloc (.cells #[z] t)).alloc (.cells #[.int .i64 0] 24)).heap[W.heap.size + 1]? = some (.cells #[.int .i64 0] 24) := by
    have := World.alloc_heap_new (W.alloc (.cells #[z] t)) (.cells #[.int .i64 0] 24); simpa using this
  have g0 := (hb.block W.heap.size (by simp; omega)).trans h0
  have g1 := (hb.block (W.heap.size + 1) (by simp)).trans h1
  exact ⟨cell_blk g0 0 _ rfl, frozen_blk g0 0, cell_blk g1 0 _ rfl, frozen_blk g1 0, (((Below.refl _ W).alloc (Nat.le_refl _) _).alloc (by simp) _).trans (hb.mono (by simp; omega))⟩
theorem k41_set2 {W : World} {B b1 b2 : Nat} {v v1 v2 : Value} {x : List S41} (h : k41.R 41 W B (fun _ => True) v x) (h1 : b1 < B) (h2 : b2 < B) : k41.R 41 ((W.setCell ⟨b1, 0, none⟩ v1).setCell ⟨b2, 0, none⟩ v2) B (fun _ => True) v x := by
  refine Kd.R_mono (Kd.R_move (Kd.R_bound h) fun k hk => ?_) (fun _ _ => trivial)
  have : B ≤ k := hk.2.1
  exact (Below.heap_setCell _ _ _ k (by simp; omega)).trans (Below.heap_setCell _ _ _ k (by simp; omega))

theorem cells2 {W : World} {b1 b2 : Nat} {u1 u2 v1 v2 : Value} (h1 : W.cell? ⟨b1, 0, none⟩ = some u1) (h2 : W.cell? ⟨b2, 0, none⟩ = some u2) (hne : b1 ≠ b2) :
    ((W.setCell ⟨b1, 0, none⟩ v1).setCell ⟨b2, 0, none⟩ v2).cell? ⟨b1, 0, none⟩ = some v1 ∧ ((W.setCell ⟨b1, 0, none⟩ v1).setCell ⟨b2, 0, none⟩ v2).cell? ⟨b2, 0, none⟩ = some v2 := by
  have g2 : (W.setCell ⟨b1, 0, none⟩ v1).cell? ⟨b2, 0, none⟩ = some u2 := (World.cell?_setCell_other _ _ _ _ (by simp [hne])).trans h2
  refine ⟨(World.cell?_setCell_other _ _ _ _ (by simp [Ne.symm hne])).trans (World.cell?_setCell_same _ _ _ h1), World.cell?_setCell_same _ _ _ g2⟩

set_option maxRecDepth 100000 in
set_option maxHeartbeats 2000000 in
theorem tried_read (Bt : Nat) (s : ByteArray) (m : Int) (W : World) (hbox : W.heap[Bt]? = some (.cells #[.string s] 9 (0, 0))) (hBt : 0 < Bt) (hm : W.cell? ⟨0, 0, none⟩ = some (.int .i64 m)) :
    Calls Tryd.prog 26 #[.func (.func 27) #[] #[.pointer (some ⟨Bt, 0, none⟩)]] W fun e W' => Below W.heap.size W W' ∧ ∃ v, e = .returned (.tuple #[v, .int .i64 (readE s)]) ∧ k41.R 41 W' W.heap.size (fun _ => True) v (readF s) := by
  have hmf : ∀ (fn : Fn) (first cap : Array Value) (w : World), (Instr.makeFunc fn first cap).run Tryd.prog w = .ok (.func fn first cap) w := fun _ _ _ _ => rfl
  have hlt := (Array.getElem?_eq_some_iff.1 hbox).1
  have hbox2 : ((W.alloc (.cells #[.slice none 0 0] 23)).alloc (.cells #[.int .i64 0] 24)).heap[Bt]? = some (.cells #[.string s] 9 (0, 0)) := (Below.heap_alloc _ _ _ (by simp; omega)).trans ((Below.heap_alloc _ _ _ hlt).trans hbox)
  have hm2 : ((W.alloc (.cells #[.slice none 0 0] 23)).alloc (.cells #[.int .i64 0] 24)).cell? ⟨0, 0, none⟩ = some (.int .i64 m) := (World.cell?_alloc_past _ _ _ (by show 0 < _; simp)).trans ((World.cell?_alloc_past _ _ _ (by show 0 < _; omega)).trans hm)
  have HR0 := Aside0.mk (read1 Bt s m _ hbox2 hBt hm2)
  clear hbox hbox2 hm hm2
  cases hx : readOut s with
  | ok x =>
    have hR : Calls Tryd.prog 27 #[.pointer (some ⟨Bt, 0, none⟩)] ((W.alloc (.cells #[.slice none 0 0] 23)).alloc (.cells #[.int .i64 0] 24)) fun e W' => ∃ A c, e = .returned (.slice A x.length c) ∧
        k41.R 41 W' (W.heap.size + 2) (fun _ => True) (.slice A x.length c) x ∧ Below ((W.alloc (.cells #[.slice none 0 0] 23)).alloc (.cells #[.int .i64 0] 24)).heap.size ((W.alloc (.cells #[.slice none 0 0] 23)).alloc (.cells #[.int .i64 0] 24)) W' := by
      refine HR0.out.mono ?_
      rintro e W3 ⟨hb3, (⟨v, y, hy, rfl, hR⟩ | ⟨k, hk, rfl⟩)⟩
      · rw [hx] at hy; injection hy with hy; subst hy
        obtain ⟨A, c, rfl⟩ := own_slice (Kd.R_own hR).choose_spec
        exact ⟨A, c, rfl, by simpa using hR, hb3⟩
      · rw [hx] at hk; cases hk
    have HR := Aside0.mk hR
    have hE : readE s = 0 := by unfold readE; rw [hx]
    have hF : readF s = x := by unfold readF; rw [hx]
    rw [hE, hF]
    clear hR HR0 hE hF
    go_enter_defers Tryd.func26, Tryd.ntmps26
    go_wp2_with (go_at_call 27; refine HR.out.mono ?_; rintro e W3 ⟨A, c, rfl, hR, hb3⟩; obtain ⟨hc1, hf1, hc2, hf2, hbb⟩ := boxes hb3; have HBB := Aside0.mk hbb; have HV := Aside0.mk hR; clear hb3 hbb hR)
    have hd0 := hc1; have hd1 := hc2
    refine leaves_cons (f := 47) (args := #[.pointer (some ⟨W.heap.size + 1, 0, none⟩), .pointer (some ⟨W.heap.size, 0, none⟩)]) (by simp) (by simp [go_sem]) ?_
    refine (catch_no _ _ _).mono ?_
    rintro e u' w'' ⟨rfl, rfl, rfl⟩
    obtain ⟨e0, e1⟩ := cells2 (v1 := .slice A x.length c) (v2 := .int .i64 0) hc1 hc2 (by omega)
    refine ⟨.tuple #[.slice A x.length c, .int .i64 0], ?_, ?_, _, rfl, ?_⟩
    · simp [results, Tryd.f26, go_sem, e0, e1]
    · exact (HBB.out.setCell (Nat.le_refl _) _).setCell (by simp) _
    · exact Kd.R_lower (k41_set2 HV.out (by omega) (by omega)) (by omega)
  | error k =>
    have hR : Calls Tryd.prog 27 #[.pointer (some ⟨Bt, 0, none⟩)] ((W.alloc (.cells #[.slice none 0 0] 23)).alloc (.cells #[.int .i64 0] 24)) fun e W' => e = .panicked (thrown k) ∧
        Below ((W.alloc (.cells #[.slice none 0 0] 23)).alloc (.cells #[.int .i64 0] 24)).heap.size ((W.alloc (.cells #[.slice none 0 0] 23)).alloc (.cells #[.int .i64 0] 24)) W' := by
      refine HR0.out.mono ?_
      rintro e W3 ⟨hb3, (⟨v, y, hy, rfl, hR⟩ | ⟨j, hj, rfl⟩)⟩
      · rw [hx] at hy; cases hy
      · rw [hx] at hj; injection hj with hj; subst hj; exact ⟨rfl, hb3⟩
    have HR := Aside0.mk hR
    have hE : readE s = k := by unfold readE; rw [hx]
    have hF : readF s = [] := by unfold readF; rw [hx]
    rw [hE, hF]
    clear hR HR0 hE hF
    go_enter_defers Tryd.func26, Tryd.ntmps26
    go_wp2_with (go_at_call 27; refine HR.out.mono ?_; rintro e W3 ⟨rfl, hb3⟩; obtain ⟨hc1, hf1, hc2, hf2, hbb⟩ := boxes hb3; have HBB := Aside0.mk hbb; clear hb3 hbb)
    refine leaves_cons (f := 47) (args := #[.pointer (some ⟨W.heap.size + 1, 0, none⟩), .pointer (some ⟨W.heap.size, 0, none⟩)]) (by simp) (by simp [go_sem]) ?_
    refine (catch_yes _ _ k _ _ _ hc2 hf2 hc1 hf1 (by simp)).mono ?_
    rintro e u' w'' ⟨rfl, rfl, rfl⟩
    obtain ⟨e1, e0⟩ := cells2 (v1 := .int .i64 k) (v2 := .slice none 0 0) hc2 hc1 (by omega)
    refine ⟨.tuple #[.slice none 0 0, .int .i64 k], ?_, ?_, _, rfl, ?_⟩
    · simp [results, Tryd.f26, go_sem, e0, e1]
    · exact (HBB.out.setCell (by simp) _).setCell (Nat.le_refl _) _
    · exact Kd.R_nil _ _ _ _ _
end Go.Proofs.YtmjnodjjnjckiaaDoor

/- package lines: Read. -/
namespace Go.Proofs.YtmjnodjjnjckiaaDoor
open Go.RowKit Go.Shelf Go.Proofs.YtmjnodjjnjckiaaDoorW.PrintWords PLines

theorem read_calls (s : ByteArray) (m : Int) (W : World) (h0 : 0 < W.heap.size) (hm : W.cell? ⟨0, 0, none⟩ = some (.int .i64 m)) :
    Calls Tryd.prog 9 #[.string s] W fun e W' => ∃ v, e = .returned (.tuple #[v, .int .i64 (readE s)]) ∧ k41.R 41 W' W.heap.size (fun _ => True) v (readF s) ∧ Below W.heap.size W W' := by
  have hmf : ∀ (fn : Fn) (first cap : Array Value) (w : World), (Instr.makeFunc fn first cap).run Tryd.prog w = .ok (.func fn first cap) w := fun _ _ _ _ => rfl
  have hbox : (W.alloc (.cells #[.string s] 9)).heap[W.heap.size]? = some (.cells #[.string s] 9 (0, 0)) := World.alloc_heap_new W _
  have hm1 : (W.alloc (.cells #[.string s] 9)).cell? ⟨0, 0, none⟩ = some (.int .i64 m) := (World.cell?_alloc_past _ _ _ h0).trans hm
  have HR := Aside0.mk (tried_read W.heap.size s m _ hbox h0 hm1)
  have hb1 : Below W.heap.size W (W.alloc (.cells #[.string s] 9)) := (Below.refl _ _).alloc (Nat.le_refl _) _
  have HB := Aside0.mk hb1
  clear hbox hm hm1 hb1
  go_enter Tryd.func9, Tryd.ntmps9
  go_wp2_with (go_at_call 26; refine HR.out.mono ?_; rintro e W3 ⟨hb3, v, rfl, hR⟩; have HBB := Aside0.mk hb3; have HV := Aside0.mk hR; clear hb3 hR)
  refine bodyPost_ret (results_tmp2 rfl _ _ _) rfl ?_
  exact ⟨_, rfl, Kd.R_lower HV.out (by simp), HB.out.trans (HBB.out.mono (by simp))⟩
end Go.Proofs.YtmjnodjjnjckiaaDoor

/- package lines: tried at a string, Write. -/
import Derived.Test.YtmjnodjjnjckiaaDoorO
import Derived.Tactics2
import Derived.Defers
import Derived.Recover
import Derived.Laws.Pointers
namespace Go.Proofs.YtmjnodjjnjckiaaDoor
open Go.RowKit Go.Shelf Go.Proofs.YtmjnodjjnjckiaaDoorW.PrintWords PLines

theorem catchs_no (pe px : Addr) (W : World) :
    CallsD Tryd.prog 56 #[.pointer (some pe), .pointer (some px)] .returning W fun e u' w' => e = .returned (.tuple #[]) ∧ u' = .returning ∧ w' = W := by
  refine callsD_of_wpS Tryd.func56 rfl fun c₀ cs hu => ?_
  simp only [Tryd.ntmps56, List.size_toArray, List.length_cons, List.length_nil, Nat.reduceAdd, Nat.reduceSub, Array.replicate_succ, Array.replicate_zero, List.push_toArray, List.append_toArray, List.nil_append, List.cons_append]
  apply wpS_seq
  apply wpS_region
  simp [wpOpsS, go_sem, recoverD, hu, Exit.thenS]
  refine wpS_of_wp ?_
  go_wp2
  cases c₀
  simp_all [bodyPostS, results, Tryd.f56]
set_option maxRecDepth 100000 in
set_option maxHeartbeats 2000000 in
theorem catchs_yes (pe px : Addr) (k : Int) (v0 v1 : Value) (W : World) (h1 : W.cell? pe = some v0) (h2 : W.frozen? pe = false) (h3 : W.cell? px = some v1) (h4 : W.frozen? px = false) (hne : pe.block ≠ px.block) :
    CallsD Tryd.prog 56 #[.pointer (some pe), .pointer (some px)] (.panicking (thrown k)) W fun e u' w' =>
      e = .returned (.tuple #[]) ∧ u' = .panicking [{ v := .iface 24 (.int .i64 k), recovered := true }] ∧ w' = (W.setCell pe (.int .i64 k)).setCell px (.string ⟨#[]⟩) := by
  have hta := hta k
  have h3' : (W.setCell pe (.int .i64 k)).cell? px = some v1 := (World.cell?_of_block (Below.heap_setCell _ _ _ px.block (fun e => hne e.symm))).trans h3
  have h4' : (W.setCell pe (.int .i64 k)).frozen? px = false := (World.frozen?_of_block (Below.heap_setCell _ _ _ px.block (fun e => hne e.symm))).trans h4
  refine callsD_of_wpS Tryd.func56 rfl fun c₀ cs hu => ?_
  unfold thrown at hu
  simp only [Tryd.ntmps56, List.size_toArray, List.length_cons, List.length_nil, Nat.reduceAdd, Nat.reduceSub, Array.replicate_succ, Array.replicate_zero, List.push_toArray, List.append_toArray, List.nil_append, List.cons_append]
  apply wpS_seq
  apply wpS_region
  simp [wpOpsS, go_sem, recoverD, hu, Exit.thenS]
  refine wpS_of_wp ?_
  go_wp2
  cases c₀
  simp_all [bodyPostS, results, Tryd.f56]


/-- The text that Write tells; the error's number. -/
def writeT (l : List S41) : List UInt8 := match writeOut l with | .ok t => t | .error _ => []
def writeE (l : List S41) : Int := match writeOut l with | .ok _ => 0 | .error k => k

set_option maxRecDepth 100000 in
set_option maxHeartbeats 2000000 in
theorem tried_write (Bt : Nat) (A : Option Addr) (c : Nat) (l : List S41) (W : World) (hbox : W.heap[Bt]? = some (.cells #[.slice A l.length c] 23 (0, 0))) (hr : Kd.C k41 W A l.length l) (hc : l.length ≤ c) (hw : wtL l ≤ 1000000000000) :
    Calls Tryd.prog 34 #[.func (.func 35) #[] #[.pointer (some ⟨Bt, 0, none⟩)]] W fun e W' => Below W.heap.size W W' ∧ e = .returned (.tuple #[.string ⟨(writeT l).toArray⟩, .int .i64 (writeE l)]) := by
  have hmf : ∀ (fn : Fn) (first cap : Array Value) (w : World), (Instr.makeFunc fn first cap).run Tryd.prog w = .ok (.func fn first cap) w := fun _ _ _ _ => rfl
  have hlt := (Array.getElem?_eq_some_iff.1 hbox).1
  have hbox2 : ((W.alloc (.cells #[.string ⟨#[]⟩] 9)).alloc (.cells #[.int .i64 0] 24)).heap[Bt]? = some (.cells #[.slice A l.length c] 23 (0, 0)) := (Below.heap_alloc _ _ _ (by simp; omega)).trans ((Below.heap_alloc _ _ _ hlt).trans hbox)
  have hr2 : Kd.C k41 ((W.alloc (.cells #[.string ⟨#[]⟩] 9)).alloc (.cells #[.int .i64 0] 24)) A l.length l := Kd.C_below hr (((Below.refl _ W).alloc (Nat.le_refl _) _).alloc (by simp) _)
  have HR0 := Aside0.mk (write1 Bt A c l _ hbox2 hr2 hc hw)
  clear hbox hbox2 hr hr2 hc hw
  cases hx : writeOut l with
  | ok x =>
    have hR : Calls Tryd.prog 35 #[.pointer (some ⟨Bt, 0, none⟩)] ((W.alloc (.cells #[.string ⟨#[]⟩] 9)).alloc (.cells #[.int .i64 0] 24)) fun e W' => e = .returned (.string ⟨x.toArray⟩) ∧
        Below ((W.alloc (.cells #[.string ⟨#[]⟩] 9)).alloc (.cells #[.int .i64 0] 24)).heap.size ((W.alloc (.cells #[.string ⟨#[]⟩] 9)).alloc (.cells #[.int .i64 0] 24)) W' := by
      refine HR0.out.mono ?_
      rintro e W3 ⟨hb3, (⟨y, hy, rfl⟩ | ⟨k, hk, rfl⟩)⟩
      · rw [hx] at hy; injection hy with hy; subst hy; exact ⟨rfl, hb3⟩
      · rw [hx] at hk; cases hk
    have HR := Aside0.mk hR
    have hE : writeE l = 0 := by unfold writeE; rw [hx]
    have hF : writeT l = x := by unfold writeT; rw [hx]
    rw [hE, hF]
    clear hR HR0 hE hF
    go_enter_defers Tryd.func34, Tryd.ntmps34
    go_wp2_with (go_at_call 35; refine HR.out.mono ?_; rintro e W3 ⟨rfl, hb3⟩; obtain ⟨hc1, hf1, hc2, hf2, hbb⟩ := boxes hb3; have HBB := Aside0.mk hbb; clear hb3 hbb)
    refine leaves_cons (f := 56) (args := #[.pointer (some ⟨W.heap.size + 1, 0, none⟩), .pointer (some ⟨W.heap.size, 0, none⟩)]) (by simp) (by simp [go_sem]) ?_
    refine (catchs_no _ _ _).mono ?_
    rintro e u' w'' ⟨rfl, rfl, rfl⟩
    obtain ⟨e0, e1⟩ := cells2 (v1 := .string ⟨x.toArray⟩) (v2 := .int .i64 0) hc1 hc2 (by omega)
    refine ⟨.tuple #[.string ⟨x.toArray⟩, .int .i64 0], ?_, ?_, rfl⟩
    · simp [results, Tryd.f34, go_sem, e0, e1]
    · exact (HBB.out.setCell (Nat.le_refl _) _).setCell (by simp) _
  | error k =>
    have hR : Calls Tryd.prog 35 #[.pointer (some ⟨Bt, 0, none⟩)] ((W.alloc (.cells #[.string ⟨#[]⟩] 9)).alloc (.cells #[.int .i64 0] 24)) fun e W' => e = .panicked (thrown k) ∧
        Below ((W.alloc (.cells #[.string ⟨#[]⟩] 9)).alloc (.cells #[.int .i64 0] 24)).heap.size ((W.alloc (.cells #[.string ⟨#[]⟩] 9)).alloc (.cells #[.int .i64 0] 24)) W' := by
      refine HR0.out.mono ?_
      rintro e W3 ⟨hb3, (⟨y, hy, rfl⟩ | ⟨j, hj, rfl⟩)⟩
      · rw [hx] at hy; cases hy
      · rw [hx] at hj; injection hj with hj; subst hj; exact ⟨rfl, hb3⟩
    have HR := Aside0.mk hR
    have hE : writeE l = k := by unfold writeE; rw [hx]
    have hF : writeT l = [] := by unfold writeT; rw [hx]
    rw [hE, hF]
    clear hR HR0 hE hF
    go_enter_defers Tryd.func34, Tryd.ntmps34
    go_wp2_with (go_at_call 35; refine HR.out.mono ?_; rintro e W3 ⟨rfl, hb3⟩; obtain ⟨hc1, hf1, hc2, hf2, hbb⟩ := boxes hb3; have HBB := Aside0.mk hbb; clear hb3 hbb)
    refine leaves_cons (f := 56) (args := #[.pointer (some ⟨W.heap.size + 1, 0, none⟩), .pointer (some ⟨W.heap.size, 0, none⟩)]) (by simp) (by simp [go_sem]) ?_
    refine (catchs_yes _ _ k _ _ _ hc2 hf2 hc1 hf1 (by simp)).mono ?_
    rintro e u' w'' ⟨rfl, rfl, rfl⟩
    obtain ⟨e1, e0⟩ := cells2 (v1 := .int .i64 k) (v2 := .string ⟨#[]⟩) hc2 hc1 (by omega)
    refine ⟨.tuple #[.string ⟨#[]⟩, .int .i64 k], ?_, ?_, rfl⟩
    · simp [results, Tryd.f34, go_sem, e0, e1]
    · exact (HBB.out.setCell (by simp) _).setCell (Nat.le_refl _) _

theorem write_calls (A : Option Addr) (c : Nat) (l : List S41) (W : World) (hr : Kd.C k41 W A l.length l) (hc : l.length ≤ c) (hw : wtL l ≤ 1000000000000) :
    Calls Tryd.prog 16 #[.slice A l.length c] W fun e W' => e = .returned (.tuple #[.string ⟨(writeT l).toArray⟩, .int .i64 (writeE l)]) ∧ Below W.heap.size W W' := by
  have hmf : ∀ (fn : Fn) (first cap : Array Value) (w : World), (Instr.makeFunc fn first cap).run Tryd.prog w = .ok (.func fn first cap) w := fun _ _ _ _ => rfl
  have hbox : (W.alloc (.cells #[.slice A l.length c] 23)).heap[W.heap.size]? = some (.cells #[.slice A l.length c] 23 (0, 0)) := World.alloc_heap_new W _
  have hb1 : Below W.heap.size W (W.alloc (.cells #[.slice A l.length c] 23)) := (Below.refl _ _).alloc (Nat.le_refl _) _
  have HR := Aside0.mk (tried_write W.heap.size A c l _ hbox (Kd.C_below hr hb1) hc hw)
  have HB := Aside0.mk hb1
  clear hbox hr hc hw hb1
  go_enter Tryd.func16, Tryd.ntmps16
  go_wp2_with (go_at_call 34; refine HR.out.mono ?_; rintro e W3 ⟨hb3, rfl⟩; have HBB := Aside0.mk hb3; clear hb3)
  refine bodyPost_ret (results_tmp2 rfl _ _ _) rfl ?_
  exact ⟨rfl, HB.out.trans (HBB.out.mono (by simp))⟩
end Go.Proofs.YtmjnodjjnjckiaaDoor

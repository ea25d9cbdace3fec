/- package lines: Read. -/
import Derived.Test.YtmjnodjjnjckiaaDoorJ
namespace Go.Proofs.YtmjnodjjnjckiaaDoor
open Go.RowKit Go.Shelf Go.Proofs.YtmjnodjjnjckiaaDoorW.PrintWords PLines

theorem read_calls (s : ByteArray) (m : Int) (W : World) (h0 : 0 < W.heap.size) (hm : W.cell? ⟨0, 0, none⟩ = some (.int .i64 m)) :
    Calls Tryd.prog 9 #[.string s] W fun e W' => ∃ v, e = .returned (.tuple #[v, .int .i64 (readE s)]) ∧ k41.R 41 W' W.heap.size (fun _ => True) v (readF s) ∧ Below W.heap.size W W' := by
  have hmf : ∀ (fn : Fn) (first cap : Array Value) (w : World), (Instr.makeFunc fn first cap).run Tryd.prog w = .ok (.func fn first cap) w := fun _ _ _ _ => rfl
  have hbox : (W.alloc (.cells #[.string s] 9)).heap[W.heap.size]? = some (.cells #[.string s] 9 (0, 0)) := World.alloc_heap_new W _
  have hm1 : (W.alloc (.cells #[.string s] 9)).cell? ⟨0, 0, none⟩ = some (.int .i64 m) := (World.cell?_alloc_past _ _ _ h0).trans hm
  have HR := Aside0.mk (tried_read W.heap.size s m _ hbox h0 hm1)
  have hb1 : Below W.heap.size W (W.alloc (.cells #[.string s] 9)) := (Below.refl _ _).alloc (Nat.le_refl _) _
  have HB := Aside0.mk hb1
  clear hbox hm hm1 hb1
  go_enter Tryd.func9, Tryd.ntmps9
  go_wp2_with (go_at_call 26; refine HR.out.mono ?_; rintro e W3 ⟨hb3, v, rfl, hR⟩; have HBB := Aside0.mk hb3; have HV := Aside0.mk hR; clear hb3 hR)
  refine bodyPost_ret (results_tmp2 rfl _ _ _) rfl ?_
  exact ⟨_, rfl, Kd.R_lower HV.out (by simp), HB.out.trans (HBB.out.mono (by simp))⟩
end Go.Proofs.YtmjnodjjnjckiaaDoor

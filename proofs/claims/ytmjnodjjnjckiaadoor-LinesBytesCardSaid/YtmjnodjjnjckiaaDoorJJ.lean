/- Trees made by hand: list, nested. -/
import Derived.Test.YtmjnodjjnjckiaaDoorII
namespace Go.Proofs.YtmjnodjjnjckiaaDoor
open Go.RowKit Go.Shelf Go.Proofs.YtmjnodjjnjckiaaDoorW.PrintWords PLines

set_option maxRecDepth 100000 in
theorem list_calls (A : Option Addr) (n c : Nat) (w : World) : Calls Tryd.prog 22 #[.slice A n c] w fun e w' => e = .returned (.agg #[.string ⟨#[]⟩, .slice A n c]) ∧ Below w.heap.size w w' := by
  go_enter Tryd.func22, Tryd.ntmps22
  go_wp2_with fail
  exact bodyPost_ret (v := .agg #[.string ⟨#[]⟩, .slice A n c]) (by simp [results, Tryd.results22, go_sem]) rfl ⟨rfl, (Below.refl _ _).alloc (Nat.le_refl _) _⟩
theorem addz (g n : Nat) : (⟨g, 0, none⟩ : Addr).add n = ⟨g, n, none⟩ := by
  simp only [Addr.add]; split
  · rename_i h; subst h; rfl
  · simp
theorem C_block {w : World} {g : Nat} {cells : Array Value} (hb : w.heap[g]? = some (.cells cells 41 (0, 0))) (l : List S41) (hlen : l.length ≤ 9223372036854775807)
    (h : ∀ (j : Nat) p, l[j]? = some p → ∃ A c, cells[j * 2]? = some (.string p.f0) ∧ cells[j * 2 + 1]? = some (.slice A p.f1.length c) ∧ p.f1.length ≤ c ∧ Kd.C k41 w A p.f1.length p.f1) : Kd.C k41 w (some ⟨g, 0, none⟩) l.length l := by
  refine ⟨rfl, hlen, fun _ => ⟨_, rfl, fun j p hp => ?_⟩⟩
  obtain ⟨A, c, h0, h1, hc, hC⟩ := h j p hp
  refine ⟨_, rfl, k41_mk w p hc hC, fun i u hu => ?_⟩
  have hcell : w.cell? ((⟨g, 0, none⟩ : Addr).add (j * k41.sz + i)) = cells[j * 2 + i]? := by
    rw [addz]; exact (blk_cell hb _)
  rw [hcell]
  rcases i with _ | _ | i
  · simp at hu; rw [← hu]; exact h0
  · simp at hu; rw [← hu]; exact h1
  · simp at hu
theorem C_one {w : World} {g c : Nat} {A : Option Addr} {x : S41} (hb : w.heap[g]? = some (.cells #[.string x.f0, .slice A x.f1.length c] 41 (0, 0))) (hc : x.f1.length ≤ c) (hC : Kd.C k41 w A x.f1.length x.f1) : Kd.C k41 w (some ⟨g, 0, none⟩) 1 [x] :=
  C_block hb [x] (by simp) fun j p hp => by
    rcases j with _ | j
    · simp at hp; subst hp; exact ⟨A, c, rfl, rfl, hc, hC⟩
    · simp at hp
theorem C_two {w : World} {g c d : Nat} {A D : Option Addr} {x y : S41} (hb : w.heap[g]? = some (.cells #[.string x.f0, .slice A x.f1.length c, .string y.f0, .slice D y.f1.length d] 41 (0, 0))) (hc : x.f1.length ≤ c) (hC : Kd.C k41 w A x.f1.length x.f1)
    (hd : y.f1.length ≤ d) (hD : Kd.C k41 w D y.f1.length y.f1) : Kd.C k41 w (some ⟨g, 0, none⟩) 2 [x, y] :=
  C_block hb [x, y] (by simp) fun j p hp => by
    rcases j with _ | _ | j
    · simp at hp; subst hp; exact ⟨A, c, rfl, rfl, hc, hC⟩
    · simp at hp; subst hp; exact ⟨D, d, rfl, rfl, hd, hD⟩
    · simp at hp
theorem C_none (w : World) : Kd.C k41 w none 0 [] := ⟨rfl, by decide, fun h => absurd h (by decide)⟩
theorem heap41 : Kd.Heap k41 := Kd.heap_fix (fun _ hd => Kd.heap_iso _ (Kd.heap_pair Kd.heap_string (Kd.heap_slice 41 hd)))
theorem F_of_C {w : World} {A : Option Addr} {n : Nat} {l : List S41} (h : Kd.C k41 w A n l) : Kd.F k41 w (fun _ => True) A n l := fun _ hW => heap41.C (fun k hk => hW k trivial hk) h
theorem F_one {w : World} {g c : Nat} {ok : Nat → Prop} {A : Option Addr} {x : S41} (hg : ok g) (hb : w.heap[g]? = some (.cells #[.string x.f0, .slice A x.f1.length c] 41 (0, 0))) (hc : x.f1.length ≤ c) (hF : Kd.F k41 w ok A x.f1.length x.f1) : Kd.F k41 w ok (some ⟨g, 0, none⟩) 1 [x] :=
  fun W' hW => C_one ((hW g hg (size_of hb)).trans hb) hc (hF W' hW)
/-- Some trees in so many lists. -/
def nestL : Nat → List S41 → List S41
  | 0, l => l
  | k + 1, l => [⟨⟨#[]⟩, nestL k l⟩]
theorem nest_wt (l : List S41) : ∀ k, wtL (nestL k l) ≤ wtL l + 10 * k
  | 0 => by simp [nestL]
  | k + 1 => by
    have := nest_wt l k
    have h0 : (⟨#[]⟩ : ByteArray).size = 0 := rfl
    simp [nestL, wtL, wtT, h0]
    omega

set_option maxHeartbeats 4000000 in
set_option maxRecDepth 100000 in
theorem nested_calls (n : Int) (h1 : 1 ≤ n) (h2 : n ≤ 1000) (A : Option Addr) (c : Nat) (l : List S41) (w : World) (hC : Kd.C k41 w A l.length l) (hc : l.length ≤ c) :
    Calls Tryd.prog 24 #[.int .i64 n, .slice A l.length c] w fun e w' => ∃ A' c', e = .returned (.agg #[.string ⟨#[]⟩, .slice A' (nestL (n.toNat - 1) l).length c']) ∧ (nestL (n.toNat - 1) l).length ≤ c' ∧ Kd.C k41 w' A' (nestL (n.toNat - 1) l).length (nestL (n.toNat - 1) l) ∧ Below w.heap.size w w' := by
  have HC := Aside0.mk hC
  have HL := Aside0.mk hc
  clear hC hc
  go_enter Tryd.func24, Tryd.ntmps24
  go_wp2_with fail
  refine (list_calls _ _ _ _).mono ?_
  rintro e w1 ⟨rfl, hb1⟩
  have hrb : w1.heap[w.heap.size]? = some (.cells #[.string ⟨#[]⟩, .slice none 0 0] 41 (0, 0)) := (hb1.block _ (by simp)).trans (World.alloc_heap_new w _)
  have hB1 : Below w.heap.size w w1 := ((Below.refl _ _).alloc (Nat.le_refl _) _).trans (hb1.mono (by simp))
  have hlt1 : w.heap.size < w1.heap.size := size_of hrb
  obtain ⟨rb, hrbe⟩ : ∃ rb, w.heap.size = rb := ⟨_, rfl⟩
  obtain ⟨ob, hobe⟩ : ∃ ob, w1.heap.size = ob := ⟨_, rfl⟩
  have HRB := Aside0.mk hrb
  have HB1 := Aside0.mk hB1
  have HLT := Aside0.mk hlt1
  have HRE := Aside0.mk hrbe
  have HOE := Aside0.mk hobe
  clear hrb hB1 hlt1 hb1
  go_wp2_with fail
  clear hobe hrbe
  go_loopw [6] (fun i wr => ∃ k : Nat, i = .int .i64 ((k : Int) + 1) ∧ (k : Int) + 1 ≤ n ∧ wr.heap[rb]? = some (.cells #[.string ⟨#[]⟩, .slice none 0 0] 41 (0, 0)) ∧ (∃ A' c', wr.heap[ob]? = some (.cells #[.string ⟨#[]⟩, .slice A' (nestL k l).length c'] 41 (0, 0)) ∧ (nestL k l).length ≤ c' ∧ Kd.F k41 wr (fun k => k ≠ ob ∧ k ≠ rb) A' (nestL k l).length (nestL k l)) ∧ Below w.heap.size w wr) (fun i _ => (n - intOf i).toNat)
  case atStart =>
    refine ⟨0, rfl, by omega, ?_, ⟨A, c, ?_, HL.out, ?_⟩, HB1.out.alloc HB1.out.size _⟩
    · rw [← HRE.out]; exact (Below.heap_alloc _ _ _ HLT.out).trans HRB.out
    · rw [← HOE.out]; exact World.alloc_heap_new w1 _
    · refine Kd.F_mono (Kd.F_old (F_of_C HC.out) (HB1.out.alloc HB1.out.size _)) (fun k hk => ⟨?_, ?_⟩)
      · have h1 := HLT.out; have h2 := HOE.out; have := hk.2; omega
      · have h2 := HRE.out; have := hk.2; omega
  case round =>
    obtain ⟨k, rfl, hk, hr, ⟨A', c', ho, hlen, hC'⟩, hb⟩ := hrel
    have q0 : wr.cell? ⟨ob, 0, none⟩ = some (.string ⟨#[]⟩) := blk_cell ho 0
    have q1 : wr.cell? ⟨ob, 1, none⟩ = some (.slice A' (nestL k l).length c') := blk_cell ho 1
    have hor : ob ≠ rb := by
      have h1 := HLT.out; rw [HRE.out, HOE.out] at h1; omega
    have HO := Aside0.mk ho
    have HR := Aside0.mk hr
    have HC2 := Aside0.mk hC'
    have HL2 := Aside0.mk hlen
    have HB := Aside0.mk hb
    have HBR : Aside0 (w.heap.size ≤ ob) := ⟨by have h1 := HLT.out; rw [HOE.out] at h1; omega⟩
    have HRR : Aside0 (w.heap.size ≤ rb) := ⟨by rw [HRE.out]; exact Nat.le_refl _⟩
    clear ho hr hC' hlen hb
    by_cases hkn : (k : Int) + 1 < n
    · go_wp2_with fail
      refine (list_calls _ _ _ _).mono ?_
      rintro e w2 ⟨rfl, hb2⟩
      have HO2 := Aside0.mk ((hb2.block ob (by have := size_of HO.out; simp; omega)).trans ((Below.heap_alloc _ _ _ (size_of HO.out)).trans HO.out))
      have HR2 := Aside0.mk ((hb2.block rb (by have := size_of HR.out; simp; omega)).trans ((Below.heap_alloc _ _ _ (size_of HR.out)).trans HR.out))
      have HNEW := Aside0.mk ((hb2.block wr.heap.size (by simp)).trans (World.alloc_heap_new wr (.cells #[.string ⟨#[]⟩, .slice A' (nestL k l).length c'] 41)))
      have HWB := Aside0.mk (((Below.refl wr.heap.size wr).alloc (Nat.le_refl _) (.cells #[.string ⟨#[]⟩, .slice A' (nestL k l).length c'] 41)).trans (hb2.mono (by simp)))
      have r0 := blk_cell HO2.out 0
      have r1 := blk_cell HO2.out 1
      have f0 := blk_frozen HO2.out 0
      have f1 := blk_frozen HO2.out 1
      have HSZ := Aside0.mk (size_of HO.out)
      obtain ⟨nb, hnb⟩ : ∃ nb, wr.heap.size = nb := ⟨_, rfl⟩
      have HNB := Aside0.mk hnb
      clear hb2
      go_wp2_with fail
      clear hnb
      go_roundw
      case rel =>
        have hne : ob ≠ nb := by have := HSZ.out; have := HNB.out; omega
        have hob := blk_set (blk_set HO2.out 0 (.string ⟨#[]⟩)) 1 (.slice (some ⟨nb, 0, none⟩) 1 1)
        refine ⟨k + 1, by push_cast; rfl, by push_cast; omega, blk_far (blk_far HR2.out (Ne.symm hor) _) (Ne.symm hor) _, ⟨some ⟨nb, 0, none⟩, 1, hob, Nat.le_refl _, ?_⟩, ?_⟩
        · refine F_one (x := ⟨⟨#[]⟩, nestL k l⟩) (c := c') (A := A') ⟨hne.symm, ?_⟩ ?_ HL2.out ?_
          · have := size_of HR.out; have := HNB.out; omega
          · have h5 := HNEW.out
            rw [HNB.out] at h5
            exact blk_far (blk_far h5 hne.symm _) hne.symm _
          · exact Kd.F_far (Kd.F_far (Kd.F_below HC2.out HWB.out) (fun _ hk => hk.1) _) (fun _ hk => hk.1) _
        · exact ((HB.out.trans (HWB.out.mono HB.out.size)).setCell HBR.out _).setCell HBR.out _
      case measure => simp [intOf]; omega
    · have hkn' : n = (k : Int) + 1 := by omega
      have hk2 : n.toNat - 1 = k := by omega
      have hnot : decide ((k : Int) + 1 < n) = false := by simp; omega
      have r0 := blk_cell HR.out 0
      have r1 := blk_cell HR.out 1
      have f0 := blk_frozen HR.out 0
      have f1 := blk_frozen HR.out 1
      have HK2 := Aside0.mk hk2
      clear hkn' hk2
      go_wp2_with fail
      have hres := blk_set (blk_set HR.out 0 (.string ⟨#[]⟩)) 1 (.slice A' (nestL k l).length c')
      refine bodyPost_ret (results_cell_row rfl _ _ rb 41 #[.string ⟨#[]⟩, .slice A' (nestL k l).length c'] (0, 0) _ rfl hres Tryd.underlying41 rfl (by kernel_rfl)) rfl ?_
      rw [HK2.out]
      exact ⟨A', c', rfl, HL2.out, Kd.F_now (Kd.F_far (Kd.F_far HC2.out (fun _ hk => hk.2) _) (fun _ hk => hk.2) _), (HB.out.setCell HRR.out _).setCell HRR.out _⟩
end Go.Proofs.YtmjnodjjnjckiaaDoor

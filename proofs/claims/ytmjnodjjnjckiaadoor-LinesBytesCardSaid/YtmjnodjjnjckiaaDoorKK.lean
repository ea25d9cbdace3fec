/- long: texts as long as may be, and longer. -/
import Derived.Test.YtmjnodjjnjckiaaDoorJJ
import Derived.Deep.RegionWith
namespace Go.Proofs.YtmjnodjjnjckiaaDoor
open Go.RowKit Go.Shelf Go.Proofs.YtmjnodjjnjckiaaDoorW.PrintWords PLines

theorem C_block44 {w : World} {g : Nat} {cells : Array Value} (hb : w.heap[g]? = some (.cells cells 44 (0, 0))) (l : List S44) (hlen : l.length ≤ 9223372036854775807)
    (h : ∀ (j : Nat) p, l[j]? = some p → ∃ A c, cells[j * 2]? = some (.string p.f0) ∧ cells[j * 2 + 1]? = some (.slice A p.f1.length c) ∧ p.f1.length ≤ c ∧ Kd.C k44 w A p.f1.length p.f1) : Kd.C k44 w (some ⟨g, 0, none⟩) l.length l := by
  refine ⟨rfl, hlen, fun _ => ⟨_, rfl, fun j p hp => ?_⟩⟩
  obtain ⟨A, c, h0, h1, hc, hC⟩ := h j p hp
  refine ⟨_, rfl, k44_mk w p hc hC, fun i u hu => ?_⟩
  have hcell : w.cell? ((⟨g, 0, none⟩ : Addr).add (j * k44.sz + i)) = cells[j * 2 + i]? := by
    rw [addz]; exact (blk_cell hb _)
  rw [hcell]
  rcases i with _ | _ | i
  · simp at hu; rw [← hu]; exact h0
  · simp at hu; rw [← hu]; exact h1
  · simp at hu
theorem make41 (k : Nat) (hk : k < 4) : ∃ cells : Array Value, (∀ w, (Instr.makeSlice 23 (.int .i64 (k : Int)) (.int .i64 (k : Int))).run Tryd.prog w = .ok (.slice (some ⟨w.heap.size, 0, none⟩) k k) (w.alloc (.cells cells 41))) ∧ ∀ j, j < k → cells[j * 2]? = some (.string ⟨#[]⟩) ∧ cells[j * 2 + 1]? = some (.slice none 0 0) := by
  rcases k with _ | _ | _ | _ | k
  · exact ⟨#[], fun w => by kernel_rfl, fun j hj => absurd hj (by omega)⟩
  · refine ⟨#[.string ⟨#[]⟩, .slice none 0 0], fun w => by kernel_rfl, fun j hj => ?_⟩
    obtain rfl : j = 0 := by omega
    exact ⟨rfl, rfl⟩
  · refine ⟨#[.string ⟨#[]⟩, .slice none 0 0, .string ⟨#[]⟩, .slice none 0 0], fun w => by kernel_rfl, fun j hj => ?_⟩
    rcases j with _ | _ | j
    · exact ⟨rfl, rfl⟩
    · exact ⟨rfl, rfl⟩
    · omega
  · refine ⟨#[.string ⟨#[]⟩, .slice none 0 0, .string ⟨#[]⟩, .slice none 0 0, .string ⟨#[]⟩, .slice none 0 0], fun w => by kernel_rfl, fun j hj => ?_⟩
    rcases j with _ | _ | _ | j
    · exact ⟨rfl, rfl⟩
    · exact ⟨rfl, rfl⟩
    · exact ⟨rfl, rfl⟩
    · omega
  · omega
theorem make44 (k : Nat) (hk : k < 4) : ∃ cells : Array Value, (∀ w, (Instr.makeSlice 27 (.int .i64 (k : Int)) (.int .i64 (k : Int))).run Tryd.prog w = .ok (.slice (some ⟨w.heap.size, 0, none⟩) k k) (w.alloc (.cells cells 44))) ∧ ∀ j, j < k → cells[j * 2]? = some (.string ⟨#[]⟩) ∧ cells[j * 2 + 1]? = some (.slice none 0 0) := by
  rcases k with _ | _ | _ | _ | k
  · exact ⟨#[], fun w => by kernel_rfl, fun j hj => absurd hj (by omega)⟩
  · refine ⟨#[.string ⟨#[]⟩, .slice none 0 0], fun w => by kernel_rfl, fun j hj => ?_⟩
    obtain rfl : j = 0 := by omega
    exact ⟨rfl, rfl⟩
  · refine ⟨#[.string ⟨#[]⟩, .slice none 0 0, .string ⟨#[]⟩, .slice none 0 0], fun w => by kernel_rfl, fun j hj => ?_⟩
    rcases j with _ | _ | j
    · exact ⟨rfl, rfl⟩
    · exact ⟨rfl, rfl⟩
    · omega
  · refine ⟨#[.string ⟨#[]⟩, .slice none 0 0, .string ⟨#[]⟩, .slice none 0 0, .string ⟨#[]⟩, .slice none 0 0], fun w => by kernel_rfl, fun j hj => ?_⟩
    rcases j with _ | _ | _ | j
    · exact ⟨rfl, rfl⟩
    · exact ⟨rfl, rfl⟩
    · exact ⟨rfl, rfl⟩
    · omega
  · omega
/-- A long word, and a list of so many that are empty. -/
def longL (s : ByteArray) (k : Nat) : List S41 := [⟨s, []⟩, ⟨⟨#[]⟩, List.replicate k ⟨⟨#[]⟩, []⟩⟩]
theorem wt_rep : ∀ k, wtL (List.replicate k (⟨⟨#[]⟩, []⟩ : S41)) = k
  | 0 => rfl
  | k + 1 => by
    have h0 : (⟨#[]⟩ : ByteArray).size = 0 := rfl
    rw [List.replicate_succ]; simp [wtL, wtT, wt_rep k, h0]; omega
theorem long_wt (s : ByteArray) (k : Nat) (hs : s.size ≤ 1000000) (hk : k < 4) : wtL (longL s k) ≤ 1000000000000 := by
  have h0 : (⟨#[]⟩ : ByteArray).size = 0 := rfl
  simp [longL, wtL, wtT, wt_rep, h0]; omega
theorem long_C {w : World} {g mb k : Nat} {s : ByteArray} {cells : Array Value} (hb : w.heap[g]? = some (.cells #[.string s, .slice none 0 0, .string ⟨#[]⟩, .slice (some ⟨mb, 0, none⟩) k k] 41 (0, 0))) (hm : w.heap[mb]? = some (.cells cells 41 (0, 0)))
    (hc : ∀ j, j < k → cells[j * 2]? = some (.string ⟨#[]⟩) ∧ cells[j * 2 + 1]? = some (.slice none 0 0)) (hk : k < 4) : Kd.C k41 w (some ⟨g, 0, none⟩) (longL s k).length (longL s k) := by
  have hrep : Kd.C k41 w (some ⟨mb, 0, none⟩) (List.replicate k (⟨⟨#[]⟩, []⟩ : S41)).length (List.replicate k ⟨⟨#[]⟩, []⟩) :=
    C_block hm _ (by simp; omega) fun j p hp => by
      rw [List.getElem?_replicate] at hp
      split at hp
      · rename_i hj
        injection hp with hp
        subst hp
        exact ⟨none, 0, (hc j hj).1, (hc j hj).2, Nat.le_refl _, C_none w⟩
      · cases hp
  refine C_block hb (longL s k) (by simp [longL]) fun j p hp => ?_
  rcases j with _ | _ | j
  · simp [longL] at hp; subst hp; exact ⟨none, 0, rfl, rfl, Nat.le_refl _, C_none w⟩
  · simp [longL] at hp; subst hp
    refine ⟨some ⟨mb, 0, none⟩, k, rfl, by simp, by simp, hrep⟩
  · simp [longL] at hp
theorem tuL_rep : ∀ k, tuL (List.replicate k (⟨⟨#[]⟩, []⟩ : S41)) = List.replicate k ⟨⟨#[]⟩, []⟩
  | 0 => rfl
  | k + 1 => by rw [List.replicate_succ, List.replicate_succ]; show tuT _ :: tuL _ = _; rw [tuL_rep k]; rfl
theorem long_tu (s : ByteArray) (k : Nat) : tuL (longL s k) = [⟨s, []⟩, ⟨⟨#[]⟩, List.replicate k ⟨⟨#[]⟩, []⟩⟩] := by
  show [tuT _, tuT _] = _
  simp only [tuT, tuL_rep]; rfl
theorem C_none44 (w : World) : Kd.C k44 w none 0 [] := ⟨rfl, by decide, fun h => absurd h (by decide)⟩
theorem long_C44 {w : World} {g mb k : Nat} {s : ByteArray} {cells : Array Value} (hb : w.heap[g]? = some (.cells #[.string s, .slice none 0 0, .string ⟨#[]⟩, .slice (some ⟨mb, 0, none⟩) k k] 44 (0, 0))) (hm : w.heap[mb]? = some (.cells cells 44 (0, 0)))
    (hc : ∀ j, j < k → cells[j * 2]? = some (.string ⟨#[]⟩) ∧ cells[j * 2 + 1]? = some (.slice none 0 0)) (hk : k < 4) : Kd.C k44 w (some ⟨g, 0, none⟩) (tuL (longL s k)).length (tuL (longL s k)) := by
  have hrep : Kd.C k44 w (some ⟨mb, 0, none⟩) (List.replicate k (⟨⟨#[]⟩, []⟩ : S44)).length (List.replicate k ⟨⟨#[]⟩, []⟩) :=
    C_block44 hm _ (by simp; omega) fun j p hp => by
      rw [List.getElem?_replicate] at hp
      split at hp
      · rename_i hj
        injection hp with hp
        subst hp
        exact ⟨none, 0, (hc j hj).1, (hc j hj).2, Nat.le_refl _, C_none44 w⟩
      · cases hp
  rw [long_tu]
  refine C_block44 hb _ (by simp) fun j p hp => ?_
  rcases j with _ | _ | j
  · simp at hp; subst hp; exact ⟨none, 0, rfl, rfl, Nat.le_refl _, C_none44 w⟩
  · simp at hp; subst hp
    refine ⟨some ⟨mb, 0, none⟩, k, rfl, by simp, by simp, hrep⟩
  · simp at hp

/-- What is written, as a string. -/
def writeB (l : List S41) : ByteArray := ⟨(writeT l).toArray⟩
theorem chC {w7 : World} (o X : Obj) : ((w7.alloc o).alloc X).heap[w7.heap.size]? = some o := by
  have h1 := World.alloc_heap_new w7 o
  exact (Below.heap_alloc _ _ _ (size_of h1)).trans h1
theorem chD {w7 : World} (o X : Obj) : ((w7.alloc o).alloc X).heap[w7.heap.size + 1]? = some X := by
  have h1 := World.alloc_heap_new (w7.alloc o) X
  simpa using h1
theorem chA {w4 w5 w6 : World} {o : Obj} (h5 : Below (w4.alloc o).drew.heap.size (w4.alloc o).drew w5) (h6 : Below w5.heap.size w5 w6) (X : Obj) : (w6.alloc X).heap[w4.heap.size]? = some o := by
  have h1 : (w4.alloc o).drew.heap[w4.heap.size]? = some o := World.alloc_heap_new w4 o
  have h2 := (h5.block _ (size_of h1)).trans h1
  have h3 := (h6.block _ (size_of h2)).trans h2
  exact (Below.heap_alloc _ _ _ (size_of h3)).trans h3
theorem chB {w5 w6 : World} {o : Obj} (h6 : Below (w5.alloc o).heap.size (w5.alloc o) w6) (X : Obj) : (w6.alloc X).heap[w5.heap.size]? = some o := by
  have h1 : (w5.alloc o).heap[w5.heap.size]? = some o := World.alloc_heap_new w5 o
  have h3 := (h6.block _ (size_of h1)).trans h1
  exact (Below.heap_alloc _ _ _ (size_of h3)).trans h3
theorem totA {w4 w5 w6 w7 : World} {o X : Obj} (h5 : Below (w4.alloc o).drew.heap.size (w4.alloc o).drew w5) (h6 : Below w5.heap.size w5 w6) (h7 : Below (w6.alloc X).heap.size (w6.alloc X) w7) : Below w4.heap.size w4 w7 := by
  have a1 : Below w4.heap.size w4 (w4.alloc o).drew := ((Below.refl _ _).alloc (Nat.le_refl _) _).drew
  have a2 := a1.trans (h5.mono a1.size)
  have a3 := a2.trans (h6.mono a2.size)
  have a4 := a3.alloc a3.size X
  exact a4.trans (h7.mono a4.size)
theorem totB {w4 w5 w6 w7 : World} {o X : Obj} (h5 : Below w4.drew.heap.size w4.drew w5) (h6 : Below (w5.alloc o).heap.size (w5.alloc o) w6) (h7 : Below (w6.alloc X).heap.size (w6.alloc X) w7) : Below w4.heap.size w4 w7 := by
  have a1 : Below w4.heap.size w4 w4.drew := (Below.refl _ _).drew
  have a2 := a1.trans (h5.mono a1.size)
  have a2b := a2.alloc a2.size o
  have a3 := a2b.trans (h6.mono a2b.size)
  have a4 := a3.alloc a3.size X
  exact a4.trans (h7.mono a4.size)
theorem write_long {w : World} {g mb k : Nat} {s : ByteArray} {cells : Array Value} (hb : w.heap[g]? = some (.cells #[.string s, .slice none 0 0, .string ⟨#[]⟩, .slice (some ⟨mb, 0, none⟩) k k] 41 (0, 0))) (hm : w.heap[mb]? = some (.cells cells 41 (0, 0)))
    (hc : ∀ j, j < k → cells[j * 2]? = some (.string ⟨#[]⟩) ∧ cells[j * 2 + 1]? = some (.slice none 0 0)) (hk : k < 4) (hs : s.size ≤ 262140) :
    Calls Tryd.prog 16 #[.slice (some ⟨g, 0, none⟩) 2 2] w fun e w' => e = .returned (.tuple #[.string (writeB (longL s k)), .int .i64 (writeE (longL s k))]) ∧ Below w.heap.size w w' :=
  write_calls _ 2 (longL s k) w (long_C hb hm hc hk) (Nat.le_refl _) (long_wt s k (by omega) hk)
theorem rwrite_long {w : World} {g mb k : Nat} {s : ByteArray} {cells : Array Value} (hb : w.heap[g]? = some (.cells #[.string s, .slice none 0 0, .string ⟨#[]⟩, .slice (some ⟨mb, 0, none⟩) k k] 44 (0, 0))) (hm : w.heap[mb]? = some (.cells cells 44 (0, 0)))
    (hc : ∀ j, j < k → cells[j * 2]? = some (.string ⟨#[]⟩) ∧ cells[j * 2 + 1]? = some (.slice none 0 0)) (hk : k < 4) (hs : s.size ≤ 262140) :
    Calls Tryd.prog 17 #[.slice (some ⟨g, 0, none⟩) 2 2] w fun e w' => e = .returned (.tuple #[.string (writeB (longL s k)), .int .i64 (writeE (longL s k))]) ∧ Below w.heap.size w w' := by
  have h := rwrite_calls (c := 2) (long_C44 hb hm hc hk) (by rw [long_tu]; exact Nat.le_refl _) (long_wt s k (by omega) hk)
  rw [long_tu] at h
  exact h

set_option maxHeartbeats 4000000 in
set_option maxRecDepth 100000 in
theorem long_calls (m : Int) (W : World) (h0 : 0 < W.heap.size) (hm : W.cell? ⟨0, 0, none⟩ = some (.int .i64 m)) :
    Calls Tryd.prog 25 #[] W fun e W' => e = .returned (.bool true) ∧ Below W.heap.size W W' := by
  have H0 := Aside0.mk h0
  have HM := Aside0.mk hm
  clear h0 hm
  have hrep := Tryd.strings_Repeat ⟨#[97]⟩ 262140 W (by decide) (by decide)
  obtain ⟨whole, hwhole⟩ : ∃ whole : ByteArray, (⟨(Lib.repeatL (⟨#[97]⟩ : ByteArray).data.toList 262140).toArray⟩ : ByteArray) = whole := ⟨_, rfl⟩
  rw [hwhole] at hrep
  have HWS : Aside0 (whole.size ≤ 262140) := ⟨by rw [← hwhole]; show (Lib.repeatL [97] 262140).length ≤ 262140; rw [Lib.repeatL_length]; decide⟩
  clear hwhole
  go_enter Tryd.func25, Tryd.ntmps25
  go_wp2_with fail
  refine hrep.mono ?_
  rintro e w1 ⟨rfl, hb1⟩
  have HB := Aside0.mk hb1
  clear hb1 hrep
  go_wp2_with fail
  go_loopw [2] (fun i wr => ∃ k : Nat, i = .int .i64 k ∧ k ≤ 4 ∧ Below W.heap.size W wr) (fun i _ => 4 - idx i)
  case atStart => exact ⟨0, rfl, by omega, HB.out⟩
  case round =>
    obtain ⟨k, rfl, hk, hb⟩ := hrel
    have HB := Aside0.mk hb
    clear hb
    by_cases hk4 : k < 4
    · have hrep2 := fun w => Tryd.strings_Repeat ⟨#[32, 98]⟩ k w (by omega) (by show 2 * k ≤ _; omega)
      obtain ⟨tail, htail⟩ : ∃ tail : ByteArray, (⟨(Lib.repeatL (⟨#[32, 98]⟩ : ByteArray).data.toList k).toArray⟩ : ByteArray) = tail := ⟨_, rfl⟩
      rw [htail] at hrep2
      have HTS : Aside0 (tail.size ≤ 6) := ⟨by rw [← htail]; show (Lib.repeatL [32, 98] k).length ≤ 6; rw [Lib.repeatL_length]; simp; omega⟩
      have HREP := Aside0.mk hrep2
      obtain ⟨c41, hm41, hc41⟩ := make41 k hk4
      obtain ⟨c44, hm44, hc44⟩ := make44 k hk4
      have HC41 := Aside0.mk hc41
      have HC44 := Aside0.mk hc44
      have HK4 := Aside0.mk hk4
      clear hrep2 htail hc41 hc44
      have hws := HWS.out
      have hts := HTS.out
      have hi0 : decide ((k : Int) < 4) = true := by simp; omega
      go_wp2_with fail
      refine (HREP.out _).mono ?_
      rintro e w2 ⟨rfl, hb2⟩
      have HB := Aside0.mk (HB.out.trans (hb2.mono HB.out.size))
      clear hb2 HREP
      go_wp2_with fail
      obtain ⟨text, htext⟩ : ∃ text : ByteArray, whole ++ tail = text := ⟨_, rfl⟩
      rw [htext]
      clear htext
      refine (read_calls text m _ (Nat.lt_of_lt_of_le H0.out HB.out.size) ((HB.out.cell (p := ⟨0, 0, none⟩) H0.out).trans HM.out)).mono ?_
      rintro e w3 ⟨va, rfl, hRa, hb3⟩
      have HRA := Aside0.mk hRa
      have HB2 := HB
      have HB := Aside0.mk (HB.out.trans (hb3.mono HB.out.size))
      clear hRa hb3
      go_wp2_with fail
      refine (rread_calls text _).mono ?_
      rintro e w4 ⟨vb, rfl, hRb, hb4⟩
      have HRB := Aside0.mk hRb
      have HRA := Aside0.mk (Kd.R_below HRA.out hb4)
      have HB := Aside0.mk (HB.out.trans (hb4.mono HB.out.size))
      clear hRb hb4
      go_wp2_with fail
      go_region_with (first | (go_at_call 21; refine (word_calls _ _).mono ?_; rintro e w5 ⟨rfl, hb5⟩; have H5 := Aside0.mk hb5; clear hb5) | (go_at_call 22; refine (list_calls _ _ _ _).mono ?_; rintro e w6 ⟨rfl, hb6⟩; have H6 := Aside0.mk hb6; clear hb6) | (go_at_call 16; refine (write_long (World.alloc_heap_new _ _) (by first | exact chA H5.out H6.out _ | exact chB H6.out _) HC41.out HK4.out HWS.out).mono ?_; rintro e w7 ⟨rfl, hb7⟩; have H7 := Aside0.mk (by first | exact totA H5.out H6.out hb7 | exact totB H5.out H6.out hb7); clear hb7))
      all_goals
        have HRA := Aside0.mk (Kd.R_below HRA.out H7.out)
        have HRB := Aside0.mk (Kd.R_below HRB.out H7.out)
        have HB := Aside0.mk (HB.out.trans (H7.out.mono HB.out.size))
        clear H5 H6 H7 hm41
        go_wp2_with fail
        refine (rwrite_long (chD _ _) (chC _ _) HC44.out HK4.out HWS.out).mono ?_
        rintro e w9 ⟨rfl, hb9⟩
        have HAA := Aside0.mk (((Below.refl w7.heap.size w7).alloc (Nat.le_refl _) _).alloc (by simp) _ |>.trans (hb9.mono (by simp; omega)))
        have HRA := Aside0.mk (Kd.R_below HRA.out HAA.out)
        have HRB := Aside0.mk (Kd.R_below HRB.out HAA.out)
        have HB := Aside0.mk (HB.out.trans (HAA.out.mono HB.out.size))
        clear hb9 hm44 HAA
        go_wp2_with fail
        refine (same_R HRA.out HRB.out (readF_wt text)).mono ?_
        rintro e w10 ⟨rfl, hb10⟩
        have HB := Aside0.mk (HB.out.trans (hb10.mono HB.out.size))
        clear hb10
        go_wp2_with fail
        exact ⟨⟨k + 1, by push_cast; rfl, by omega, HB.out⟩, by simp [idx]; omega⟩
    · have hi0 : decide ((k : Int) < 4) = false := by simp; omega
      go_wp2_with fail
      go_ret
      exact ⟨rfl, HB.out⟩
end Go.Proofs.YtmjnodjjnjckiaaDoor

/- LinesBytes, walked. -/
import Derived.Test.YtmjnodjjnjckiaaDoorKK
namespace Go.Proofs.YtmjnodjjnjckiaaDoor
open Go.RowKit Go.Shelf Go.Proofs.YtmjnodjjnjckiaaDoorW.PrintWords PLines

theorem byte_string (k : Nat) (w : World) : ∃ sb : ByteArray, sb.size ≤ 1 ∧ (convert 48 9 (.slice (some ⟨w.heap.size, 0, none⟩) 1 1)).run Tryd.prog (w.alloc (.cells #[.int .u8 (k : Int)] 5)) = .ok (.string sb) (w.alloc (.cells #[.int .u8 (k : Int)] 5)) := by
  refine ⟨strOfNums [(k : Int)], Nat.le_refl _, string_of_reads (e := 5) Tryd.underlying48 Tryd.underlying5 Tryd.underlying9 ⟨rfl, by decide, fun _ => ⟨_, rfl, fun j hj => ?_⟩⟩⟩
  obtain rfl : j = 0 := by omega
  exact blk_cell (World.alloc_heap_new w _) 0
/-- A row of texts. -/
def Texts (w : World) (b n : Nat) : Prop := ∀ j, j < n → ∃ x : ByteArray, w.cell? ⟨b, j, none⟩ = some (.string x)
theorem Texts.below {w w' : World} {b n : Nat} (h : Texts w b n) (hb : Below w.heap.size w w') : Texts w' b n := fun j hj => by
  obtain ⟨x, hx⟩ := h j hj
  exact ⟨x, (hb.cell (p := ⟨b, j, none⟩) (World.block_lt_of_cell? w _ hx)).trans hx⟩
def byY (sb : ByteArray) : S41 := ⟨⟨#[]⟩, [⟨⟨#[97]⟩ ++ sb, []⟩, ⟨⟨#[]⟩, [⟨sb ++ ⟨#[98]⟩, []⟩]⟩]⟩
theorem bytes_wt (sb : ByteArray) (h : sb.size ≤ 1) : wtL [⟨sb, []⟩, byY sb] ≤ 1000000000000 := by
  unfold byY
  have h0 : (⟨#[]⟩ : ByteArray).size = 0 := rfl
  have h1 : (⟨#[97]⟩ : ByteArray).size = 1 := rfl
  have h2 : (⟨#[98]⟩ : ByteArray).size = 1 := rfl
  simp only [wtL, wtT, ByteArray.size_append, h0, h1, h2]
  omega
/-- LinesWrite answers yes, in all later worlds. -/
def WriteOk (W : World) : Prop := ∀ (A : Option Addr) (c : Nat) (l : List S41) (w : World), Below W.heap.size W w → Kd.C k41 w A l.length l → l.length ≤ c → wtL l ≤ 1000000000000 → Calls Tryd.prog 4 #[.slice A l.length c] w fun e w' => e = .returned (.bool true) ∧ Below w.heap.size w w'
theorem WriteOk.two {W w : World} (h : WriteOk W) (x y : S41) {A1 A2 : Option Addr} {c1 c2 : Nat} (hb : Below W.heap.size W w) (hc1 : x.f1.length ≤ c1) (hC1 : Kd.C k41 w A1 x.f1.length x.f1) (hc2 : y.f1.length ≤ c2) (hC2 : Kd.C k41 w A2 y.f1.length y.f1) (hw : wtL [x, y] ≤ 1000000000000) :
    Calls Tryd.prog 4 #[.slice (some ⟨w.heap.size, 0, none⟩) 2 2] (w.alloc (.cells #[.string x.f0, .slice A1 x.f1.length c1, .string y.f0, .slice A2 y.f1.length c2] 41)) fun e w' => e = .returned (.bool true) ∧ Below w.heap.size w w' := by
  refine (h (some ⟨w.heap.size, 0, none⟩) 2 [x, y] _ (hb.alloc hb.size _) (C_two (World.alloc_heap_new w _) hc1 (Kd.C_alloc hC1 _) hc2 (Kd.C_alloc hC2 _)) (Nat.le_refl _) hw).mono ?_
  rintro e w' ⟨rfl, hb'⟩
  exact ⟨rfl, ((Below.refl _ _).alloc (Nat.le_refl _) _).trans (hb'.mono (by simp))⟩
theorem WriteOk.one {W w : World} (h : WriteOk W) (x : S41) {A1 : Option Addr} {c1 : Nat} (hb : Below W.heap.size W w) (hc1 : x.f1.length ≤ c1) (hC1 : Kd.C k41 w A1 x.f1.length x.f1) (hw : wtL [x] ≤ 1000000000000) :
    Calls Tryd.prog 4 #[.slice (some ⟨w.heap.size, 0, none⟩) 1 1] (w.alloc (.cells #[.string x.f0, .slice A1 x.f1.length c1] 41)) fun e w' => e = .returned (.bool true) ∧ Below w.heap.size w w' := by
  refine (h (some ⟨w.heap.size, 0, none⟩) 1 [x] _ (hb.alloc hb.size _) (C_one (World.alloc_heap_new w _) hc1 (Kd.C_alloc hC1 _)) (Nat.le_refl _) hw).mono ?_
  rintro e w' ⟨rfl, hb'⟩
  exact ⟨rfl, ((Below.refl _ _).alloc (Nat.le_refl _) _).trans (hb'.mono (by simp))⟩
/-- The four signs. -/
def Signs (w : World) (b : Nat) : Prop := ∀ j, j < 4 → ∃ x : ByteArray, w.cell? ⟨b, j, none⟩ = some (.string x) ∧ x.size ≤ 4
theorem Signs.below {w w' : World} {b : Nat} (h : Signs w b) (hb : Below w.heap.size w w') : Signs w' b := fun j hj => by
  obtain ⟨x, hx, hs⟩ := h j hj
  exact ⟨x, (hb.cell (p := ⟨b, j, none⟩) (World.block_lt_of_cell? w _ hx)).trans hx, hs⟩
theorem repeat_one (b : UInt8) (k : Nat) (hk : k ≤ 1000) : ∃ s : ByteArray, s.size ≤ 1000 ∧ ∀ w, Calls Tryd.prog 23 #[.string ⟨#[b]⟩, .int .i64 (k : Int)] w fun e w' => e = .returned (.string s) ∧ Below w.heap.size w w' :=
  ⟨⟨(Lib.repeatL [b] k).toArray⟩, by show (Lib.repeatL [b] k).length ≤ 1000; rw [Lib.repeatL_length]; simp; omega, fun w => Tryd.strings_Repeat ⟨#[b]⟩ k w (by omega) (by show 1 * k ≤ _; omega)⟩
theorem nested_any (k : Nat) (h1 : 1 ≤ k) (h2 : k ≤ 1000) (A : Option Addr) (c : Nat) (l : List S41) (w : World) (hC : Kd.C k41 w A l.length l) (hc : l.length ≤ c) :
    Calls Tryd.prog 24 #[.int .i64 (k : Int), .slice A l.length c] w fun e w' => ∃ L A' c', e = .returned (.agg #[.string ⟨#[]⟩, .slice A' L.length c']) ∧ wtL L ≤ wtL l + 10000 ∧ L.length ≤ c' ∧ Kd.C k41 w' A' L.length L ∧ Below w.heap.size w w' := by
  refine (nested_calls (k : Int) (by omega) (by omega) A c l w hC hc).mono ?_
  rintro e w' ⟨A', c', rfl, h3, h4, h5⟩
  exact ⟨_, A', c', rfl, Nat.le_trans (nest_wt l _) (by omega), h3, h4, h5⟩
theorem nest_wt1 {L l : List S41} (h : wtL L ≤ wtL l + 10000) (hl : wtL l ≤ 100 := by decide) : wtL [⟨⟨#[]⟩, L⟩] ≤ 1000000000000 := by
  have h0 : (⟨#[]⟩ : ByteArray).size = 0 := rfl
  simp only [wtL, wtT, h0]
  omega
theorem nest_wt2 {L l : List S41} {b : UInt8} (h : wtL L ≤ wtL l + 10000) (hl : wtL l ≤ 100 := by decide) : wtL [⟨⟨#[]⟩, L⟩, ⟨⟨#[b]⟩, []⟩] ≤ 1000000000000 := by
  have h0 : (⟨#[]⟩ : ByteArray).size = 0 := rfl
  have h1 : (⟨#[b]⟩ : ByteArray).size = 1 := rfl
  simp only [wtL, wtT, h0, h1]
  omega
theorem ends_wt1 : wtL [⟨⟨#[97]⟩, [⟨⟨#[98]⟩, []⟩]⟩] ≤ 1000000000000 := by
  have h1 : ∀ b : UInt8, (⟨#[b]⟩ : ByteArray).size = 1 := fun _ => rfl
  simp only [wtL, wtT, h1]
  omega
theorem ends_wt2 : wtL [⟨⟨#[]⟩, [⟨⟨#[]⟩, []⟩]⟩, ⟨⟨#[]⟩, []⟩] ≤ 1000000000000 := by
  have h0 : (⟨#[]⟩ : ByteArray).size = 0 := rfl
  simp only [wtL, wtT, h0]
  omega
theorem WriteOk.in_one {W w : World} (h : WriteOk W) (hb : Below W.heap.size W w) :
    Calls Tryd.prog 4 #[.slice (some ⟨w.heap.size + 1, 0, none⟩) 1 1] ((w.alloc (.cells #[.string ⟨#[98]⟩, .slice none 0 0] 41)).alloc (.cells #[.string ⟨#[97]⟩, .slice (some ⟨w.heap.size, 0, none⟩) 1 1] 41)) fun e w' => e = .returned (.bool true) ∧ Below w.heap.size w w' := by
  have h1 := h.one ⟨⟨#[97]⟩, [⟨⟨#[98]⟩, []⟩]⟩ (A1 := some ⟨w.heap.size, 0, none⟩) (c1 := 1) (hb.alloc hb.size (.cells #[.string ⟨#[98]⟩, .slice none 0 0] 41)) (Nat.le_refl _) (C_one (World.alloc_heap_new w _) (Nat.le_refl _) (C_none _)) ends_wt1
  rw [show (w.alloc (.cells #[.string ⟨#[98]⟩, .slice none 0 0] 41)).heap.size = w.heap.size + 1 from by simp] at h1
  refine h1.mono ?_
  rintro e w' ⟨rfl, hb'⟩
  exact ⟨rfl, ((Below.refl _ _).alloc (Nat.le_refl _) _).trans (hb'.mono (by omega))⟩
set_option maxHeartbeats 1000000 in
set_option maxRecDepth 100000 in
theorem law_bytes (m : Int) (W : World) (h0 : 0 < W.heap.size) (hm : W.cell? ⟨0, 0, none⟩ = some (.int .i64 m)) :
    Calls Tryd.prog 7 #[] W fun e W' => e = .returned (.bool true) ∧ Below W.heap.size W W' := by
  have H0 := Aside0.mk h0
  have HM := Aside0.mk hm
  have HREAD : Aside0 (∀ (s : ByteArray) (w : World), Below W.heap.size W w → Calls Tryd.prog 3 #[.string s] w fun e w' => e = .returned (.bool true) ∧ Below w.heap.size w w') := ⟨fun s w hb => law_read s m w (Nat.lt_of_lt_of_le h0 hb.size) ((hb.cell (p := ⟨0, 0, none⟩) h0).trans hm)⟩
  have HWRITE : Aside0 (WriteOk W) := ⟨fun A c l w hb hC hc hw => law_write A c l m w hC hc hw (Nat.lt_of_lt_of_le h0 hb.size) ((hb.cell (p := ⟨0, 0, none⟩) h0).trans hm)⟩
  clear h0 hm
  go_enter Tryd.func7, Tryd.ntmps7
  go_wp2_with fail
  go_loopw [1] (fun c wr => ∃ k : Nat, c = .int .i64 k ∧ k ≤ 256 ∧ Below W.heap.size W wr) (fun c _ => 256 - idx c)
  case atStart => exact ⟨0, rfl, by omega, Below.refl _ _⟩
  case round =>
    obtain ⟨k, rfl, hk, hb⟩ := hrel
    have HB := Aside0.mk hb
    clear hb
    by_cases hk4 : k < 256
    · have hi0 : decide ((k : Int) < 256) = true := by simp; omega
      obtain ⟨sb, hsz, hcv⟩ := byte_string k wr
      go_wp2_with fail
      clear hcv
      obtain ⟨wo, hwo⟩ : ∃ wo, wr = wo := ⟨_, rfl⟩
      rw [hwo] at HB ⊢
      clear hwo
      go_loopw [4] (fun v w2 => ∃ i : Nat, v = .int .i64 i ∧ i ≤ 8 ∧ Texts w2 (wo.heap.size + 1) 8 ∧ Below W.heap.size W w2) (fun v _ => 8 - idx v)
      case atStart =>
        refine ⟨0, rfl, by omega, fun j hj => ?_, (HB.out.alloc HB.out.size _).alloc (Nat.le_trans HB.out.size (by simp)) _⟩
        rw [blk_cell (chD _ _) j]
        rcases j with _ | _ | _ | _ | _ | _ | _ | _ | j
        all_goals first
          | exact ⟨_, rfl⟩
          | omega
      case round =>
        obtain ⟨i, rfl, hi, htx, hb2⟩ := hrel
        have HB2 := Aside0.mk hb2
        have HTX := Aside0.mk htx
        clear hb2 htx
        by_cases hi8 : i < 8
        · have hi1 : decide ((i : Int) < 8) = true := by simp; omega
          obtain ⟨x, hx0⟩ := HTX.out i hi8
          obtain ⟨ii, hii⟩ : ∃ ii : Int, (i : Int) = ii := ⟨_, rfl⟩
          have hx : wr.cell? ⟨wo.heap.size + 1, ii.toNat, none⟩ = some (.string x) := by rw [← hii]; exact hx0
          rw [hii] at hi1 ⊢
          have p1 : (0 ≤ ii) = True := eq_true (by omega)
          have p2 : (ii < 8) = True := eq_true (by omega)
          have HII := Aside0.mk hi8
          have HIJ := Aside0.mk hii
          clear hii hx0 hi8 hi
          go_wp2_with fail
          refine (HREAD.out _ _ HB2.out).mono ?_
          rintro e w3 ⟨rfl, hb3⟩
          have H3 := Aside0.mk hb3
          clear hb3
          go_wp2_with fail
          exact ⟨⟨i + 1, by rw [← HIJ.out, wrap_i (by have := HII.out; omega)], HII.out, HTX.out.below H3.out, HB2.out.trans (H3.out.mono HB2.out.size)⟩, by rw [← HIJ.out, wrap_i (by have := HII.out; omega)]; have := HII.out; simp [idx]; try omega⟩
        · have hi1 : decide ((i : Int) < 8) = false := by simp; omega
          have HSB := Aside0.mk hsz
          clear HTX hi
          go_wp2_with fail
          refine (word_calls _ _).mono ?_
          rintro e w3 ⟨rfl, hb3⟩
          have HB3 := Aside0.mk (HB2.out.trans (hb3.mono HB2.out.size))
          clear hb3 HB2
          go_wp2_with fail
          refine (word_calls _ _).mono ?_
          rintro e w4 ⟨rfl, hb4⟩
          have HB4 := Aside0.mk (HB3.out.trans (hb4.mono HB3.out.size))
          clear hb4 HB3
          go_wp2_with fail
          refine (word_calls _ _).mono ?_
          rintro e w5 ⟨rfl, hb5⟩
          have HB5 := Aside0.mk (HB4.out.trans (hb5.mono HB4.out.size))
          clear hb5 HB4
          go_wp2_with fail
          refine (list_calls _ _ _ _).mono ?_
          rintro e w6 ⟨rfl, hb6⟩
          have HB6 := Aside0.mk ((HB5.out.alloc HB5.out.size _).trans (hb6.mono (Nat.le_trans HB5.out.size (by simp))))
          have HC6 := Aside0.mk (Kd.C_below (C_one (x := ⟨sb ++ ⟨#[98]⟩, []⟩) (World.alloc_heap_new w5 _) (Nat.le_refl _) (C_none _)) hb6)
          clear hb6 HB5
          go_wp2_with fail
          refine (list_calls _ _ _ _).mono ?_
          rintro e w7 ⟨rfl, hb7⟩
          have HB7 := Aside0.mk ((HB6.out.alloc HB6.out.size _).trans (hb7.mono (Nat.le_trans HB6.out.size (by simp))))
          have HC7 : Aside0 (Kd.C k41 w7 (some ⟨w6.heap.size, 0, none⟩) (byY sb).f1.length (byY sb).f1) := ⟨Kd.C_below (C_two (x := ⟨⟨#[97]⟩ ++ sb, []⟩) (y := ⟨⟨#[]⟩, [⟨sb ++ ⟨#[98]⟩, []⟩]⟩) (World.alloc_heap_new w6 _) (Nat.le_refl _) (C_none _) (Nat.le_refl _) (Kd.C_alloc HC6.out _)) hb7⟩
          clear hb7 HB6 HC6
          go_wp2_with fail
          refine (HWRITE.out.two ⟨sb, []⟩ (byY sb) (A1 := none) (c1 := 0) (A2 := some ⟨w6.heap.size, 0, none⟩) (c2 := 2) HB7.out (Nat.le_refl _) (C_none _) (Nat.le_refl _) HC7.out (bytes_wt sb HSB.out)).mono ?_
          rintro e w8 ⟨rfl, hb8⟩
          have HB8 := Aside0.mk (HB7.out.trans (hb8.mono HB7.out.size))
          clear hb8 HB7 HC7
          go_wp2_with fail
          exact ⟨⟨k + 1, by push_cast; rfl, by omega, HB8.out⟩, by simp [idx]; omega⟩
    · have hi0 : decide ((k : Int) < 256) = false := by simp; omega
      go_wp2_with fail
      clear hi0 hk hk4
      obtain ⟨wo, hwo⟩ : ∃ wo, wr = wo := ⟨_, rfl⟩
      rw [hwo] at HB ⊢
      clear hwo
      go_loopw [6] (fun v w2 => ∃ k : Nat, v = .int .i64 k ∧ k ≤ 1024 ∧ Signs w2 wo.heap.size ∧ Below W.heap.size W w2) (fun v _ => 1024 - idx v)
      case atStart =>
        refine ⟨0, rfl, by omega, fun j hj => ?_, HB.out.alloc HB.out.size _⟩
        rw [blk_cell (World.alloc_heap_new wo _) j]
        rcases j with _ | _ | _ | _ | j
        all_goals first
          | exact ⟨_, rfl, by decide⟩
          | omega
      case round =>
        obtain ⟨k, rfl, hk, hsg, hb2⟩ := hrel
        have HB2 := Aside0.mk hb2
        have HSG := Aside0.mk hsg
        clear hb2 hsg
        by_cases hk4 : k < 1024
        · have hi0 : decide ((k : Int) < 1024) = true := by simp; omega
          go_wp2_with fail
          go_loop [7, 8] (fun v7 v8 => ∃ (tx : ByteArray) (kk : Int), v7 = .string tx ∧ v8 = .int .i64 kk ∧ 0 ≤ kk ∧ kk ≤ 1023 ∧ (tx.size : Int) ≤ 4 * (1023 - kk)) (fun _ v8 => (intOf v8).toNat)
          case atStart => exact ⟨⟨#[]⟩, k, rfl, rfl, by omega, by omega, by show ((0 : Nat) : Int) ≤ _; omega⟩
          case round =>
            obtain ⟨tx, kk, rfl, rfl, hk0, hk1, htx⟩ := hrel
            by_cases hpos : 0 < kk
            · have hd : decide (0 < kk) = true := by simp; omega
              obtain ⟨x, hx, hxs⟩ := HSG.out (kk % 4).toNat (by omega)
              have p1 : 0 ≤ kk % 4 := by omega
              have p2 : kk % 4 < 4 := by omega
              go_wp2_with fail
              exact ⟨⟨tx ++ x, kk / 4, rfl, rfl, by omega, by omega, by rw [ByteArray.size_append]; push_cast; omega⟩, by simp [intOf]; omega⟩
            · have hd : decide (0 < kk) = false := by simp; omega
              go_wp2_with fail
              refine (HREAD.out _ _ HB2.out).mono ?_
              rintro e w3 ⟨rfl, hb3⟩
              have H3 := Aside0.mk hb3
              clear hb3
              go_wp2_with fail
              exact ⟨⟨k + 1, by push_cast; rfl, by omega, HSG.out.below H3.out, HB2.out.trans (H3.out.mono HB2.out.size)⟩, by simp [idx]; omega⟩
        · have hi0 : decide ((k : Int) < 1024) = false := by simp; omega
          go_wp2_with fail
          clear hi0 hk hk4
          have HB := Aside0.mk HB2.out
          clear HB2 HSG
          obtain ⟨wp, hwp⟩ : ∃ wp, wr = wp := ⟨_, rfl⟩
          rw [hwp] at HB ⊢
          clear hwp
          go_loopw [9] (fun v w2 => ∃ k : Nat, v = .int .i64 k ∧ 398 ≤ k ∧ k ≤ 403 ∧ Below W.heap.size W w2) (fun v _ => 403 - idx v)
          case atStart => exact ⟨398, rfl, by omega, by omega, HB.out⟩
          case round =>
            obtain ⟨k, rfl, hk0, hk, hb2⟩ := hrel
            have HB := Aside0.mk hb2
            clear hb2
            by_cases hk4 : k < 403
            · have hi0 : decide ((k : Int) < 403) = true := by simp; omega
              have HK := Aside0.mk hk4
              have HK0 := Aside0.mk hk0
              obtain ⟨op, hops, hop⟩ := repeat_one 40 k (by omega)
              obtain ⟨sh, hshs, hsh⟩ := repeat_one 41 k (by omega)
              have HOP := Aside0.mk hop
              have HSH := Aside0.mk hsh
              clear hop hsh hk hk4
              go_wp2_with fail
              refine (HOP.out _).mono ?_
              rintro e w3 ⟨rfl, hb3⟩
              have HB := Aside0.mk (HB.out.trans (hb3.mono HB.out.size))
              clear hb3 HOP
              go_wp2_with fail
              refine (HSH.out _).mono ?_
              rintro e w3 ⟨rfl, hb3⟩
              have HB := Aside0.mk (HB.out.trans (hb3.mono HB.out.size))
              clear hb3 HSH
              go_wp2_with fail
              refine (HREAD.out _ _ HB.out).mono ?_
              rintro e w3 ⟨rfl, hb3⟩
              have HB := Aside0.mk (HB.out.trans (hb3.mono HB.out.size))
              clear hb3
              go_wp2_with fail
              refine (HREAD.out _ _ HB.out).mono ?_
              rintro e w3 ⟨rfl, hb3⟩
              have HB := Aside0.mk (HB.out.trans (hb3.mono HB.out.size))
              clear hb3
              go_wp2_with fail
              refine (HREAD.out _ _ HB.out).mono ?_
              rintro e w3 ⟨rfl, hb3⟩
              have HB := Aside0.mk (HB.out.trans (hb3.mono HB.out.size))
              clear hb3
              go_wp2_with fail
              refine (HREAD.out _ _ HB.out).mono ?_
              rintro e w3 ⟨rfl, hb3⟩
              have HB := Aside0.mk (HB.out.trans (hb3.mono HB.out.size))
              clear hb3
              go_wp2_with fail
              refine (nested_any k (by have := HK0.out; omega) (by have := HK.out; omega) none 0 [] _ (C_none _) (Nat.le_refl _)).mono ?_
              rintro e w4 ⟨L, A1, c1, rfl, hwt, hlen, hC, hb3⟩
              have HB := Aside0.mk (HB.out.trans (hb3.mono HB.out.size))
              have HC := Aside0.mk hC
              have HL := Aside0.mk hlen
              have HWT := Aside0.mk hwt
              clear hb3 hC hlen hwt
              go_wp2_with fail
              refine (HWRITE.out.one ⟨⟨#[]⟩, L⟩ HB.out HL.out HC.out (nest_wt1 HWT.out)).mono ?_
              rintro e w5 ⟨rfl, hb3⟩
              have HB := Aside0.mk (HB.out.trans (hb3.mono HB.out.size))
              clear hb3 HC HL HWT
              go_wp2_with fail
              refine (word_calls _ _).mono ?_
              rintro e w6 ⟨rfl, hb3⟩
              have HB := Aside0.mk (HB.out.trans (hb3.mono HB.out.size))
              clear hb3
              go_wp2_with fail
              refine (nested_any k (by have := HK0.out; omega) (by have := HK.out; omega) (some ⟨w6.heap.size, 0, none⟩) 1 [⟨⟨#[97]⟩, []⟩] _ (C_one (World.alloc_heap_new w6 _) (Nat.le_refl _) (C_none _)) (Nat.le_refl _)).mono ?_
              rintro e w7 ⟨L2, A2, c2, rfl, hwt, hlen, hC, hb3⟩
              have HB := Aside0.mk ((HB.out.alloc HB.out.size _).trans (hb3.mono (Nat.le_trans HB.out.size (by simp))))
              have HC := Aside0.mk hC
              have HL := Aside0.mk hlen
              have HWT := Aside0.mk hwt
              clear hb3 hC hlen hwt
              go_wp2_with fail
              refine (word_calls _ _).mono ?_
              rintro e w8 ⟨rfl, hb3⟩
              have HB := Aside0.mk (HB.out.trans (hb3.mono HB.out.size))
              have HC := Aside0.mk (Kd.C_below HC.out hb3)
              clear hb3
              go_wp2_with fail
              refine (HWRITE.out.two ⟨⟨#[]⟩, L2⟩ ⟨⟨#[98]⟩, []⟩ (A2 := none) (c2 := 0) HB.out HL.out HC.out (Nat.le_refl _) (C_none _) (nest_wt2 HWT.out)).mono ?_
              rintro e w9 ⟨rfl, hb3⟩
              have HB := Aside0.mk (HB.out.trans (hb3.mono HB.out.size))
              clear hb3 HC HL HWT
              go_wp2_with fail
              refine (nested_any k (by have := HK0.out; omega) (by have := HK.out; omega) none 0 [] _ (C_none _) (Nat.le_refl _)).mono ?_
              rintro e w10 ⟨L3, A3, c3, rfl, hwt, hlen, hC, hb3⟩
              have HB := Aside0.mk (HB.out.trans (hb3.mono HB.out.size))
              have HC := Aside0.mk hC
              have HL := Aside0.mk hlen
              have HWT := Aside0.mk hwt
              clear hb3 hC hlen hwt
              go_wp2_with fail
              refine (word_calls _ _).mono ?_
              rintro e w11 ⟨rfl, hb3⟩
              have HB := Aside0.mk (HB.out.trans (hb3.mono HB.out.size))
              have HC := Aside0.mk (Kd.C_below HC.out hb3)
              clear hb3
              go_wp2_with fail
              refine (HWRITE.out.two ⟨⟨#[]⟩, L3⟩ ⟨⟨#[40]⟩, []⟩ (A2 := none) (c2 := 0) HB.out HL.out HC.out (Nat.le_refl _) (C_none _) (nest_wt2 HWT.out)).mono ?_
              rintro e w12 ⟨rfl, hb3⟩
              have HB := Aside0.mk (HB.out.trans (hb3.mono HB.out.size))
              clear hb3 HC HL HWT
              go_wp2_with fail
              exact ⟨⟨k + 1, by rw [wrap_i (by have := HK.out; omega)], by have := HK0.out; omega, HK.out, HB.out⟩, by rw [wrap_i (by have := HK.out; omega)]; have := HK.out; simp [idx]; omega⟩
            · have hi0 : decide ((k : Int) < 403) = false := by simp; omega
              go_wp2_with fail
              refine (long_calls m _ (Nat.lt_of_lt_of_le H0.out HB.out.size) ((HB.out.cell (p := ⟨0, 0, none⟩) H0.out).trans HM.out)).mono ?_
              rintro e w3 ⟨rfl, hb3⟩
              have HB := Aside0.mk (HB.out.trans (hb3.mono HB.out.size))
              clear hb3
              go_wp2_with fail
              refine (HWRITE.out none 0 [] _ HB.out (C_none _) (Nat.le_refl _) (by decide)).mono ?_
              rintro e w4 ⟨rfl, hb3⟩
              have HB := Aside0.mk (HB.out.trans (hb3.mono HB.out.size))
              clear hb3
              go_wp2_with fail
              refine (word_calls _ _).mono ?_
              rintro e w5 ⟨rfl, hb3⟩
              have HB := Aside0.mk (HB.out.trans (hb3.mono HB.out.size))
              clear hb3
              go_wp2_with fail
              refine (HWRITE.out.in_one HB.out).mono ?_
              rintro e w6 ⟨rfl, hb3⟩
              have HB := Aside0.mk (HB.out.trans (hb3.mono HB.out.size))
              clear hb3
              go_wp2_with fail
              refine (word_calls _ _).mono ?_
              rintro e w7 ⟨rfl, hb3⟩
              have HB := Aside0.mk (HB.out.trans (hb3.mono HB.out.size))
              clear hb3
              go_wp2_with fail
              refine (list_calls _ _ _ _).mono ?_
              rintro e w8 ⟨rfl, hb3⟩
              have HB := Aside0.mk ((HB.out.alloc HB.out.size _).trans (hb3.mono (Nat.le_trans HB.out.size (by simp))))
              have HC := Aside0.mk (Kd.C_below (C_one (x := ⟨⟨#[]⟩, []⟩) (World.alloc_heap_new w7 _) (Nat.le_refl _) (C_none _)) hb3)
              clear hb3
              go_wp2_with fail
              refine (list_calls _ _ _ _).mono ?_
              rintro e w9 ⟨rfl, hb3⟩
              have HB := Aside0.mk (HB.out.trans (hb3.mono HB.out.size))
              have HC := Aside0.mk (Kd.C_below HC.out hb3)
              clear hb3
              go_wp2_with fail
              refine (HWRITE.out.two ⟨⟨#[]⟩, [⟨⟨#[]⟩, []⟩]⟩ ⟨⟨#[]⟩, []⟩ (A1 := some ⟨w7.heap.size, 0, none⟩) (c1 := 1) (A2 := none) (c2 := 0) HB.out (Nat.le_refl _) HC.out (Nat.le_refl _) (C_none _) ends_wt2).mono ?_
              rintro e w10 ⟨rfl, hb3⟩
              have HB := Aside0.mk (HB.out.trans (hb3.mono HB.out.size))
              clear hb3 HC
              go_wp2_with fail
              refine (awake_calls m _ (Nat.lt_of_lt_of_le H0.out HB.out.size) ((HB.out.cell (p := ⟨0, 0, none⟩) H0.out).trans HM.out)).mono ?_
              rintro e w11 ⟨rfl, hb3⟩
              have HB := Aside0.mk (HB.out.trans (hb3.mono HB.out.size))
              clear hb3
              go_wp2_with fail
              go_ret
              exact ⟨rfl, HB.out⟩
end Go.Proofs.YtmjnodjjnjckiaaDoor

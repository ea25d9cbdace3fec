/- The small contracts of package lines: must, ends, the library's TrimLeft, IndexFunc, ContainsFunc at the predicate ends. -/
import Derived.Test.YtmjnodjjnjckiaaDoorWMore
import Derived.Test.YtmjnodjjnjckiaaDoorPLinesx0
import Derived.Test.YtmjnodjjnjckiaaDoorShelf
import Derived.Test.YtmjnodjjnjckiaaDoorS
import Derived.WalkLawsBesides
namespace Go.Proofs.YtmjnodjjnjckiaaDoor
open Go.RowKit Go.Shelf
theorem must_ok (e : Int) (w : World) : Calls Tryd.prog 28 #[.bool true, .int .i64 e] w fun r w' => r = .returned (.tuple #[]) ∧ w = w' := by
  go_enter Tryd.func28, Tryd.ntmps28
  go_wp2
  go_end0
  exact ⟨rfl, rfl⟩
/-- What must throws. -/
def thrown (e : Int) : List PanicEntry := [{ v := .iface 24 (.int .i64 e), recovered := false }]
theorem must_no (e : Int) (w : World) : Calls Tryd.prog 28 #[.bool false, .int .i64 e] w fun r w' => r = .panicked (thrown e) ∧ w = w' := by
  go_enter Tryd.func28, Tryd.ntmps28
  go_wp2
  exact ⟨rfl, rfl, rfl⟩
theorem ends_pred (w : World) : PredAt Tryd.prog 51 #[] encR endR w := by
  intro W x _
  unfold FnGives encR
  by_cases h9 : x = 9
  · subst h9; go_enter Tryd.func51, Tryd.ntmps51; go_wp2; go_ret; exact ⟨rfl, 0, rfl⟩
  by_cases h10 : x = 10
  · subst h10; go_enter Tryd.func51, Tryd.ntmps51; go_wp2; go_ret; exact ⟨rfl, 0, rfl⟩
  by_cases h13 : x = 13
  · subst h13; go_enter Tryd.func51, Tryd.ntmps51; go_wp2; go_ret; exact ⟨rfl, 0, rfl⟩
  by_cases h32 : x = 32
  · subst h32; go_enter Tryd.func51, Tryd.ntmps51; go_wp2; go_ret; exact ⟨rfl, 0, rfl⟩
  by_cases h40 : x = 40
  · subst h40; go_enter Tryd.func51, Tryd.ntmps51; go_wp2; go_ret; exact ⟨rfl, 0, rfl⟩
  by_cases h41 : x = 41
  · subst h41; go_enter Tryd.func51, Tryd.ntmps51; go_wp2; go_ret; exact ⟨rfl, 0, rfl⟩
  by_cases h59 : x = 59
  · subst h59; go_enter Tryd.func51, Tryd.ntmps51; go_wp2; go_ret; exact ⟨rfl, 0, rfl⟩
  have hr : endR x = false := by simp [endR, h9, h10, h13, h32, h40, h41, h59]
  rw [hr]
  have b9 : ((x : Int) == 9) = false := beq_eq_false_iff_ne.2 (by omega)
  have b10 : ((x : Int) == 10) = false := beq_eq_false_iff_ne.2 (by omega)
  have b13 : ((x : Int) == 13) = false := beq_eq_false_iff_ne.2 (by omega)
  have b32 : ((x : Int) == 32) = false := beq_eq_false_iff_ne.2 (by omega)
  have b40 : ((x : Int) == 40) = false := beq_eq_false_iff_ne.2 (by omega)
  have b41 : ((x : Int) == 41) = false := beq_eq_false_iff_ne.2 (by omega)
  have b59 : ((x : Int) == 59) = false := beq_eq_false_iff_ne.2 (by omega)
  clear hr h9 h10 h13 h32 h40 h41 h59
  go_enter Tryd.func51, Tryd.ntmps51
  go_wp2
  go_ret
  exact ⟨rfl, 0, rfl⟩
theorem ends_enters : ∀ args w, (callFunc 51 args).run Tryd.prog w = .ok (.enter 51 args) w := enters_of Tryd.func51 (by kernel_rfl) rfl
/-- Where the first byte that ends a word stands; -1. -/
theorem index_ends (s : ByteArray) (w : World) :
    Calls Tryd.prog 50 #[.string s, .func (.func 51) #[] #[]] w fun e w' => e = .returned (.int .i64 (Lib.idxFunc endR true s)) ∧ Below w.heap.size w w' :=
  Tryd.strings_IndexFunc 51 #[] ends_enters endR s w (ends_pred w)
theorem contains_ends (s : ByteArray) (w : World) :
    Calls Tryd.prog 57 #[.string s, .func (.func 51) #[] #[]] w fun e w' => e = .returned (.bool (decide (0 ≤ Lib.idxFunc endR true s))) ∧ Below w.heap.size w w' :=
  Tryd.strings_ContainsFunc 51 #[] ends_enters endR s w (ends_pred w)
theorem trim_blanks (s : ByteArray) (w : World) :
    Calls Tryd.prog 49 #[.string s, .string ⟨#[9, 10, 13, 32]⟩] w fun e w' => e = .returned (.string ⟨(Lib.trimLeftS s.data.toList [9, 10, 13, 32]).toArray⟩) ∧ Below w.heap.size w w' :=
  Any.strings_TrimLeft_laid Tryd.lays161 (by kernel_rfl) s ⟨#[9, 10, 13, 32]⟩ w (by decide) (ascii_of_all (by decide))
theorem cut_line (s : ByteArray) (m : Int) (w : World) (hs : s.size < 4294967281) (hm : w.cell? ⟨0, 0, none⟩ = some (.int .i64 m)) :
    Calls Tryd.prog 52 #[.string s, .string ⟨#[10]⟩] w fun e w' => e = .returned (.tuple #[.string ⟨(Lib.cut s.data.toList [10]).1.toArray⟩, .string ⟨(Lib.cut s.data.toList [10]).2.1.toArray⟩, .bool (Lib.cut s.data.toList [10]).2.2]) ∧ ∃ n, w' = w.drewN n :=
  Tryd.strings_Cut s ⟨#[10]⟩ m w hs hm
end Go.Proofs.YtmjnodjjnjckiaaDoor

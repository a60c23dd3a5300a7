/-
  What lies in memory: facts, atoms, literals and rules. Small contracts.
-/
import Derived.Test.YtoljknamnkkgcaaSb
import Derived.Test.YtoljknamnkkgcaaVw
import Derived.Test.YtoljknamnkkgcaaVv
import Derived.Shelf.Small.Bits
namespace Go.Proofs.Ytoljknamnkkgcaa
open Go Go.VC
set_option maxHeartbeats 1000000
set_option maxRecDepth 100000

abbrev Bl (s : Sl) (b : Nat) : Prop := ∃ a, s.a = some a ∧ a.block = b
/-- A fact or an atom as it lies in memory, with what its slice reads as. -/
structure DF where
  rel : Int
  sl : Sl
  args : List Int
instance : Inhabited DF := ⟨⟨0, ⟨none, 0, 0⟩, []⟩⟩
/-- A fact or an atom. -/
structure Fa where
  rel : Int
  args : List Int
deriving DecidableEq
instance : Inhabited Fa := ⟨⟨0, []⟩⟩
def DF.p (x : DF) : Fa := ⟨x.rel, x.args⟩
def eF (x : DF) : List Value := [.int .i64 x.rel, .slice x.sl.a x.sl.n x.sl.c]
theorem eF_len (x : DF) : (eF x).length = 2 := rfl
theorem eF_one (x : DF) : ∀ v ∈ eF x, v.oneCell' = true := by intro v hv; simp [eF] at hv; rcases hv with rfl | rfl <;> rfl
def ren129 : Go.Shelf.Ren := ⟨fun | 129 => 139 | n => n, fun | 53 => 206 | 3 => 3 | 4 => 4 | 46 => 47 | 5 => 5 | 9 => 9 | n => n, fun | n => n⟩
theorem lays129 : Go.Proofs.Lays.n129 Try.prog ren129 where
  mixed := by kernel_rfl
  f129 := Try.func139.trans (congrArg some (by kernel_rfl))
  t3 := Try.underlying3
  a3 := Try.isAgg3
  z3 := Try.sizeOf3
  v3 := Try.zeroValue3
  t4 := Try.underlying4
  a4 := Try.isAgg4
  z4 := Try.sizeOf4
  v4 := Try.zeroValue4
  t5 := Try.underlying5
  a5 := Try.isAgg5
  z5 := Try.sizeOf5
  v5 := Try.zeroValue5
  t9 := Try.underlying9
  a9 := Try.isAgg9
  z9 := Try.sizeOf9
  v9 := Try.zeroValue9
  t46 := Try.underlying47
  a46 := Try.isAgg47
  z46 := Try.sizeOf47
  v46 := Try.zeroValue47
  t53 := Try.underlying206
  a53 := Try.isAgg206
  z53 := Try.sizeOf206
  v53 := Try.zeroValue206
end Go.Proofs.Ytoljknamnkkgcaa

/-
  The chapter's example, reckoned.
-/
import Derived.Test.YtmoccpbiogdbgaaSpec6
import Derived.KernelRfl
namespace Go.Proofs.Ytmoccpbiogdbgaa
open Go.RowKit
def bA : ByteArray := ⟨#[97]⟩
def bB : ByteArray := ⟨#[98]⟩
def bC : ByteArray := ⟨#[99]⟩
def bP : ByteArray := ⟨#[80]⟩
def bG : ByteArray := ⟨#[71]⟩
def bR : ByteArray := ⟨#[82]⟩
def rtW : Rt := ⟨bR, 0, [1, 2], [⟨0, false⟩], [], []⟩
def lyW : Ly := ⟨[bA, bB, bC], [⟨bP, 1⟩], [⟨bG, 0⟩], [rtW]⟩
theorem mayW : mayB lyW = true := by kernel_rfl
theorem ck1 : cycleP lyW ⟨0, 1, 0, 1, 0⟩ = 0 := by kernel_rfl
theorem ck2 : cycleP lyW ⟨4, 1, 0, 1, 0⟩ = 4 := by kernel_rfl
theorem ck3 : cycleP lyW ⟨0, 0, 0, 1, 0⟩ = 5 := by kernel_rfl
theorem ck4 : cycleP lyW ⟨0, 1, 0, 1, 1⟩ = 6 := by kernel_rfl
theorem ck5 : cycleP lyW ⟨0, 1, 0, 2, 0⟩ = 2 := by kernel_rfl
end Go.Proofs.Ytmoccpbiogdbgaa

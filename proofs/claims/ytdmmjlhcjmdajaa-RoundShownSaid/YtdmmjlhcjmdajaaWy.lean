/-
  The plain functions at the example, reckoned.
  Its conditions stand in each theorem.
-/
import Derived.Test.YtdmmjlhcjmdajaaWx
import Derived.Test.YtdmmjlhcjmdajaaWv
namespace Go.Proofs.Ytdmmjlhcjmdajaa
open Go.RowKit Go.Shelf Go.Maps
set_option linter.unusedVariables false

/-- the plain functions at the example -/
theorem ex_sure : Rd.mins (Rd.reach 4 exw (Rd.his exw) 0 300) = [300, 308, 312, 332] := by decide
theorem ex_sure2 : Rd.mins (Rd.reach 4 exw (Rd.his exw) 0 316) = [316, 324, 340, 360] := by decide
theorem ex_soon : Rd.mins (Rd.reach 4 exw (Rd.los exw) 0 315) = [315, 320, 323, 325] := by decide
theorem ex_walk : Rd.mins (Rd.reach 4 exw [5, 5, 4, 10, 20] 0 315) = [315, 320, 324, 344] := by decide
def exl : List Stp := [⟨2, 300, 312, 3⟩, ⟨3, 330, 340, 0⟩]
theorem ex_begs : begs 4 exw (Rd.his exw) exl 0 300 = [312, 335] := by decide
theorem ex_isD0 : isD 4 exw exl 0 300 0 = true := by decide
theorem ex_isD : ∀ h ∈ mids, 1 < h → isD 4 exw exl 0 300 (h / 2) = false := by decide
def exless : List Rd.Wy := [⟨0, 1, 5, 8, 0, 1439, 0⟩, ⟨1, 0, 5, 8, 0, 1439, 0⟩, ⟨1, 2, 10, 10, 0, 600, 15⟩, ⟨2, 3, 2, 20, 0, 1439, 0⟩]
theorem ex_itim : itim 4 exw exl 0 300 = 1 := by decide
theorem ex_itim2 : itim 4 exless exl 0 300 ≠ 1 := by decide
theorem ex_path : cpCode exw [0, 2] 0 300 2 311 = 36 := by decide
end Go.Proofs.Ytdmmjlhcjmdajaa

/- relays(), and what the settings' functions answer on it. -/
import Derived.Test.YtplebibabcdipaaSet9
import Derived.Test.YtplebibabcdipaaFdr
import Derived.Test.YtplebibabcdipaaSmi
namespace Go.Proofs.Ytplebibabcdipaa
open Go.RowKit

def flatC (t : Int) : Pts := [(100, t), (200, t)]
def relL (c1 c2 : Nat) : List CRA := [⟨sS, sL, sB, some ⟨c1, 0, none⟩, 2, 2, flatC 600, 100, 50⟩, ⟨sT, sM, sD, some ⟨c2, 0, none⟩, 2, 2, flatC 300, 100, 50⟩]
theorem rel_clear (c1 c2 : Nat) : clearE feedN (relL c1 c2) = 0 := by kernel_rfl
theorem rel_pairs (c1 c2 : Nat) : pairsE feedN (relL c1 c2) = [(1, 0)] := by kernel_rfl
theorem rel_wrong0 (c1 c2 : Nat) : wrongE (relL c1 c2) [(1, 0)] 300 0 1000 = (0, 0, 8) := by kernel_rfl
theorem rel_wrong1 (c1 c2 : Nat) : wrongE (relL c1 c2) [(1, 0)] 301 0 1000 = (0, 100, 0) := by kernel_rfl
theorem rel_dial (c1 c2 d1 d2 : Nat) : dialE (relOf (relL c1 c2) 1) (relOf (relL d1 d2) 0) 300 0 1000 = (999, 0) := by kernel_rfl
theorem rel_coord (c1 c2 : Nat) : coordE (relL c1 c2) [(1, 0)] 150 0 1000 = ([749, 1000], 0) := by kernel_rfl
end Go.Proofs.Ytplebibabcdipaa

/- A remainder of the length's size fits an int. -/
import Derived.Test.YtpemfmlonamikaaWithin
namespace Go.Proofs.Ytpemfmlonamikaa
open Go Go.RowKit
theorem wrap_mod (cu m r : Nat) (hr : cu % (m + 1) = r) (hm : m ≤ 3000) : wrap64 ((cu : Int) % ((m : Int) + 1)) = (r : Int) := by
  have h1 := Nat.mod_lt cu (show 0 < m + 1 by omega)
  have e : ((cu : Int) % ((m : Int) + 1)) = ((cu % (m + 1) : Nat) : Int) := by simp
  rw [e, hr]
  rw [hr] at h1
  clear e hr
  unfold wrap64; omega
end Go.Proofs.Ytpemfmlonamikaa

/- Two sums that are not one: the closed facts that the law's 'live' leans on. No program is in sight here. -/
import Derived.Test.YtpdhgijeanbmcaaDoorFast
namespace Go.Proofs.YtpdhgijeanbmcaaDoor
namespace Nsha
def leaf (p : List Nat) : List Nat := sum (0 :: p)
def node (x y : List Nat) : List Nat := sum (1 :: (x ++ y))
theorem live_one : node (node (leaf [97]) (leaf [98])) (leaf [98]) ≠ node (node (leaf [97]) (leaf [98])) (leaf [99]) := by decide +kernel
theorem live_two : node (node (node (leaf [97]) (leaf [98])) (leaf [99])) (leaf [99]) ≠ node (node (leaf [97]) (leaf [98])) (leaf [99]) := by decide +kernel
end Nsha
namespace LiveP
def leaf (p : List UInt8) : List UInt8 := Sha.sum (0 :: p)
def node (x y : List UInt8) : List UInt8 := Sha.sum (1 :: (x ++ y))
theorem leaf_nat (p : List UInt8) : (leaf p).map UInt8.toNat = Nsha.leaf (p.map UInt8.toNat) := by
  rw [leaf, Nsha.sum_eq]; rfl
theorem node_nat (x y : List UInt8) : (node x y).map UInt8.toNat = Nsha.node (x.map UInt8.toNat) (y.map UInt8.toNat) := by
  rw [node, Nsha.sum_eq, List.map_cons, List.map_append]; rfl
theorem one : node (node (leaf [97]) (leaf [98])) (leaf [98]) ≠ node (node (leaf [97]) (leaf [98])) (leaf [99]) := fun h => by
  have h2 := congrArg (List.map UInt8.toNat) h
  simp only [node_nat, leaf_nat] at h2
  exact Nsha.live_one h2
theorem two : node (node (node (leaf [97]) (leaf [98])) (leaf [99])) (leaf [99]) ≠ node (node (leaf [97]) (leaf [98])) (leaf [99]) := fun h => by
  have h2 := congrArg (List.map UInt8.toNat) h
  simp only [node_nat, leaf_nat] at h2
  exact Nsha.live_two h2
end LiveP
end Go.Proofs.YtpdhgijeanbmcaaDoor

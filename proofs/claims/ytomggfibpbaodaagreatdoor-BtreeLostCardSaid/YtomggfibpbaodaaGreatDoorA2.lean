/-
  The statements' first question, reckoned: two keys are kept, the one with a long value.
-/
import Derived.Test.YtomggfibpbaodaaGreatDoorA1
set_option maxRecDepth 1000000
namespace Go.Proofs.YtomggfibpbaodaaGreatDoor
open Go.V

def wk1 : Pg × Int := (Pg.fresh (Disk.new 2000)).put [98] [49]
def wk2 : Pg × Int := wk1.1.put [97] (zs 1000)
def wk3 : Pg × Int := wk2.1.commit
def goodB (p : Pg) : Bool := let m := Meta.of (p.cview 0)
  decide (m.head = 0) && decide (m.free = 0) && decide (1 ≤ m.used) && decide (m.used ≤ p.pages) && decide (0 ≤ m.root) && decide (m.root < p.pages)
def opensB (D : Disk) : Bool := match Pg.taken D with
  | none => true
  | some p => goodB (p.settle p.R.top).1
def wkEnd (p : Pg) : Bool :=
  decide ((p.getK [97]).2.2 = 0) && (p.getK [97]).2.1 && decide ((p.getK [97]).1.length = 1000) && decide ((p.range [97] [98]).2 = 0) && decide ((p.range [97] [98]).1.length = 1) &&
  (p.del [97]).2.1 && decide ((p.del [97]).2.2 = 0) && decide ((p.del [97]).1.commit.2 = 0) && decide ((p.del [97]).1.commit.1.D.dead = false) && decide ((p.del [97]).1.commit.1.free = 1497)
def wkB : Bool := decide (wk1.2 = 0) && decide (wk2.2 = 0) && decide (wk3.2 = 0) && decide (wk3.1.D.dead = false) && decide (wk3.1.free = 1494) && opensB wk3.1.D && (match (Pg.open wk3.1.D).1 with | .error _ => false | .ok p => wkEnd p)
theorem wk_ok : wkB = true := by kernel_rfl
end Go.Proofs.YtomggfibpbaodaaGreatDoor

/- The types' tables as functions. -/
import Derived.Test.YtnceadbfgpiaaaaG22
import Derived.Test.YtnceadbfgpiaaaaK1
namespace Go.Proofs.Ytnceadbfgpiaaaa.K
open Go G
def tabTi (t : TypeId) : Option (Option Value × Nat × Nat) := G.look tab.ti t
def tabUn (t : TypeId) : Option TypeDesc := G.look tab.un t
def tabPl (t : TypeId) : Option (List (Nat × Nat)) := G.look tab.pl t
def tabF : TabF := ⟨tabTi, tabUn, tabPl⟩
theorem tabF_ok : tabF.Ok Try.prog := ⟨look_ok tab_ok.ti, look_ok tab_ok.un, look_ok tab_ok.pl⟩
end Go.Proofs.Ytnceadbfgpiaaaa.K

/- slices.Insert at items: the walks. -/
import Derived.Test.YtnceadbfgpiaaaaProg
import Derived.Test.YtnceadbfgpiaaaaG24
import Derived.Shelf.Spec.SlicesInsertGrow
import Derived.KernelRfl
namespace Go.Proofs.Ytnceadbfgpiaaaa.I
open Go Go.Shelf Go.RowKit Go.Lib
set_option linter.unusedVariables false
set_option linter.unusedSimpArgs false
set_option maxRecDepth 100000
set_option maxHeartbeats 4000000
theorem shift_calls {x1 x2 : Value} (g b n c i : Nat) (A2 : Addr) (vc : Nat) (w W1 W2 : World) (hi : i < n) (hroom : n + 1 ≤ c) (hn : n ≤ 1000000) (hc63 : c ≤ 9223372036854775807)
    (hov : ∀ lb cb, (callFunc 48 #[.slice (some A2) 1 vc, .slice (some ⟨g, b + (i + 1) * 3, none⟩) lb cb]).run Try.prog w = .ok (.value (.bool false)) w)
    (hcp1 : ∀ ty dc sc, (Builtin.copy_ #[22, 22] ty #[.slice (some ⟨g, b + (i + 1) * 3, none⟩) (n - i) dc, .slice (some ⟨g, b + i * 3, none⟩) (n + 1 - i) sc]).run Try.prog w.drew = .ok x1 W1)
    (hcp2 : ∀ ty dc, (Builtin.copy_ #[22, 22] ty #[.slice (some ⟨g, b + i * 3, none⟩) (n + 1 - i) dc, .slice (some A2) 1 vc]).run Try.prog W1 = .ok x2 W2) :
    Calls Try.prog 32 #[.slice (some ⟨g, b, none⟩) n c, .int .i64 i, .slice (some A2) 1 vc] w fun e w' => e = .returned (.slice (some ⟨g, b, none⟩) (n + 1) c) ∧ w' = W2 := by
  have hz2 : ¬ ((i : Int) = (n : Int)) := by omega
  have hz3 : ¬ ((c : Int) < (n : Int) + 1) := by omega
  have hw1 : IntKind.i64.wrap ((i : Int) + 1) = (i : Int) + 1 := by rw [IntKind.wrap_i64]; omega
  have hb1 : (0 : Int) ≤ (i : Int) + 1 := by omega
  have hin : i ≤ n := by omega
  have htn : ((i : Int) + 1).toNat = i + 1 := by omega
  have hb2 : ¬ (c = i + 1) := by omega
  have hb3 : (i : Int) ≤ (n : Int) + 1 := by omega
  have hb4 : ¬ (c = i) := by omega
  have mixed : Try.prog.follows .mixedOrders = true := by kernel_rfl
  go_enter Try.func32, Try.ntmps32
  go_wp2_with (simp only [hov])
  go_region_law_o (refine step_copy_runI rfl _ _ 22 22 rfl _ _ (by simp [Act.eval, Act.put]) (by simp [Act.eval, Act.put]) (hcp1 _ _ _) ?_)
  go_wp2_with (at_builtin; refine wpList_copy_runI _ rfl _ _ 22 22 rfl _ _ rfl rfl (hcp2 _ _) ?_)
  go_ret
  exact ⟨rfl, rfl⟩
theorem grow_calls {x1 x2 : Value} (g b n c i N G : Nat) (A2 : Addr) (vc : Nat) (w W1 W2 W3 : World) (hi : i < n) (hnc : n ≤ c) (hroom : c < n + 1) (hn : n ≤ 1000000) (hc63 : c ≤ 9223372036854775807) (hG : n + 1 ≤ G)
    (hrz : ∀ ty, (Builtin.append_ #[22, 3] ty #[.slice (some ⟨g, b, none⟩) i c, .int .i64 ((n : Int) + 1 - (i : Int))]).run Try.prog w = .ok (.slice (some ⟨N, 0, none⟩) (n + 1) G) W1)
    (hcp1 : ∀ ty dc, (Builtin.copy_ #[22, 22] ty #[.slice (some ⟨N, i * 3, none⟩) (n + 1 - i) dc, .slice (some A2) 1 vc]).run Try.prog W1 = .ok x1 W2)
    (hcp2 : ∀ ty dc sc, (Builtin.copy_ #[22, 22] ty #[.slice (some ⟨N, (i + 1) * 3, none⟩) (n - i) dc, .slice (some ⟨g, b + i * 3, none⟩) (n - i) sc]).run Try.prog W2.drew = .ok x2 W3) :
    Calls Try.prog 32 #[.slice (some ⟨g, b, none⟩) n c, .int .i64 i, .slice (some A2) 1 vc] w fun e w' => e = .returned (.slice (some ⟨N, 0, none⟩) (n + 1) G) ∧ w' = W3 := by
  have hz2 : ¬ ((i : Int) = (n : Int)) := by omega
  have hz3 : (c : Int) < (n : Int) + 1 := by omega
  have hw1 : IntKind.i64.wrap ((i : Int) + 1) = (i : Int) + 1 := by rw [IntKind.wrap_i64]; omega
  have hb1 : (0 : Int) ≤ (i : Int) + 1 := by omega
  have hin : i ≤ n := by omega
  have htn : ((i : Int) + 1).toNat = i + 1 := by omega
  have hGi : ¬ (G = i) := by omega
  have hGim : ¬ (G = i + 1) := by omega
  have hci : ¬ (c = i) := by omega
  have hb3 : (i : Int) ≤ (n : Int) := by omega
  have mixed : Try.prog.follows .mixedOrders = true := by kernel_rfl
  go_enter Try.func32, Try.ntmps32
  go_wp2_with (first
    | (at_builtin; refine Lib.wpList_append_run _ rfl _ _ _ _ rfl _ _ rfl rfl _ _ (hrz _) ?_)
    | (at_builtin; refine wpList_copy_runI _ rfl _ _ 22 22 rfl _ _ rfl rfl (hcp1 _ _) ?_))
  go_region_law_o (refine step_copy_runI rfl _ _ 22 22 rfl _ _ (by simp [Act.eval, Act.put]) (by simp [Act.eval, Act.put]) (hcp2 _ _ _) ?_)
  go_wp2
  go_ret
  exact ⟨rfl, rfl⟩
end Go.Proofs.Ytnceadbfgpiaaaa.I

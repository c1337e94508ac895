/- By hand, where evaluation stands still: states that are cut, sums in range, bytes of a string, appending. Plain theorems over any program. -/
import Derived.Test.YtnceadbfgpiaaaaG20
namespace Go.Proofs.Ytnceadbfgpiaaaa.G
set_option linter.unusedVariables false
set_option linter.unusedSimpArgs false
open Go
variable {P : Program}

theorem cut_eq {ks live : List Nat} {n : Nat} {st : St} {vals : List AV} {rows : List (Option Row)} (h1 : cutVals ks live st.s (List.range n) = vals) (h2 : cutRows ks st.T ks = rows) : cut ks live n st = stOf vals rows ks.length := by
  unfold cut
  rw [h1, h2]

theorem ar_add64 {a b : Int} (h0 : -9223372036854775808 ≤ a + b) (h1 : a + b ≤ 9223372036854775807) : arI .add .i64 a b = a + b := by
  show IntKind.i64.wrap (a + b) = a + b
  rw [IntKind.wrap_i64]
  omega
theorem ar_sub64 {a b : Int} (h0 : -9223372036854775808 ≤ a - b) (h1 : a - b ≤ 9223372036854775807) : arI .sub .i64 a b = a - b := by
  show IntKind.i64.wrap (a - b) = a - b
  rw [IntKind.wrap_i64]
  omega

theorem ix_str {t : TypeId} (ht : P.underlying t = some .string) {s : ByteArray} {k : IntKind} {i : Int} (h0 : 0 ≤ i) (h1 : i < s.size) : evP P (Instr.index t (.string s) (.int k i)) = some (.flat (.int .u8 (s.data.toList.getD i.toNat 0).toNat)) := by
  have hlt : i.toNat < s.size := by omega
  have hg : s[i.toNat]? = some s[i.toNat] := getElem?_pos s i.toNat hlt
  have hp : evPure P (Instr.index t (.string s) (.int k i)) = some (.int .u8 (s.data.toList.getD i.toNat 0).toNat) := by
    have hu : evPure P (underlying t : Sem TypeDesc) = some .string := by
      unfold underlying
      rw [evPure_bind]
      show evPure P (match P.underlying t with | some d => pure d | none => stuck _) = _
      rw [ht]
      rfl
    unfold Instr.index
    rw [evPure_bind]
    show (evPure P _ : Option Value) = _
    rw [evPure_bind, hu]
    simp only [Option.bind_some, if_pos h0, hg]
    rw [evPure_pure]
    have : s.data.toList.getD i.toNat 0 = s[i.toNat] := by
      have hl : i.toNat < s.data.toList.length := by simpa using hlt
      simp [List.getD, List.getElem?_eq_getElem hl]
      rfl
    rw [this]
  unfold evP
  rw [hp]
  rfl
end Go.Proofs.Ytnceadbfgpiaaaa.G

/- Proved here: laws of chapter 9 return true for every input. Conditions: none. -/
import Derived.Test.YtleooijgkdllfaaLaw09
import Derived.Test.YtleooijgkdllfaaEngMxi
open Go Go.Eng
namespace Go.Proofs.Ytleooijgkdllfaa
open Go.Fx (an orr an_true)

def miU (mx : Int → Int → Int) (h g : Int) (n : Int × Int) : Bool := an (an ((mx h n.1 == mx g n.1) == (h == g)) ((mx h n.1 == mx h n.2) == (n.1 == n.2))) true
theorem miEq (mx : Int → Int → Int) (h g : Int) (n : Int × Int) : symFn Try.prog (tbl [(12, c2 eU eI eU mx), (9, c0 eB true)]) noLps 7 [eU.pv h, eU.pv g, eI2.pv n] = some ([], eB.pv (miU mx h g n)) := by kernel_rfl
def miP (h g : Int) (n : Int × Int) : List Prop := [0 ≤ h ∧ h ≤ 18446744073709551615, 0 ≤ g ∧ g ≤ 18446744073709551615, -9223372036854775808 ≤ n.1 ∧ n.1 ≤ 9223372036854775807, -9223372036854775808 ≤ n.2 ∧ n.2 ≤ 9223372036854775807]
theorem miU_true (h g : Int) (n : Int × Int) (hp : Conj (miP h g n)) : miU Fx.mix h g n = true := by
  obtain ⟨h1, h2, h3, h4, _⟩ := hp
  unfold miU
  rw [Fx.mix_h h1 h2, Fx.mix_n h3 h4, beq_self_eq_true, beq_self_eq_true]
  rfl
theorem lChecksumMixInjective : Sound Try.prog 7 (p3 eU eU eI2 eB miP (fun _ _ _ => true)) :=
  con (lps := noLps) mixed (AllSound.cons cMix (.cons cEx09 .nil)) Try.func7 (by kernel_rfl) (by kernel_rfl) (noLoops (by kernel_rfl))
    (g3 (fun _ _ _ => []) (fun h g n => miU Fx.mix h g n) (fun _ _ _ _ => trivial) (fun h g n hp => miU_true h g n hp) (fun h g n => miEq Fx.mix h g n))
theorem args_I2r {P : Program} {D : Nat} {t : TypeId} {ts : List TypeId} {vs : List PV} (ha : isAggT P t = true) (hl : leafs P D t = [.int .i64, .int .i64]) (h : ArgsAre P D (t :: ts) vs) : ∃ (v : Int × Int) (rest : _), vs = eI2.pv v :: rest ∧ (IntKind.i64.min ≤ v.1 ∧ v.1 ≤ IntKind.i64.max) ∧ (IntKind.i64.min ≤ v.2 ∧ v.2 ≤ IntKind.i64.max) ∧ ArgsAre P D ts rest := by
  obtain ⟨cells, rest, rfl, h1, h2⟩ := args_agg _ ha hl h
  obtain ⟨_, _, rfl, ⟨x, rfl, hx⟩, _, _, rfl, ⟨y, rfl, hy⟩, rfl⟩ := h1
  exact ⟨(x, y), rest, rfl, hx, hy, h2⟩
theorem aChecksumMixInjective : ∀ vs, ArgsAre Try.prog 8 [29, 29, 41] vs → ∃ ps, p3 eU eU eI2 eB miP (fun _ _ _ => true) vs = some (ps, .fv (.one (.bool true))) ∧ Conj ps := by
  intro vs h0
  obtain ⟨x0, r, rfl, lo0, hi0, h1⟩ := args_int (k := .u64) (by kernel_rfl) (by kernel_rfl) h0
  obtain ⟨x1, r, rfl, lo1, hi1, h2⟩ := args_int (k := .u64) (by kernel_rfl) (by kernel_rfl) h1
  obtain ⟨x2, r, rfl, hx, hy, h3⟩ := args_I2r (by kernel_rfl) (by kernel_rfl) h2
  obtain rfl := args_nil h3
  exact ⟨_, rfl, ⟨lo0, hi0⟩, ⟨lo1, hi1⟩, hx, hy, trivial⟩
set_option maxRecDepth 100000 in
theorem liftedChecksumMixInjective (os : Os) (started : os.Started) (H : Type) (enc : TypeId × Value → H) :
    ReturnsInHanded {} Try.checked os 7 .any (Rows.checksumMixInjectiveSpec.pre6 enc Try.prog Try.f7 Rows.checksumMixInjectiveRow.domain false) (Rows.checksumMixInjectiveSpec.post enc Try.prog Try.f7 false true false false) := by
  refine returnsInHanded_of_change (C := Try.checked) own started (by kernel_rfl) Try.func7 (ChangeSpec.witness6 (enc := enc) (C := Try.checked) false ⟨#[], #[.int .u64 0, .int .u64 0, .agg #[.int .i64 0, .int .i64 0]], []⟩ 8 (by kernel_rfl) (by kernel_rfl) (by kernel_rfl) (by kernel_rfl)) ?_
  intro W base args ds gs before hval hW _ _
  exact law_contract (D := 8) (by kernel_rfl) (of_allOk (by kernel_rfl)) (tb := 4) (by kernel_rfl) (by kernel_rfl) rfl (fun ds h => by
    have h : ds.length = 3 := h
    match ds, h with
    | [d0, d1, d2], _ => rfl) lChecksumMixInjective aChecksumMixInjective W base args ds gs before hval hW

theorem checksumMixInjective_holds : Rows.ChecksumMixInjectiveSaid :=
  OpenClaim.holds_of_wide 7 Try.f7 rfl rfl rfl rfl rfl rfl rfl ⟨rfl, rfl, rfl, rfl, rfl⟩ rfl rfl rfl rfl rfl (by kernel_rfl) Try.func7 (by kernel_rfl)
    (of_decide_eq_true (by kernel_rfl)) (by unfold Func.isWrapper; first | (rw [if_pos (by decide +kernel)]; kernel_rfl) | (rw [if_neg (by decide +kernel)]; exact ⟨rfl, rfl⟩))
    (fun os started H enc _ => liftedChecksumMixInjective os started H enc)

end Go.Proofs.Ytleooijgkdllfaa

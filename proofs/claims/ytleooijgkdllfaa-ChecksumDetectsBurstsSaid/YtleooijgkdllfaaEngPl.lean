/- THE ENGINE, PART 24: more arguments of laws on joints; plain laws of joints' rows. -/
import Derived.Test.YtleooijgkdllfaaEngArg
namespace Go.Eng
open Go
theorem args_Rw {P : Program} {D : Nat} {t : TypeId} {ts : List TypeId} {vs : List PV} (ha : isAggT P t = true) (hl : leafs P D t = rwC.lfs) (h : ArgsAre P D (t :: ts) vs) : ∃ v rest, vs = eRw.pv v :: rest ∧ ArgsAre P D ts rest := args_enc rwC rwF rwG rwFG ha hl h
/-- Two bodies, an array. -/
def bbC := bdC.app bdC
def bbF : (Int × Int × Int × Int × Int × Int × Int × Int × Int × Int × Int × Int × Int × Int × Bool × Bool × Bool × Bool × Int × List Fx.Fix × Unit) × (Int × Int × Int × Int × Int × Int × Int × Int × Int × Int × Int × Int × Int × Int × Bool × Bool × Bool × Bool × Int × List Fx.Fix × Unit) → Fx.Bd × Fx.Bd := fun x => (bdF x.1, bdF x.2)
def bbG (x : Fx.Bd × Fx.Bd) : List Cell := bdG x.1 ++ bdG x.2
theorem bbFG : ∀ x, bbG (bbF x) = bbC.cells x := fun _ => rfl
def eBB : Enc (Fx.Bd × Fx.Bd) := bbC.enc bbF bbG bbFG
theorem args_BB {P : Program} {D : Nat} {t : TypeId} {ts : List TypeId} {vs : List PV} (ha : isAggT P t = true) (hl : leafs P D t = bbC.lfs) (h : ArgsAre P D (t :: ts) vs) : ∃ v rest, vs = eBB.pv v :: rest ∧ ArgsAre P D ts rest := args_enc bbC bbF bbG bbFG ha hl h
/-- Two numbers, three numbers, arrays. -/
def i2C : CEnc (Int × Int × Unit) := cInt.cons (cInt.cons cEnd)
def i2F : Int × Int × Unit → Int × Int := fun x => (x.1, x.2.1)
def i2G (x : Int × Int) : List Cell := [.int .i64 x.1, .int .i64 x.2]
theorem i2FG : ∀ x, i2G (i2F x) = i2C.cells x := fun _ => rfl
def eI2 : Enc (Int × Int) := i2C.enc i2F i2G i2FG
theorem args_I2 {P : Program} {D : Nat} {t : TypeId} {ts : List TypeId} {vs : List PV} (ha : isAggT P t = true) (hl : leafs P D t = i2C.lfs) (h : ArgsAre P D (t :: ts) vs) : ∃ v rest, vs = eI2.pv v :: rest ∧ ArgsAre P D ts rest := args_enc i2C i2F i2G i2FG ha hl h
def i3C : CEnc (Int × Int × Int × Unit) := cInt.cons (cInt.cons (cInt.cons cEnd))
def i3F : Int × Int × Int × Unit → Int × Int × Int := fun x => (x.1, x.2.1, x.2.2.1)
def i3G (x : Int × Int × Int) : List Cell := [.int .i64 x.1, .int .i64 x.2.1, .int .i64 x.2.2]
theorem i3FG : ∀ x, i3G (i3F x) = i3C.cells x := fun _ => rfl
def eI3 : Enc (Int × Int × Int) := i3C.enc i3F i3G i3FG
theorem args_I3 {P : Program} {D : Nat} {t : TypeId} {ts : List TypeId} {vs : List PV} (ha : isAggT P t = true) (hl : leafs P D t = i3C.lfs) (h : ArgsAre P D (t :: ts) vs) : ∃ v rest, vs = eI3.pv v :: rest ∧ ArgsAre P D ts rest := args_enc i3C i3F i3G i3FG ha hl h
end Go.Eng
namespace Go.Fx
open Go.Eng
theorem sl_cases (j : Joint) (a b : Bd) : sl j a b ∈ ([[], [0], [0, 1], [2, 0, 1], [3, 0, 1], [2, 3, 0, 1], [1, 0], [2, 1, 0], [3, 1, 0], [2, 3, 1, 0]] : List (List Int)) := by
  unfold sl motS limS
  cases (j.kind == 1)
  · cases (j.kind == 2)
    · cases (j.kind == 3)
      · cases (j.kind == 4)
        · cases (j.kind == 5) <;> simp
        · simp
      · cases j.em <;> cases limOn (transl j a.t b.t) j.lo j.up j.el <;> simp
    · cases j.em <;> cases limOn (relAng j a.t b.t) j.lo j.up j.el <;> simp
  · cases dNone j a b <;> simp
/-! ### chapter 31 -/
def RowOk (ia ib : Int) (s : List Sb) (r : Row) : Prop := r.a = ia ∧ r.b = ib ∧ r.fo = -1 ∧ r.em = eff r s
section
variable (j : Joint) (a b : Bd) (ia ib : Int) (s : List Sb) (dt : Int)
theorem motor_ok {j : Joint} {dt : Int} {r x : Row} (h : x ∈ motor j dt r) (hr : RowOk ia ib s r) : RowOk ia ib s x := by
  unfold motor at h
  cases hj : j.em <;> rw [hj] at h
  · cases h
  · rw [List.mem_singleton.1 h]
    exact hr
theorem limits_ok {v lo up : Int} {en : Bool} {im dt : Int} {r x : Row} (h : x ∈ limits v lo up en im dt r) (hr : RowOk ia ib s r) : RowOk ia ib s x := by
  unfold limits at h
  cases h1 : orr (!en) (an (decide (lo < v)) (decide (v < up))) <;> rw [h1] at h
  · cases h2 : (lo == up) <;> rw [h2] at h
    · cases h3 : decide (v ≤ lo) <;> rw [h3] at h
      all_goals (rw [List.mem_singleton.1 h]; exact hr)
    · rw [List.mem_singleton.1 h]
      exact hr
  · cases h
theorem rrows_ok {x : Row} (h : x ∈ rrows j a b ia ib s dt) : RowOk ia ib s x := by
  unfold rrows at h
  cases hk : (j.kind != 2) <;> rw [hk] at h
  · rcases List.mem_append.1 h with h | h
    · rcases List.mem_append.1 h with h | h
      · exact motor_ok ia ib s h ⟨rfl, rfl, rfl, rfl⟩
      · exact limits_ok ia ib s h ⟨rfl, rfl, rfl, rfl⟩
    · rcases List.mem_cons.1 h with h | h
      · rw [h]; exact ⟨rfl, rfl, rfl, rfl⟩
      · rw [List.mem_singleton.1 h]; exact ⟨rfl, rfl, rfl, rfl⟩
  · cases h
theorem motor_len' (r : Row) : (motor j dt r).length = bif j.em then 1 else 0 := by unfold motor; cases j.em <;> rfl
theorem getD_mem {α : Type} {l : List α} {i : Nat} {d : α} (h : i < l.length) : l.getD i d ∈ l := by
  simp [List.getD, List.getElem?_eq_getElem h]
theorem last2 {α : Type} (l : List α) (x y d : α) : (l ++ [x, y]).getD ((l ++ [x, y]).length - 2) d = x ∧ (l ++ [x, y]).getD ((l ++ [x, y]).length - 1) d = y := by
  have e : (l ++ [x, y]).length = l.length + 2 := by simp
  rw [e]
  constructor
  · simp [List.getD]
  · simp [List.getD]
end
end Go.Fx
namespace Go.Fx
open Go.Eng
/-! ### chapter 34: storing marks -/
def wantS (s : List Int) (i : Nat) (x : Int × Int × Int × Int) : Sum (Int × Int × Int × Int) Unit :=
  bif orr (orr (decide (s.getD i 0 < 0)) (decide (s.getD i 0 > 3))) ([x.1, x.2.1, x.2.2.1, x.2.2.2].getD (s.getD i 0).toNat 0 != 0) then .inr () else .inl (st4 (s.getD i 0) (w64 (100 + (i : Int))) x)
theorem want_sl : ∀ s ∈ ([[], [0], [0, 1], [2, 0, 1], [3, 0, 1], [2, 3, 0, 1], [1, 0], [2, 1, 0], [3, 1, 0], [2, 3, 1, 0]] : List (List Int)), runF (wantS s) s.length 0 (0, 0, 0, 0) = .inl (foldN (fun i x => st4 (s.getD i 0) (w64 (100 + (i : Int))) x) s.length 0 (0, 0, 0, 0)) := by
  intro s hs
  simp only [List.mem_cons, List.not_mem_nil, or_false] at hs
  rcases hs with rfl | rfl | rfl | rfl | rfl | rfl | rfl | rfl | rfl | rfl <;> rfl
def markS (i : Nat) (r : List Row) : List Row := r.set i ((r.getD i row0).wim (w64 (100 + (i : Int))))
theorem mark_len : ∀ (k i : Nat) (r : List Row), (foldN markS k i r).length = r.length
  | 0, _, _ => rfl
  | k + 1, i, r => by
    show (foldN markS k (i + 1) (markS i r)).length = _
    rw [mark_len k]
    exact List.length_set ..
theorem mark_get (r0 : List Row) : ∀ (k i : Nat) (r : List Row), i + k = r.length → (∀ m, m < i → (r.getD m row0).im = w64 (100 + (m : Int))) → ∀ m, m < r.length → ((foldN markS k i r).getD m row0).im = w64 (100 + (m : Int))
  | 0, i, r, hk, h, m, hm => h m (by omega)
  | k + 1, i, r, hk, h, m, hm => by
    have hl : (markS i r).length = r.length := List.length_set ..
    refine mark_get r0 k (i + 1) (markS i r) (by rw [hl]; omega) (fun m' hm' => ?_) m (by rw [hl]; exact hm)
    show ((r.set i _).getD m' row0).im = _
    have hi : i < r.length := by omega
    by_cases e : i = m'
    · subst e
      simp [List.getD, hi, Row.wim]
    · have := h m' (by omega)
      simp only [List.getD, List.getElem?_set_ne e] at this ⊢
      exact this
theorem store_want (j : Joint) (a b : Bd) (r : List Row) (hr : r.length = (sl j a b).length) (him : ∀ m, m < r.length → (r.getD m row0).im = w64 (100 + (m : Int))) :
    runF (wantS (sl j a b)) (sl j a b).length 0 (0, 0, 0, 0) = .inl (sto (stP r 0) r 0 (sl j a b)) := by
  rw [want_sl _ (sl_cases j a b)]
  congr 1
  unfold sto
  refine foldN_congr _ _ _ fun i x _ hi => ?_
  have h4 := sl_len j a b
  have e : w64 (0 + (i : Int)) = i := by rw [w64_id (by omega) (by omega)]; omega
  unfold stF stP
  rw [e, decide_eq_true (show (i : Int) ≥ 0 by omega), decide_eq_true (show (i : Int) < r.length by omega)]
  show _ = st4 _ (r.getD i row0).im x
  rw [him i (by omega)]
theorem wimps_self (j : Joint) (x : Int × Int × Int × Int) : (j.wimps x).wimps (j.i0, j.i1, j.i2, j.i3) = j := rfl
end Go.Fx

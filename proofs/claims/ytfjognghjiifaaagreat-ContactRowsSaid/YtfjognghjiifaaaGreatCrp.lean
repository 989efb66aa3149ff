/- Plain facts about contacts' rows. -/
import Derived.Test.YtfjognghjiifaaaGreatCr
open Go Go.Eng
namespace Go.Proofs.YtfjognghjiifaaaGreat
open Go.Fx (an orr)

abbrev CC := Fx.Ct × Fx.Pr × Fx.Vec × Int × Int × Int × Int × List Fx.Cp
def nrmAt (c : CC) (j : Nat) : Fx.Row := Fx.cnrm c.2.1 c.1.n c.2.2.2.2.2.2.1 c.2.2.2.2.1 (c.2.2.2.2.2.2.2.getD j Fx.cp0)
def sidAt (c : CC) (j : Nat) : Fx.Row := Fx.cside c.2.1 c.2.2.1 (Fx.w64 (c.2.2.2.1 + ((2 * j : Nat) : Int))) c.2.2.2.2.2.1 (c.2.2.2.2.2.2.2.getD j Fx.cp0)
theorem getD_two {l : List Fx.Row} {x y d : Fx.Row} {m : Nat} (h : l.length = m) : (l ++ [x, y]).getD m d = x ∧ (l ++ [x, y]).getD (m + 1) d = y := by
  subst h
  constructor
  · rw [List.getD_eq_getElem?_getD, List.getElem?_append_right (Nat.le_refl _), Nat.sub_self]; rfl
  · rw [List.getD_eq_getElem?_getD, List.getElem?_append_right (by omega), Nat.add_sub_cancel_left]; rfl
theorem getD_app {l m : List Fx.Row} {d : Fx.Row} {j : Nat} (h : j < l.length) : (l ++ m).getD j d = l.getD j d := by
  rw [List.getD_eq_getElem?_getD, List.getD_eq_getElem?_getD, List.getElem?_append_left h]
theorem getD_app2 {l m : List Fx.Row} {d : Fx.Row} {j : Nat} : (l ++ m).getD (l.length + j) d = m.getD j d := by
  rw [List.getD_eq_getElem?_getD, List.getD_eq_getElem?_getD, List.getElem?_append_right (by omega), Nat.add_sub_cancel_left]
theorem crl_spec (c : CC) : ∀ (n i : Nat) (l : List Fx.Row), l.length = 2 * i → (foldN (crlStep c) n i l).length = 2 * (i + n) ∧ (∀ j, j < 2 * i → (foldN (crlStep c) n i l).getD j Fx.row0 = l.getD j Fx.row0) ∧ ∀ j, i ≤ j → j < i + n → (foldN (crlStep c) n i l).getD (2 * j) Fx.row0 = nrmAt c j ∧ (foldN (crlStep c) n i l).getD (2 * j + 1) Fx.row0 = sidAt c j
  | 0, i, l, h => ⟨h, fun _ _ => rfl, fun j a b => by omega⟩
  | n + 1, i, l, h => by
    have e : crlStep c i l = l ++ [nrmAt c i, sidAt c i] := by
      show l ++ [_, Fx.cside _ _ (Fx.w64 (c.2.2.2.1 + (l.length : Int))) _ _] = _
      rw [h]; rfl
    have h' : (crlStep c i l).length = 2 * (i + 1) := by rw [e, List.length_append, h]; rfl
    obtain ⟨a1, a2, a3⟩ := crl_spec c n (i + 1) (crlStep c i l) h'
    refine ⟨by show (foldN (crlStep c) n (i + 1) (crlStep c i l)).length = _; rw [a1]; omega, fun j hj => ?_, fun j h1 h2 => ?_⟩
    · show (foldN (crlStep c) n (i + 1) (crlStep c i l)).getD j Fx.row0 = _
      rw [a2 j (by omega), e, getD_app (by omega)]
    · show (foldN (crlStep c) n (i + 1) (crlStep c i l)).getD (2 * j) Fx.row0 = _ ∧ (foldN (crlStep c) n (i + 1) (crlStep c i l)).getD (2 * j + 1) Fx.row0 = _
      by_cases ej : j = i
      · subst ej
        rw [a2 _ (by omega), a2 _ (by omega), e]
        exact getD_two h
      · exact a3 j (by omega) (by omega)
/-- Both fixtures are there. -/
def cok (c : Fx.Ct) (a b : Fx.Bd) : Bool := !orr (!(Fx.fxAt a c.fa).2) (!(Fx.fxAt b c.fb).2)
def cCC (c : Fx.Ct) (a b : Fx.Bd) (ia ib base : Int) (s : List Fx.Sb) (dt : Int) : CC := (c, ⟨ia, ib, a.wc, b.wc, s⟩, Fx.vperp c.n, base, dt, Fx.fric (vless (Fx.fxAt a c.fa).1) (vless (Fx.fxAt b c.fb).1), Fx.rest (vless (Fx.fxAt a c.fa).1) (vless (Fx.fxAt b c.fb).1), c.pts)
theorem crows_no {c : Fx.Ct} {a b : Fx.Bd} (h : cok c a b = false) (ia ib base : Int) (s : List Fx.Sb) (dt : Int) : crows c a b ia ib base s dt = [] := by
  unfold crows
  rw [show orr (!(Fx.fxAt a c.fa).2) (!(Fx.fxAt b c.fb).2) = true from by unfold cok at h; revert h; cases orr (!(Fx.fxAt a c.fa).2) (!(Fx.fxAt b c.fb).2) <;> simp]
  rfl
theorem crows_yes {c : Fx.Ct} {a b : Fx.Bd} (h : cok c a b = true) (ia ib base : Int) (s : List Fx.Sb) (dt : Int) : crows c a b ia ib base s dt = foldN (crlStep (cCC c a b ia ib base s dt)) c.pts.length 0 [] := by
  unfold crows
  rw [show orr (!(Fx.fxAt a c.fa).2) (!(Fx.fxAt b c.fb).2) = false from by unfold cok at h; revert h; cases orr (!(Fx.fxAt a c.fa).2) (!(Fx.fxAt b c.fb).2) <;> simp]
  rfl
theorem crows_len {c : Fx.Ct} {a b : Fx.Bd} (h : cok c a b = true) (ia ib base : Int) (s : List Fx.Sb) (dt : Int) : (crows c a b ia ib base s dt).length = 2 * c.pts.length := by
  rw [crows_yes h, (crl_spec _ _ _ _ rfl).1, Nat.zero_add]
theorem crows_at {c : Fx.Ct} {a b : Fx.Bd} (h : cok c a b = true) (ia ib base : Int) (s : List Fx.Sb) (dt : Int) (j : Nat) (hj : j < c.pts.length) : (crows c a b ia ib base s dt).getD (2 * j) Fx.row0 = nrmAt (cCC c a b ia ib base s dt) j ∧ (crows c a b ia ib base s dt).getD (2 * j + 1) Fx.row0 = sidAt (cCC c a b ia ib base s dt) j := by
  rw [crows_yes h]
  exact (crl_spec _ _ 0 [] rfl).2.2 j (Nat.zero_le _) (by omega)
theorem crows_bound (c : Fx.Ct) (a b : Fx.Bd) (ia ib base : Int) (s : List Fx.Sb) (dt : Int) : (crows c a b ia ib base s dt).length ≤ 2 * c.pts.length := by
  cases h : cok c a b with
  | false => rw [crows_no h]; exact Nat.zero_le _
  | true => rw [crows_len h]; exact Nat.le_refl _
theorem cok_eq (c : Fx.Ct) (a b : Fx.Bd) : cok c a b = an (an (an (decide (c.fa ≥ 0)) (decide (c.fa < (a.fixtures.length : Int)))) (decide (c.fb ≥ 0))) (decide (c.fb < (b.fixtures.length : Int))) := by
  have h : ∀ (x : Fx.Bd) (i : Int), (Fx.fxAt x i).2 = Fx.fxHas x i := fun x i => by
    rw [Fx.fxHas_eq]
    show (bif Fx.fxOut x i then false else true) = _
    cases Fx.fxOut x i <;> rfl
  unfold cok
  rw [h, h]
  unfold Fx.fxHas
  cases decide (c.fa ≥ 0) <;> cases decide (c.fa < (a.fixtures.length : Int)) <;> cases decide (c.fb ≥ 0) <;> cases decide (c.fb < (b.fixtures.length : Int)) <;> rfl
/-- What Store makes of a point. -/
def upd (l : List Fx.Row) (b : Int) (i : Nat) (x : Fx.Cp) : Fx.Cp := (x.wni (Fx.rimp l (Fx.stFst b i) x.ni)).wti (Fx.rimp l (Fx.w64 (Fx.stFst b i + 1)) x.ti)
theorem st2_eq (l : List Fx.Row) (b : Int) (i : Nat) (q : List Fx.Cp) (h : i < q.length) : Fx.st2 l b i q = q.set i (upd l b i (q.getD i Fx.cp0)) := by
  have e : (Fx.st1 l b i q).getD i Fx.cp0 = (q.getD i Fx.cp0).wni (Fx.rimp l (Fx.stFst b i) (q.getD i Fx.cp0).ni) := by
    unfold Fx.st1
    rw [List.getD_eq_getElem?_getD, List.getElem?_set_self h]; rfl
  unfold Fx.st2
  rw [e]
  unfold Fx.st1
  rw [List.set_set]; rfl
theorem set_same {α : Type} (q : List α) (i : Nat) (d : α) (h : i < q.length) : q.set i (q.getD i d) = q := by
  rw [List.getD_eq_getElem?_getD, List.getElem?_eq_getElem h]
  exact List.set_getElem_self h
theorem upd_same {l : List Fx.Row} {b : Int} {i : Nat} {x : Fx.Cp} (h1 : Fx.rimp l (Fx.stFst b i) x.ni = x.ni) (h2 : Fx.rimp l (Fx.w64 (Fx.stFst b i + 1)) x.ti = x.ti) : upd l b i x = x := by
  unfold upd
  rw [h1, h2]; rfl
theorem cstore_same (c : Fx.Ct) (l : List Fx.Row) (n : Int) (hn : n ≤ l.length) (h : ∀ i, i < c.pts.length → upd l n i (c.pts.getD i Fx.cp0) = c.pts.getD i Fx.cp0) : cstore c l n = c := by
  obtain ⟨y, e, hy⟩ := Fx.runF_inv (step := cstStep (c, ⟨0, 0, 0, 0, 0, 0, []⟩, l, n, cp1 c)) (fun q => q = cp1 c) (cp1 c).length 0 (cp1 c) rfl fun j q _ hj hq => by
    have hj' : j < c.pts.length := by rw [← cp1_eq c]; omega
    refine ⟨_, ?_, rfl⟩
    subst hq
    unfold cstStep
    dsimp only
    rw [show decide (n > (l.length : Int)) = false from decide_eq_false (by omega), cond_false]
    rw [st2_eq l n j (cp1 c) (by omega), cp1_eq, h j hj', set_same _ _ _ hj']
  have e2 : csR c l n = .inl (cp1 c) := by unfold csR; rw [e, hy]
  unfold cstore csP
  rw [e2, cp1_eq]; rfl
end Go.Proofs.YtfjognghjiifaaaGreat

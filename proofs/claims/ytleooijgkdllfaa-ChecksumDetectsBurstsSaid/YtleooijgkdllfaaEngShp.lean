/- THE ENGINE, PART 14: shapes and masses: plain models. -/
import Derived.Test.YtleooijgkdllfaaEngMasB
namespace Go.Eng
/-- A slice in a block that is seen in a state is no longer than memory bears. -/
theorem blk_le {we : World} {σ : St} {a : Act} {w : World} (hr : Rel we σ a w) {id j : Nat} {T : TypeId} {cs : List Cell} {nw : Bool} {m : SL} (h : σ.mem id = .val (.blk T cs)) (hj : cs[j]? = some (.slc nw m)) : m.len ≤ maxLen := by
  obtain ⟨E, hr⟩ := hr
  obtain ⟨_, ⟨xs, _, h9⟩, _⟩ := hr.mem id _ (.inl h)
  obtain ⟨y, _, h2⟩ := h9.get j _ hj
  rcases (show CR E (.slc nw m) y from h2) with ⟨_, h0⟩ | ⟨_, _, _, h1, _⟩
  · omega
  · exact h1.2
end Go.Eng
namespace Go.Fx
open Go.Eng
theorem isL_congr {ε ε' : Type} {f : Nat → Unit → Sum Unit ε} {g : Nat → Unit → Sum Unit ε'} : ∀ (k i : Nat), (∀ j, i ≤ j → j < i + k → isL (f j ()) = isL (g j ())) → isL (runF f k i ()) = isL (runF g k i ())
  | 0, _, _ => rfl
  | k + 1, i, h => by
    have h0 := h i (Nat.le_refl _) (by omega)
    have h1 := isL_congr k (i + 1) fun j h1 h2 => h j (by omega) (by omega)
    simp only [runF]
    cases e : f i () with
    | inl x =>
      cases e' : g i () with
      | inl y => exact h1
      | inr y => rw [e, e'] at h0; cases h0
    | inr x =>
      cases e' : g i () with
      | inl y => rw [e, e'] at h0; cases h0
      | inr y => rfl
/-- Which element is the first of this kind, or none. -/
def idxRun {α : Type} (d : α) (p : α → Bool) (l : List α) : Sum Unit Int := runF (fun i (_ : Unit) => bif p (l.getD i d) then .inr (i : Int) else .inl ()) l.length 0 ()
def idxF {α : Type} (d : α) (p : α → Bool) (l : List α) : Int := bif isL (idxRun d p l) then -1 else getR 0 (idxRun d p l)
def anyF {α : Type} (d : α) (p : α → Bool) (l : List α) : Bool := !isL (idxRun d p l)
theorem runF_inr {β ε : Type} {step : Nat → β → Sum β ε} {P : ε → Prop} (h : ∀ i x e, step i x = .inr e → P e) : ∀ (k i : Nat) (x : β) (e : ε), runF step k i x = .inr e → P e
  | 0, _, _, _, he => by cases he
  | k + 1, i, x, e, he => by
    simp only [runF] at he
    split at he
    · exact runF_inr h k _ _ e he
    · rename_i e' he'
      cases he
      exact h _ _ _ he'
theorem idx_any {α : Type} (d : α) (p : α → Bool) (l : List α) : decide (idxF d p l ≥ 0) = anyF d p l := by
  unfold idxF anyF
  cases e : idxRun d p l with
  | inl x => rfl
  | inr x =>
    have : 0 ≤ x := runF_inr (P := fun x : Int => 0 ≤ x) (fun i _ e he => by
      cases hp : p (l.getD i d) with
      | true => rw [hp] at he; cases he; omega
      | false => rw [hp] at he; cases he) _ _ _ _ e
    exact decide_eq_true this
def validN (s : Shp) : Bool := bif s.kind == 1 then (s.vs.length : Int) == 1 else bif s.kind == 2 then (s.vs.length : Int) == 2 else an (decide ((s.vs.length : Int) ≥ 3)) (decide ((s.vs.length : Int) ≤ 8))
def oor (x : Int) : Bool := orr (decide (x < -1048576)) (decide (x > 1048576))
def vfar (v : Vec) : Bool := orr (oor v.x) (oor v.y)
def farIdx (l : List Vec) (_ : Unit) : Int := idxF ⟨0, 0⟩ vfar l
def farAny2 (l : List Vec) (_ : Unit) : Bool := anyF ⟨0, 0⟩ vfar l
theorem far_any (l : List Vec) (u : Unit) : decide (farIdx l u ≥ 0) = farAny2 l u := idx_any _ _ l
def farAny (l : List Vec) : Bool := anyF ⟨0, 0⟩ vfar l
def cntR (s : Shp) : Bool := bif s.kind == 3 then an (decide ((s.vs.length : Int) ≥ 3)) (decide ((s.vs.length : Int) ≤ 8)) else (s.vs.length : Int) == s.kind
def wthn (x m : Int) : Bool := an (decide (x ≥ w64 (0 - m))) (decide (x ≤ m))
def nearAll (l : List Vec) : Bool := isL (runF (fun i (_ : Unit) => bif orr (!wthn (l.getD i ⟨0, 0⟩).x 1048576) (!wthn (l.getD i ⟨0, 0⟩).y 1048576) then Sum.inr () else Sum.inl ()) l.length 0 ())
theorem wthn_oor (x : Int) : (!wthn x 1048576) = oor x := by
  unfold wthn oor
  rw [show w64 (0 - 1048576) = -1048576 from rfl]
  by_cases h1 : x < -1048576
  · simp [an, orr, h1]
    try omega
  · by_cases h2 : x > 1048576
    · simp [an, orr, h2]
      try omega
    · simp [an, orr, h1, h2]
      try omega
theorem near_far (l : List Vec) : nearAll l = !farAny l := by
  unfold nearAll farAny anyF idxRun
  rw [Bool.not_not]
  refine isL_congr _ _ fun j _ _ => ?_
  rw [wthn_oor, wthn_oor]
  show isL (bif vfar (l.getD j ⟨0, 0⟩) then _ else _) = _
  cases vfar (l.getD j ⟨0, 0⟩) <;> rfl
def Shp.v (s : Shp) (i : Nat) : Vec := s.vs.getD i ⟨0, 0⟩
def kindBad (s : Shp) : Bool := orr (decide (s.kind < 1)) (decide (s.kind > 3))
def rad3 (s : Shp) : Bool := an (s.kind == 3) (s.radius != 0)
def rad12 (s : Shp) : Bool := an (s.kind != 3) (orr (decide (s.radius < 2048)) (decide (s.radius > 524288)))
section
variable (cm : Shp → Bool) (far near : List Vec → Bool) (vl : Vec → Int) (cv : List Vec → Bool) (sh ar : List Vec → Int) (s : Shp)
def stail : Int := bif an (s.kind == 2) (decide (vl (vsub (Shp.v s 1) (Shp.v s 0)) < 4096)) then 12 else bif an (s.kind == 3) (orr (orr (!cv s.vs) (decide (sh s.vs < 4096))) (decide (ar s.vs < 256))) then 12 else 0
def serrP : Int := bif kindBad s then 10 else bif !cm s then 11 else bif far s.vs then 6 else bif rad3 s then (bif rad3 s then 6 else stail vl cv sh ar s) else bif rad12 s then 6 else stail vl cv sh ar s
def serrR : Int := bif kindBad s then 10 else bif !cm s then 11 else bif near s.vs then (bif orr (rad3 s) (rad12 s) then 6 else stail vl cv sh ar s) else 6
def serrPQ : List Prop := [kindBad s = false → (!cm s) = false → far s.vs = false → rad3 s = true → rad3 s = false → (s.kind == 2) = true → 0 ≤ (1 : Int) ∧ (1 : Int) < (s.vs.length : Int),
  kindBad s = false → (!cm s) = false → far s.vs = false → rad3 s = true → rad3 s = false → (s.kind == 2) = true → 0 ≤ (0 : Int) ∧ (0 : Int) < (s.vs.length : Int),
  kindBad s = false → (!cm s) = false → far s.vs = false → rad3 s = false → rad12 s = false → (s.kind == 2) = true → 0 ≤ (1 : Int) ∧ (1 : Int) < (s.vs.length : Int),
  kindBad s = false → (!cm s) = false → far s.vs = false → rad3 s = false → rad12 s = false → (s.kind == 2) = true → 0 ≤ (0 : Int) ∧ (0 : Int) < (s.vs.length : Int)]
def serrRQ : List Prop := [kindBad s = false → (!cm s) = false → (0 : Int) = 0, kindBad s = false → (!cm s) = false → (0 : Int) = 0,
  kindBad s = false → (!cm s) = false → near s.vs = true → orr (rad3 s) (rad12 s) = false → (s.kind == 2) = true → 0 ≤ (1 : Int) ∧ (1 : Int) < (s.vs.length : Int),
  kindBad s = false → (!cm s) = false → near s.vs = true → orr (rad3 s) (rad12 s) = false → (s.kind == 2) = true → 0 ≤ (0 : Int) ∧ (0 : Int) < (s.vs.length : Int)]
end
def shErr (s : Shp) : Int := serrP validN farAny vlen cvx shortP areaP s
def shErrR (s : Shp) : Int := serrR cntR nearAll vlenR cvx shortP areaP s
theorem cnt_eq {s : Shp} (h : kindBad s = false) : cntR s = validN s := by
  unfold kindBad at h
  obtain ⟨h1, h2⟩ := of_orr h
  have h1 := of_decide_eq_false h1; have h2 := of_decide_eq_false h2
  have : s.kind = 1 ∨ s.kind = 2 ∨ s.kind = 3 := by omega
  unfold cntR validN
  rcases this with h | h | h <;> rw [h] <;> rfl
theorem stailR (s : Shp) : stail vlenR cvx shortP areaP s = stail vlen cvx shortP areaP s := by unfold stail; rw [vlenR_eq]
theorem shErr_eq (s : Shp) : shErrR s = shErr s := by
  unfold shErrR shErr serrR serrP
  rw [stailR, near_far]
  cases h : kindBad s with
  | true => rfl
  | false =>
    rw [cnt_eq h]
    cases validN s <;> cases farAny s.vs <;> cases rad3 s <;> cases rad12 s <;> rfl
theorem two_of {s : Shp} (h1 : (!validN s) = false) (h2 : (s.kind == 2) = true) : s.vs.length = 2 := by
  unfold validN at h1
  have h2 := eq_of_beq h2
  rw [h2] at h1
  simp only [Bool.not_eq_false'] at h1
  have := eq_of_beq (a := (s.vs.length : Int)) h1
  omega
theorem serrPQ_ok (s : Shp) : Conj (serrPQ validN farAny s) :=
  ⟨fun _ h1 _ _ _ h2 => ⟨by omega, by have := two_of h1 h2; omega⟩, fun _ h1 _ _ _ h2 => ⟨by omega, by have := two_of h1 h2; omega⟩, fun _ h1 _ _ _ h2 => ⟨by omega, by have := two_of h1 h2; omega⟩, fun _ h1 _ _ _ h2 => ⟨by omega, by have := two_of h1 h2; omega⟩, trivial⟩
theorem serrRQ_ok (s : Shp) : Conj (serrRQ cntR nearAll s) :=
  ⟨fun _ _ => rfl, fun _ _ => rfl, fun h0 h1 _ _ h2 => ⟨by omega, by rw [cnt_eq h0] at h1; have := two_of h1 h2; omega⟩, fun h0 h1 _ _ h2 => ⟨by omega, by rw [cnt_eq h0] at h1; have := two_of h1 h2; omega⟩, trivial⟩
end Go.Fx

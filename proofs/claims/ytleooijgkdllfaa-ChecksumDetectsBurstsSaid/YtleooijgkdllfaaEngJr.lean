/- THE ENGINE, PART 21: rows of joints: which slots they have; plain laws. -/
import Derived.Test.YtleooijgkdllfaaEngCst
namespace Go.Fx
open Go.Eng
def row0 : Row := ⟨0, 0, 0, 0, 0, 0, 0, 0, 0, 0, 0, 0, 0, 0⟩
def Row.eqb (a b : Row) : Bool := a.a == b.a && (a.b == b.b && (a.n.eqb b.n && (a.aa == b.aa && (a.ab == b.ab && (a.em == b.em && (a.bi == b.bi && (a.lo == b.lo && (a.up == b.up && (a.so == b.so && (a.im == b.im && (a.fo == b.fo && (a.fr == b.fr && true))))))))))))
theorem Row.eqb_self (a : Row) : a.eqb a = true := by simp [Row.eqb, Vec.eqb_self]
theorem Row.eqb_eq {a b : Row} (h : a.eqb b = true) : a = b := by
  unfold Row.eqb Vec.eqb Row.n at h
  simp only [Bool.and_eq_true, beq_iff_eq, and_true] at h
  obtain ⟨h1, h2, ⟨h3, h4⟩, h5, h6, h7, h8, h9, h10, h11, h12, h13, h14⟩ := h
  cases a; cases b
  simp_all
def neF (l m : List Row) : Bool := isL (runF (fun i (_ : Unit) => bif !(l.getD i row0).eqb (m.getD i row0) then Sum.inr () else Sum.inl ()) l.length 0 ())
theorem neF_self (l : List Row) : neF l l = true := isL_all _ _ fun j _ _ => by rw [Row.eqb_self]; rfl
def rowsEq (l m : List Row) : Bool := bif (l.length : Int) != m.length then false else bif neF l m then true else false
theorem rowsEq_self (l : List Row) : rowsEq l l = true := by unfold rowsEq; rw [neF_self]; simp
theorem rowsEq_of {l m : List Row} (h : l = m) : rowsEq l m = true := by rw [h]; exact rowsEq_self m
def intsF (l m : List Int) : Bool := isL (runF (fun i (_ : Unit) => bif l.getD i 0 != m.getD i 0 then Sum.inr () else Sum.inl ()) l.length 0 ())
def intsEq (l m : List Int) : Bool := bif (l.length : Int) != m.length then false else bif intsF l m then true else false
theorem intsEq_self (l : List Int) : intsEq l l = true := by
  unfold intsEq
  rw [show intsF l l = true from isL_all _ _ fun j _ _ => by simp]
  simp
/-! ### slots -/
def Joint.imps (j : Joint) : List Int := [j.i0, j.i1, j.i2, j.i3]
def Joint.imp (j : Joint) (k : Int) : Int := j.imps.getD k.toNat 0
def Joint.marked (j : Joint) : Joint := { j with i0 := 0, i1 := 1, i2 := 2, i3 := 3 }
def limOn (v lo up : Int) (en : Bool) : Bool := !orr (!en) (an (decide (lo < v)) (decide (v < up)))
def motS (j : Joint) : List Int := bif j.em then [2] else []
def limS (v : Int) (j : Joint) : List Int := bif limOn v j.lo j.up j.el then [3] else []
def sl (j : Joint) (a b : Bd) : List Int :=
  bif j.kind == 1 then (bif dNone j a b then [] else [0]) else bif j.kind == 2 then motS j ++ limS (relAng j a.t b.t) j ++ [0, 1] else bif j.kind == 3 then motS j ++ limS (transl j a.t b.t) j ++ [1, 0]
    else bif j.kind == 4 then [2, 0, 1] else bif j.kind == 5 then [0, 1] else []
def imsOf (l : List Row) : List Int := l.map (·.im)
theorem motor_im (j : Joint) (dt : Int) (r : Row) : imsOf (motor j dt r) = (motS j).map j.imp := by unfold motor motS; cases j.em <;> rfl
theorem limits_im (v : Int) (j : Joint) (dt : Int) (r : Row) : imsOf (limits v j.lo j.up j.el j.i3 dt r) = (limS v j).map j.imp := by
  unfold limits limS limOn
  cases orr (!j.el) (an (decide (j.lo < v)) (decide (v < j.up))) with
  | true => rfl
  | false => cases (j.lo == j.up) <;> cases decide (v ≤ j.lo) <;> rfl
theorem drowsOf_im (j : Joint) (a b : Bd) (ia ib : Int) (s : List Sb) (dt : Int) (n : Vec) : imsOf (drowsOf j a b ia ib s dt n) = [j.i0] := by
  unfold drowsOf
  cases decide (j.lo ≥ j.up) <;> cases decide (jlen j a b ≤ j.lo) <;> rfl
theorem beq_ne {x y z : Int} (h : (x == y) = true) (hz : y ≠ z) : (x == z) = false := by
  have := eq_of_beq h
  subst this
  simpa using hz
/-- The rows of a joint begin with the impulses in its slots. -/
theorem jrows_im (j : Joint) (a b : Bd) (ia ib : Int) (s : List Sb) (dt : Int) : imsOf (jrows j a b ia ib s dt) = (sl j a b).map j.imp := by
  unfold jrows sl
  cases h1 : (j.kind == 1) with
  | true =>
    simp only [cond_true]
    unfold drows
    cases dNone j a b with
    | true => rfl
    | false =>
      cases (jdiff j a b).eqb ⟨0, 0⟩ with
      | true => exact drowsOf_im j a b ia ib s dt _
      | false => exact drowsOf_im j a b ia ib s dt _
  | false =>
    cases h2 : (j.kind == 2) with
    | true =>
      simp only [cond_true, cond_false]
      unfold rrows
      rw [show (j.kind != 2) = false by rw [bne, h2]; rfl]
      simp only [cond_false]
      unfold imsOf
      rw [List.map_append, List.map_append, List.map_append, List.map_append]
      have e1 := motor_im j dt (arow ia ib s 0)
      have e2 := limits_im (relAng j a.t b.t) j dt (arow ia ib s 0)
      unfold imsOf at e1 e2
      rw [e1, e2]; rfl
    | false =>
      cases h3 : (j.kind == 3) with
      | true =>
        simp only [cond_true, cond_false]
        unfold srows
        rw [show (j.kind != 3) = false by rw [bne, h3]; rfl]
        simp only [cond_false]
        unfold imsOf
        rw [List.map_append, List.map_append, List.map_append, List.map_append]
        have e1 := motor_im j dt (srow j a b ia ib s (wAxis j a.t) 0)
        have e2 := limits_im (transl j a.t b.t) j dt (srow j a b ia ib s (wAxis j a.t) 0)
        unfold imsOf at e1 e2
        rw [e1, e2]; rfl
      | false =>
        cases h4 : (j.kind == 4) with
        | true =>
          simp only [cond_true, cond_false]
          unfold wrows
          rw [show (j.kind != 4) = false by rw [bne, h4]; rfl]
          rfl
        | false =>
          cases h5 : (j.kind == 5) with
          | true =>
            simp only [cond_true, cond_false]
            unfold trows
            rw [show (j.kind != 5) = false by rw [bne, h5]; rfl]
            rfl
          | false => rfl
theorem sl_marked (j : Joint) (a b : Bd) : sl j.marked a b = sl j a b := rfl
theorem motS_mem {j : Joint} {k : Int} (h : k ∈ motS j) : k = 2 := by unfold motS at h; cases hj : j.em <;> rw [hj] at h <;> simp at h; exact h
theorem limS_mem {v : Int} {j : Joint} {k : Int} (h : k ∈ limS v j) : k = 3 := by unfold limS at h; cases hj : limOn v j.lo j.up j.el <;> rw [hj] at h <;> simp at h; exact h
theorem sl_mem {j : Joint} {a b : Bd} {k : Int} (h : k ∈ sl j a b) : 0 ≤ k ∧ k < 4 := by
  unfold sl at h
  have h01 : ∀ {l : List Int}, k ∈ motS j ++ limS (relAng j a.t b.t) j ++ l ∨ k ∈ motS j ++ limS (transl j a.t b.t) j ++ l → (∀ x ∈ l, 0 ≤ x ∧ x < 4) → 0 ≤ k ∧ k < 4 := fun {l} h hl => by
    rcases h with h | h <;> (simp only [List.mem_append] at h; rcases h with (h | h) | h)
    · have := motS_mem h; omega
    · have := limS_mem h; omega
    · exact hl _ h
    · have := motS_mem h; omega
    · have := limS_mem h; omega
    · exact hl _ h
  cases h1 : (j.kind == 1) <;> rw [h1] at h
  · cases h2 : (j.kind == 2) <;> rw [h2] at h
    · cases h3 : (j.kind == 3) <;> rw [h3] at h
      · cases h4 : (j.kind == 4) <;> rw [h4] at h
        · cases h5 : (j.kind == 5) <;> rw [h5] at h <;> simp at h
          omega
        · simp at h; omega
      · exact h01 (.inr h) fun x hx => by simp at hx; omega
    · exact h01 (.inl h) fun x hx => by simp at hx; omega
  · cases hd : dNone j a b <;> rw [hd] at h <;> simp at h
    omega
theorem sl_len (j : Joint) (a b : Bd) : (sl j a b).length ≤ 4 := by
  have hm : (motS j).length ≤ 1 := by unfold motS; cases j.em <;> simp
  have hl : ∀ v, (limS v j).length ≤ 1 := fun v => by unfold limS; cases limOn v j.lo j.up j.el <;> simp
  have h1 := hl (relAng j a.t b.t); have h2 := hl (transl j a.t b.t)
  unfold sl
  cases (j.kind == 1) <;> cases (j.kind == 2) <;> cases (j.kind == 3) <;> cases (j.kind == 4) <;> cases (j.kind == 5) <;> cases dNone j a b <;> simp <;> omega
theorem marked_imp {k : Int} (j : Joint) (h : 0 ≤ k ∧ k < 4) : j.marked.imp k = k := by
  obtain ⟨h0, h1⟩ := h
  have : k = 0 ∨ k = 1 ∨ k = 2 ∨ k = 3 := by omega
  rcases this with rfl | rfl | rfl | rfl <;> rfl
theorem slots_eq (j : Joint) (a b : Bd) : imsOf (jrows j.marked a b 0 0 [] 65536) = sl j a b := by
  rw [jrows_im, sl_marked]
  have : ∀ l : List Int, (∀ k ∈ l, 0 ≤ k ∧ k < 4) → l.map j.marked.imp = l := fun l => by
    induction l with
    | nil => intro _; rfl
    | cons x l ih => intro h; rw [List.map_cons, marked_imp j (h x (List.mem_cons_self ..)), ih fun k hk => h k (List.mem_cons_of_mem _ hk)]
  exact this _ fun k hk => sl_mem hk
theorem jrows_len (j : Joint) (a b : Bd) (ia ib : Int) (s : List Sb) (dt : Int) : (jrows j a b ia ib s dt).length = (sl j a b).length := by
  have := congrArg List.length (jrows_im j a b ia ib s dt)
  simpa [imsOf] using this
theorem jrows_get (j : Joint) (a b : Bd) (ia ib : Int) (s : List Sb) (dt : Int) {i : Nat} (h : i < (sl j a b).length) : ((jrows j a b ia ib s dt).getD i row0).im = j.imp ((sl j a b).getD i 0) := by
  have e := congrArg (fun l => l[i]?) (jrows_im j a b ia ib s dt)
  have h' : i < (jrows j a b ia ib s dt).length := by rw [jrows_len]; exact h
  simp only [imsOf, List.getElem?_map, List.getElem?_eq_getElem h, List.getElem?_eq_getElem h', Option.map_some, Option.some.injEq] at e
  simp only [List.getD, List.getElem?_eq_getElem h, List.getElem?_eq_getElem h', Option.getD_some]
  exact e
/-! ### the reference's slots -/
def mR (j : Joint) : Bool := bif j.em then (bif j.kind == 2 then true else j.kind == 3) else false
def rea (j : Joint) (v : Int) : Bool := orr (decide (v ≤ j.lo)) (decide (v ≥ j.up))
def slR (j : Joint) (a b : Bd) : List Int :=
  bif mR j then (bif j.kind == 1 then (bif rea j (jlen j a b) then [2, 0] else [2]) else bif j.kind == 2 then (bif an j.el (rea j (relAng j a.t b.t)) then [2, 3, 0, 1] else [2, 0, 1]) else bif j.kind == 3 then (bif an j.el (rea j (transl j a.t b.t)) then [2, 3, 1, 0] else [2, 1, 0])
    else bif j.kind == 4 then [2, 2, 0, 1] else bif j.kind == 5 then [2, 0, 1] else [2])
  else bif j.kind == 1 then (bif rea j (jlen j a b) then [0] else []) else bif j.kind == 2 then (bif an j.el (rea j (relAng j a.t b.t)) then [3, 0, 1] else [0, 1]) else bif j.kind == 3 then (bif an j.el (rea j (transl j a.t b.t)) then [3, 1, 0] else [1, 0])
    else bif j.kind == 4 then [2, 0, 1] else bif j.kind == 5 then [0, 1] else []
theorem limOn_rea (j : Joint) (v : Int) : limOn v j.lo j.up j.el = an j.el (rea j v) := by
  unfold limOn rea an orr
  have h1 : decide (v ≤ j.lo) = !decide (j.lo < v) := by by_cases h : j.lo < v <;> simp [h, Int.not_le.2, Int.not_lt.1]
  have h2 : decide (v ≥ j.up) = !decide (v < j.up) := by by_cases h : v < j.up <;> simp [h, Int.not_le.2, Int.not_lt.1]
  rw [h1, h2]
  generalize decide (j.lo < v) = A
  generalize decide (v < j.up) = B
  cases j.el <;> cases A <;> cases B <;> rfl
theorem dNone_rea (j : Joint) (a b : Bd) (h : (j.kind == 1) = true) : dNone j a b = !rea j (jlen j a b) := by
  unfold dNone rea an orr
  have h1 : decide (jlen j a b ≤ j.lo) = !decide (jlen j a b > j.lo) := by by_cases h : jlen j a b > j.lo <;> simp [h, Int.not_le.2, Int.not_lt.1]
  have h2 : decide (jlen j a b ≥ j.up) = !decide (jlen j a b < j.up) := by by_cases h : jlen j a b < j.up <;> simp [h, Int.not_le.2, Int.not_lt.1]
  rw [h1, h2, bne, h]
  generalize decide (jlen j a b > j.lo) = A
  generalize decide (jlen j a b < j.up) = B
  cases A <;> cases B <;> rfl
theorem slR_eq (j : Joint) (a b : Bd) : slR j a b = sl j a b := by
  unfold slR sl mR motS limS
  cases h1 : (j.kind == 1) with
  | true =>
    rw [dNone_rea j a b h1, beq_ne h1 (by decide : (1 : Int) ≠ 2), beq_ne h1 (by decide : (1 : Int) ≠ 3)]
    cases j.em <;> cases rea j (jlen j a b) <;> rfl
  | false =>
    rw [limOn_rea, limOn_rea]
    cases h2 : (j.kind == 2) with
    | true =>
      cases j.em <;> cases an j.el (rea j (relAng j a.t b.t)) <;> rfl
    | false =>
      cases h3 : (j.kind == 3) with
      | true => cases j.em <;> cases an j.el (rea j (transl j a.t b.t)) <;> rfl
      | false => cases j.em <;> cases (j.kind == 4) <;> cases (j.kind == 5) <;> rfl
def iL (l : List Int) : SL := ⟨.i64, l⟩
theorem iL_len (l : List Int) : (iL l).len = l.length := rfl
def slRQ (j : Joint) (a b : Bd) : List Prop := [mR j = true → ((iL ([])).len + (iL ([2])).len) * 8 ≤ 140737488355328,
  mR j = true → (j.kind == 1) = true → rea j (jlen j a b) = true → ((iL ([] ++ [2])).len + (iL ([0])).len) * 8 ≤ 140737488355328,
  mR j = true → (j.kind == 1) = false → (j.kind == 2) = true → (an j.el (rea j (relAng j a.t b.t))) = true → ((iL ([] ++ [2])).len + (iL ([3])).len) * 8 ≤ 140737488355328,
  mR j = true → (j.kind == 1) = false → (j.kind == 2) = true → (an j.el (rea j (relAng j a.t b.t))) = true → ((iL ([] ++ [2] ++ [3])).len + (iL ([0, 1])).len) * 8 ≤ 140737488355328,
  mR j = true → (j.kind == 1) = false → (j.kind == 2) = true → (an j.el (rea j (relAng j a.t b.t))) = false → ((iL ([] ++ [2])).len + (iL ([0, 1])).len) * 8 ≤ 140737488355328,
  mR j = true → (j.kind == 1) = false → (j.kind == 2) = false → (j.kind == 3) = true → (an j.el (rea j (transl j a.t b.t))) = true → ((iL ([] ++ [2])).len + (iL ([3])).len) * 8 ≤ 140737488355328,
  mR j = true → (j.kind == 1) = false → (j.kind == 2) = false → (j.kind == 3) = true → (an j.el (rea j (transl j a.t b.t))) = true → ((iL ([] ++ [2] ++ [3])).len + (iL ([1, 0])).len) * 8 ≤ 140737488355328,
  mR j = true → (j.kind == 1) = false → (j.kind == 2) = false → (j.kind == 3) = true → (an j.el (rea j (transl j a.t b.t))) = false → ((iL ([] ++ [2])).len + (iL ([1, 0])).len) * 8 ≤ 140737488355328,
  mR j = true → (j.kind == 1) = false → (j.kind == 2) = false → (j.kind == 3) = false → (j.kind == 4) = true → ((iL ([] ++ [2])).len + (iL ([2, 0, 1])).len) * 8 ≤ 140737488355328,
  mR j = true → (j.kind == 1) = false → (j.kind == 2) = false → (j.kind == 3) = false → (j.kind == 4) = false → (j.kind == 5) = true → ((iL ([] ++ [2])).len + (iL ([0, 1])).len) * 8 ≤ 140737488355328,
  mR j = false → (j.kind == 1) = true → rea j (jlen j a b) = true → ((iL ([])).len + (iL ([0])).len) * 8 ≤ 140737488355328,
  mR j = false → (j.kind == 1) = false → (j.kind == 2) = true → (an j.el (rea j (relAng j a.t b.t))) = true → ((iL ([])).len + (iL ([3])).len) * 8 ≤ 140737488355328,
  mR j = false → (j.kind == 1) = false → (j.kind == 2) = true → (an j.el (rea j (relAng j a.t b.t))) = true → ((iL ([] ++ [3])).len + (iL ([0, 1])).len) * 8 ≤ 140737488355328,
  mR j = false → (j.kind == 1) = false → (j.kind == 2) = true → (an j.el (rea j (relAng j a.t b.t))) = false → ((iL ([])).len + (iL ([0, 1])).len) * 8 ≤ 140737488355328,
  mR j = false → (j.kind == 1) = false → (j.kind == 2) = false → (j.kind == 3) = true → (an j.el (rea j (transl j a.t b.t))) = true → ((iL ([])).len + (iL ([3])).len) * 8 ≤ 140737488355328,
  mR j = false → (j.kind == 1) = false → (j.kind == 2) = false → (j.kind == 3) = true → (an j.el (rea j (transl j a.t b.t))) = true → ((iL ([] ++ [3])).len + (iL ([1, 0])).len) * 8 ≤ 140737488355328,
  mR j = false → (j.kind == 1) = false → (j.kind == 2) = false → (j.kind == 3) = true → (an j.el (rea j (transl j a.t b.t))) = false → ((iL ([])).len + (iL ([1, 0])).len) * 8 ≤ 140737488355328,
  mR j = false → (j.kind == 1) = false → (j.kind == 2) = false → (j.kind == 3) = false → (j.kind == 4) = true → ((iL ([])).len + (iL ([2, 0, 1])).len) * 8 ≤ 140737488355328,
  mR j = false → (j.kind == 1) = false → (j.kind == 2) = false → (j.kind == 3) = false → (j.kind == 4) = false → (j.kind == 5) = true → ((iL ([])).len + (iL ([0, 1])).len) * 8 ≤ 140737488355328]
theorem slRQ_ok (j : Joint) (a b : Bd) : Conj (slRQ j a b) := by
  unfold slRQ
  simp [Conj, iL_len]
/-! ### storing -/
def st4 (s v : Int) (x : Int × Int × Int × Int) : Int × Int × Int × Int := (bif s == ((0 : Nat) : Int) then v else x.1, bif s == ((0 + 1 : Nat) : Int) then v else x.2.1, bif s == ((0 + 1 + 1 : Nat) : Int) then v else x.2.2.1, bif s == ((0 + 1 + 1 + 1 : Nat) : Int) then v else x.2.2.2)
def stP (l : List Row) (n : Int) (i : Nat) : Bool := an (decide (w64 (n + i) ≥ 0)) (decide (w64 (n + i) < (l.length : Int)))
def stR (l : List Row) (n : Int) (i : Nat) : Bool := an (decide (n ≥ w64 (0 - i))) (decide (n < w64 (l.length - i)))
def stF (c : Nat → Bool) (l : List Row) (n : Int) (s : List Int) (i : Nat) (x : Int × Int × Int × Int) : Int × Int × Int × Int := bif c i then st4 (s.getD i 0) (l.getD (w64 (n + i)).toNat row0).im x else x
def sto (c : Nat → Bool) (l : List Row) (n : Int) (s : List Int) : Int × Int × Int × Int := foldN (stF c l n s) s.length 0 (0, 0, 0, 0)
def Joint.wimps (j : Joint) (x : Int × Int × Int × Int) : Joint := ⟨j.id, j.kind, j.ba, j.bb, j.ax, j.ay, j.bx, j.bby, j.ux, j.uy, j.ra, j.el, j.lo, j.up, j.em, j.ms, j.mf, j.so, j.br, j.cc, x.1, x.2.1, x.2.2.1, x.2.2.2⟩
def jstore (j : Joint) (a b : Bd) (l : List Row) (n : Int) : Joint := j.wimps (sto (stP l n) l n (sl j a b))
theorem stR_eq {l : List Row} {n : Int} (hn : -9223372036854775808 ≤ n ∧ n ≤ 9223372036854775807) (hl : l.length ≤ 65536) {i : Nat} (hi : i < 4) : stR l n i = stP l n i := by
  have e1 : w64 (0 - (i : Int)) = -i := by rw [w64_id (by omega) (by omega)]; omega
  have e2 : w64 ((l.length : Int) - i) = l.length - i := w64_id (by omega) (by omega)
  unfold stR stP an
  rw [e1, e2]
  by_cases h : n ≤ 9223372036854775800
  · rw [w64_id (n := n + i) (by omega) (by omega)]
    have a1 : decide (n ≥ -(i : Int)) = decide (n + (i : Int) ≥ 0) := by congr 1; exact propext ⟨fun _ => by omega, fun _ => by omega⟩
    have a2 : decide (n < (l.length : Int) - i) = decide (n + (i : Int) < l.length) := by congr 1; exact propext ⟨fun _ => by omega, fun _ => by omega⟩
    rw [a1, a2]
  · have a1 : decide (n < (l.length : Int) - i) = false := by simp; omega
    rw [a1]
    have a2 : (bif decide (w64 (n + i) ≥ 0) then decide (w64 (n + i) < (l.length : Int)) else false) = false := by
      by_cases h2 : n + i ≤ 9223372036854775807
      · rw [w64_id (by omega) h2, show decide (n + (i : Int) < l.length) = false by simp; omega]
        cases decide (n + (i : Int) ≥ 0) <;> rfl
      · have : decide (w64 (n + i) ≥ 0) = false := by
          simp only [ge_iff_le, decide_eq_false_iff_not, Int.not_le]
          rw [w64_eq]
          omega
        rw [this]; rfl
    rw [a2]
    cases decide (n ≥ -(i : Int)) <;> rfl
theorem sto_eq {l : List Row} {n : Int} (hn : -9223372036854775808 ≤ n ∧ n ≤ 9223372036854775807) (hl : l.length ≤ 65536) {s : List Int} (hs : s.length ≤ 4) : sto (stR l n) l n s = sto (stP l n) l n s := by
  unfold sto
  refine foldN_congr _ _ _ fun j x _ hj => ?_
  unfold stF
  rw [stR_eq hn hl (by omega)]
theorem stP_ok {l : List Row} {n : Int} {i : Nat} (h : stP l n i = true) : 0 ≤ w64 (n + i) ∧ w64 (n + i) < (l.length : Int) := by
  obtain ⟨h1, h2⟩ := of_an h
  exact ⟨of_decide_eq_true h1, of_decide_eq_true h2⟩
theorem getD_slot {s : List Int} (hs : ∀ k ∈ s, 0 ≤ k ∧ k < 4) {i : Nat} (h : i < s.length) : 0 ≤ s.getD i 0 ∧ s.getD i 0 < ((4 : Nat) : Int) := by
  have := hs (s.getD i 0) (by simp [List.getD, List.getElem?_eq_getElem h])
  omega
def SlOk (s : List Int) : Prop := (∀ k ∈ s, 0 ≤ k ∧ k < 4) ∧ s.length ≤ 4
theorem sl_ok (j : Joint) (a b : Bd) : SlOk (sl j a b) := ⟨fun _ hk => sl_mem hk, sl_len j a b⟩
def jnt0 : Joint := ⟨0, 0, 0, 0, 0, 0, 0, 0, 0, 0, 0, false, 0, 0, false, 0, 0, 0, 0, false, 0, 0, 0, 0⟩
/-! ### breaking -/
def react (j : Joint) : Int := bif j.kind == 1 then (if w64 (0 - sat j.i0) > sat j.i0 then w64 (0 - sat j.i0) else sat j.i0) else vlen ⟨sat j.i0, j.i1⟩
def reactR (j : Joint) : Int := bif j.kind == 1 then (if w64 (0 - sat j.i0) > sat j.i0 then w64 (0 - sat j.i0) else sat j.i0) else vlenR ⟨j.i0, j.i1⟩
theorem vlen_sat (x y : Int) : vlen ⟨sat x, y⟩ = vlenR ⟨x, y⟩ := by
  rw [← vlenR_eq]
  unfold vlenR vlen2
  rw [sat_sat]
theorem reactR_eq (j : Joint) : reactR j = react j := by unfold reactR react; rw [vlen_sat]
theorem react_nn (j : Joint) : 0 ≤ react j := by
  unfold react
  have hb := sat_bounds j.i0
  rw [w64_id (by omega) (by omega)]
  cases (j.kind == 1) with
  | true => simp only [cond_true]; split <;> omega
  | false => exact vlen_nn _
def broken (j : Joint) (dt : Int) : Bool := an (decide (j.br > 0)) (decide (react j > mul j.br dt))
end Go.Fx

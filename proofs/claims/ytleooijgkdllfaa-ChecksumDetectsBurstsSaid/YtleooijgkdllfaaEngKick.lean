/- THE ENGINE, PART 26: the steps in which an impulse is applied and a row is solved. -/
import Derived.Test.YtleooijgkdllfaaEngTra
namespace Go.Eng
/-- Two new slices, returned. -/
def eSS : Enc (List Fx.Row × List Fx.Sb) := ⟨fun _ => none, fun x => .tup [.one (.slc true ⟨.row, x.1⟩), .one (.slc true ⟨.sb, x.2⟩)], fun _ _ h => nomatch h⟩
end Go.Eng
namespace Go.Fx
open Go.Eng
def Sb.wv (b : Sb) (v : Vec) : Sb := ⟨v.x, v.y, b.w, b.im, b.ii⟩
def Sb.ww (b : Sb) (w : Int) : Sb := ⟨b.vx, b.vy, w, b.im, b.ii⟩
section
variable (mul lin : Int → Int → Int) (vlin : Vec → Vec → Vec) (vsc : Vec → Int → Vec) (n : Vec) (d arm : Int) (i : Int)
def k1G (s : List Sb) : List Sb := s.set i.toNat ((s.getD i.toNat sb0).wv (vlin (s.getD i.toNat sb0).v (vsc n (mul d (s.getD i.toNat sb0).im))))
def k2G (s : List Sb) : List Sb := (k1G mul vlin vsc n d i s).set i.toNat (((k1G mul vlin vsc n d i s).getD i.toNat sb0).ww (lin ((k1G mul vlin vsc n d i s).getD i.toNat sb0).w (mul (mul d arm) ((k1G mul vlin vsc n d i s).getD i.toNat sb0).ii)))
def kIn (s : List Sb) : Bool := an (decide (i ≥ 0)) (decide (i < (s.length : Int)))
def kN (C : Prop → Prop) (s0 s1 : List Sb) : List Prop := [C (0 ≤ i ∧ i < (s0.length : Int)), C (i.toNat < s0.length), C (i.toNat < s0.length), C (i.toNat < s0.length), C (i.toNat < s1.length), C (i.toNat < s1.length), C (i.toNat < s1.length)]
end
section
variable (mul add sub : Int → Int → Int) (vadd vsub : Vec → Vec → Vec) (vsc : Vec → Int → Vec) (r : Row) (s : List Sb) (d : Int)
def kA : List Sb := k2G mul sub vsub vsc r.n d r.aa r.a s
def kB (s : List Sb) : List Sb := k2G mul add vadd vsc r.n d r.ab r.b s
def kickG : List Sb := bif kIn r.a s then (bif kIn r.b (kA mul sub vsub vsc r s d) then kB mul add vadd vsc r d (kA mul sub vsub vsc r s d) else kA mul sub vsub vsc r s d) else bif kIn r.b s then kB mul add vadd vsc r d s else s
def kickQ : List Prop := (s.length * 40 ≤ 140737488355328) :: (kN r.a (fun p => kIn r.a s = true → p) s (k1G mul vsub vsc r.n d r.a s) ++
  (kN r.b (fun p => kIn r.a s = true → kIn r.b (kA mul sub vsub vsc r s d) = true → p) (kA mul sub vsub vsc r s d) (k1G mul vadd vsc r.n d r.b (kA mul sub vsub vsc r s d)) ++
  kN r.b (fun p => kIn r.a s = false → kIn r.b s = true → p) s (k1G mul vadd vsc r.n d r.b s)))
end
theorem k1G_len (mul : Int → Int → Int) (vlin : Vec → Vec → Vec) (vsc : Vec → Int → Vec) (n : Vec) (d i : Int) (s : List Sb) : (k1G mul vlin vsc n d i s).length = s.length := List.length_set ..
theorem k2G_len (mul lin : Int → Int → Int) (vlin : Vec → Vec → Vec) (vsc : Vec → Int → Vec) (n : Vec) (d arm i : Int) (s : List Sb) : (k2G mul lin vlin vsc n d arm i s).length = s.length := by unfold k2G; rw [List.length_set, k1G_len]
theorem kIn_of {i : Int} {s : List Sb} (h : kIn i s = true) : 0 ≤ i ∧ i < (s.length : Int) := by
  obtain ⟨h1, h2⟩ := of_an h
  exact ⟨of_decide_eq_true h1, of_decide_eq_true h2⟩
theorem kN_ok {C : Prop → Prop} {i : Int} {s0 s1 : List Sb} (hl : s1.length = s0.length) (hC : ∀ p : Prop, (0 ≤ i → i < (s0.length : Int) → p) → C p) : Conj (kN i C s0 s1) :=
  ⟨hC _ fun h1 h2 => ⟨h1, h2⟩, hC _ fun h1 h2 => by omega, hC _ fun h1 h2 => by omega, hC _ fun h1 h2 => by omega, hC _ fun h1 h2 => by omega, hC _ fun h1 h2 => by omega, hC _ fun h1 h2 => by omega, trivial⟩
theorem Conj_app {l m : List Prop} (h1 : Conj l) (h2 : Conj m) : Conj (l ++ m) := by
  induction l with
  | nil => exact h2
  | cons p l ih => exact ⟨h1.1, ih h1.2⟩
theorem kickQ_ok (mul sub : Int → Int → Int) (vadd vsub : Vec → Vec → Vec) (vsc : Vec → Int → Vec) (r : Row) (s : List Sb) (d : Int) (h : s.length * 40 ≤ 140737488355328) : Conj (kickQ mul sub vadd vsub vsc r s d) := by
  refine ⟨h, Conj_app (kN_ok (k1G_len ..) fun p hp hi => ?_) (Conj_app (kN_ok (k1G_len ..) fun p hp _ hi => ?_) (kN_ok (k1G_len ..) fun p hp _ hi => ?_))⟩
  · obtain ⟨h1, h2⟩ := kIn_of hi; exact hp h1 h2
  · obtain ⟨h1, h2⟩ := kIn_of hi; exact hp h1 h2
  · obtain ⟨h1, h2⟩ := kIn_of hi; exact hp h1 h2
theorem k2G_eq (mul lin : Int → Int → Int) (vlin : Vec → Vec → Vec) (vsc : Vec → Int → Vec) (n : Vec) (d arm i : Int) (s : List Sb) (h : kIn i s = true) :
    k2G mul lin vlin vsc n d arm i s = s.set i.toNat (((s.getD i.toNat sb0).wv (vlin (s.getD i.toNat sb0).v (vsc n (mul d (s.getD i.toNat sb0).im)))).ww (lin (s.getD i.toNat sb0).w (mul (mul d arm) (s.getD i.toNat sb0).ii))) := by
  obtain ⟨h1, h2⟩ := kIn_of h
  have hl : i.toNat < s.length := by omega
  have e : (k1G mul vlin vsc n d i s).getD i.toNat sb0 = (s.getD i.toNat sb0).wv (vlin (s.getD i.toNat sb0).v (vsc n (mul d (s.getD i.toNat sb0).im))) := by
    unfold k1G
    simp [List.getD, hl]
  unfold k2G
  rw [e]
  unfold k1G
  rw [List.set_set]
  rfl
theorem kickG_len (mul add sub : Int → Int → Int) (va vs : Vec → Vec → Vec) (vsc : Vec → Int → Vec) (r : Row) (s : List Sb) (d : Int) : (kickG mul add sub va vs vsc r s d).length = s.length := by
  unfold kickG kA kB
  cases kIn r.a s <;> cases kIn r.b s <;> cases kIn r.b (k2G mul sub vs vsc r.n d r.aa r.a s) <;> simp [k2G_len]
def kicked (r : Row) (s : List Sb) (d : Int) : List Sb := kickG mul add sub vadd vsub vscale r s d
/-! ### solving a row -/
section
variable (rel : Row → List Sb → Int) (bnd : List Row → Int → Int × Int) (mul add sub : Int → Int → Int) (clamp : Int → Int → Int → Int) (kick : Row → List Sb → Int → List Sb) (l : List Row) (i : Int) (s : List Sb)
def nImG : Int := clamp (sub (rowAt l i).im (mul (rowAt l i).em (add (add (rel (rowAt l i) s) (rowAt l i).bi) (mul (rowAt l i).so (rowAt l i).im)))) (bnd l i).1 (bnd l i).2
def sv1G : List Row := bif outOf l i then l else l.set i.toNat ((rowAt l i).wim (nImG rel bnd mul add sub clamp l i s))
def sv2G : List Sb := bif outOf l i then s else kick ((l.set i.toNat ((rowAt l i).wim (nImG rel bnd mul add sub clamp l i s))).getD i.toNat row0) s (sub (nImG rel bnd mul add sub clamp l i s) (rowAt l i).im)
end
def solved1 (l : List Row) (i : Int) (s : List Sb) : List Row := sv1G relV bounds mul add sub clamp l i s
def solved2 (l : List Row) (i : Int) (s : List Sb) : List Sb := sv2G relV bounds mul add sub clamp kicked l i s
end Go.Fx
namespace Go.Eng
open Go
/-- A byte. -/
def eU8 : Enc Int := ⟨fun | .fv (.one (.int .u8 n)) => some n | _ => none, fun n => .fv (.one (.int .u8 n)), fun p x h => by
  split at h
  · cases h; rfl
  · cases h⟩
/-- A new slice that is only read from now on. -/
def stillV : PV → PV
  | .fv (.one (.fresh e m)) => if m.k.flat then .fv (.one (.slc true m)) else .fv (.one (.fresh e m))
  | v => v
def still (C : Contract) : Contract := fun args => (C args).map fun r => (r.1, stillV r.2)
end Go.Eng
namespace Go.Eng
open Go
theorem fresh_still {w w' : World} {e : TypeId} {m : SL} {x : Value} (hf : m.k.flat = true) (h : ResR w w' (.fv (.one (.fresh e m))) x) : ResR w w' (.fv (.one (.slc true m))) x := by
  obtain ⟨xs, hown, hrow⟩ := h
  show CR (Env.new w w') (.slc true m) x
  rcases hown.2 with ⟨h1, h2⟩ | ⟨g, cap, cur, h1, hb, hg, hnc, hcm, hcs, htk⟩
  · exact .inl ⟨h1, h2⟩
  · refine .inr ⟨⟨g, 0, none⟩, cap, h1, ⟨hnc, Nat.le_trans hnc hcm⟩, fun i hi => ⟨⟨⟨hb, heap_lt hg⟩, hb⟩, fun j c hj => ?_⟩⟩
    obtain ⟨y, h3, h4⟩ := hrow i hi j c hj
    refine ⟨y, ?_, CR_flat (flat_mem hf hj) h4⟩
    show w'.cell? _ = _
    rw [add_lit, cell_of_blk hg]
    have hbb : (i + 1) * m.sz ≤ m.len * m.sz := Nat.mul_le_mul_right _ hi
    rw [Nat.add_mul, Nat.one_mul] at hbb
    have := SL.at_lt hj
    rw [← htk, List.getElem?_take, if_pos (by omega)] at h3
    simpa using h3
theorem stillV_ok {w w' : World} {r : PV} {x : Value} (h : ResR w w' r x) : ResR w w' (stillV r) x := by
  unfold stillV
  split
  · split
    · rename_i hf
      exact fresh_still hf h
    · exact h
  · exact h
theorem Sound.still {P : Program} {f : FuncId} {C : Contract} (h : Sound P f C) : Sound P f (still C) where
  call := h.call
  runs := fun args ps r e hc w xs hp => by
    unfold Eng.still at e
    cases hC : C args with
    | none => rw [hC] at e; cases e
    | some q =>
      obtain ⟨ps', r'⟩ := q
      rw [hC] at e
      cases e
      exact (h.runs args ps' r' hC hc w xs hp).mono fun e w' ⟨x, h1, h2, h3⟩ => ⟨x, h1, h2, stillV_ok h3⟩
end Go.Eng
namespace Go.Fx
open Go.Eng
theorem runF_inv {β ε : Type} {step : Nat → β → Sum β ε} (p : β → Prop) : ∀ (k i : Nat) (x : β), p x → (∀ j x, i ≤ j → j < i + k → p x → ∃ y, step j x = .inl y ∧ p y) → ∃ y, runF step k i x = .inl y ∧ p y
  | 0, _, x, hp, _ => ⟨x, rfl, hp⟩
  | k + 1, i, x, hp, h => by
    obtain ⟨y, h1, h2⟩ := h i x (Nat.le_refl i) (by omega) hp
    simp only [runF, h1]
    exact runF_inv p k (i + 1) y h2 fun j x hj hk hx => h j x (by omega) (by omega) hx
/-- What holds from round to round also holds at the end, if the end is reached. -/
theorem runF_keep {β ε : Type} {step : Nat → β → Sum β ε} (p : β → Prop) (d : β) : ∀ (k i : Nat) (x : β), p d → p x → (∀ j x y, p x → step j x = .inl y → p y) → p (getL d (runF step k i x))
  | 0, _, x, _, hp, _ => hp
  | k + 1, i, x, hd, hp, h => by
    simp only [runF]
    cases hs : step i x with
    | inl y => exact runF_keep p d k (i + 1) y hd (h i x y hp hs) h
    | inr e => exact hd
theorem solved1_len (l : List Row) (i : Int) (s : List Sb) : (solved1 l i s).length = l.length := by unfold solved1 sv1G; cases outOf l i <;> simp
theorem solved2_len (l : List Row) (i : Int) (s : List Sb) : (solved2 l i s).length = s.length := by
  unfold solved2 sv2G kicked
  cases outOf l i
  · exact kickG_len ..
  · rfl
theorem clamp_le {x lo up : Int} (h : lo ≤ up) : lo ≤ clamp x lo up ∧ clamp x lo up ≤ up := by unfold clamp; repeat' split <;> omega
/-- The rows are bounded by -k and k. -/
def Within (k : Int) (r : List Row) : Prop := ∀ m, m < r.length → (r.getD m row0).lo = w64 (0 - k) ∧ (r.getD m row0).up = k ∧ (r.getD m row0).fo = -1
theorem getD_set' {α : Type} (l : List α) (i j : Nat) (a d : α) (h : i < l.length) : (l.set i a).getD j d = if i = j then a else l.getD j d := by
  by_cases e : i = j
  · subst e; simp [List.getD, h]
  · simp [List.getD, List.getElem?_set_ne e, e]
theorem outOf_nat {α : Type} {l : List α} {i : Nat} (h : i < l.length) : outOf l (i : Int) = false := by
  unfold outOf orr
  rw [decide_eq_false (show ¬ (i : Int) < 0 by omega), decide_eq_false (show ¬ (i : Int) ≥ (l.length : Int) by omega)]; rfl
theorem within_step {k : Int} {r : List Row} {s : List Sb} {i : Nat} (hw : Within k r) (hi : i < r.length) (h0 : 0 ≤ k) (h1 : k ≤ 536870911) :
    Within k (solved1 r i s) ∧ -k ≤ ((solved1 r i s).getD i row0).im ∧ ((solved1 r i s).getD i row0).im ≤ k := by
  obtain ⟨e1, e2, e3⟩ := hw i hi
  have en : (i : Int).toNat = i := Int.toNat_natCast i
  have er : rowAt r i = r.getD i row0 := by unfold rowAt; rw [en]
  have eo : own1 r i = true := by
    unfold own1 outOf orr
    rw [er, e3]; rfl
  have eb : bounds r i = (w64 (0 - k), k) := by
    unfold bounds bnd
    rw [outOf_nat hi, eo, er, e1, e2]; rfl
  have ew : w64 (0 - k) = -k := by rw [w64_id (by omega) (by omega)]; omega
  have es : solved1 r i s = r.set i ((r.getD i row0).wim (nImG relV bounds mul add sub clamp r i s)) := by
    unfold solved1 sv1G
    rw [outOf_nat hi, er, en]; rfl
  have hc : -k ≤ nImG relV bounds mul add sub clamp r i s ∧ nImG relV bounds mul add sub clamp r i s ≤ k := by
    unfold nImG
    rw [eb, ew]
    exact clamp_le (by omega)
  rw [es]
  constructor
  · intro m hm
    rw [List.length_set] at hm
    rw [getD_set' _ _ _ _ _ hi]
    by_cases e : i = m
    · rw [if_pos e]; exact ⟨e1, e2, e3⟩
    · rw [if_neg e]; exact hw m hm
  · rw [getD_set' _ _ _ _ _ hi, if_pos rfl]; exact hc
end Go.Fx

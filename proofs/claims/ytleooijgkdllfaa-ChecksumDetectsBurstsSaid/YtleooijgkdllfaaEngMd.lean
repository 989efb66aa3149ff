/- THE ENGINE, PART 15: masses: plain models. -/
import Derived.Test.YtleooijgkdllfaaEngShp
namespace Go.Fx
open Go.Eng
section
variable (mul add : Int → Int → Int) (rdiv : Int → Int → Int) (vl : Vec → Int) (lerp : Vec → Vec → Int → Vec) (s : Shp) (d : Int)
def circM : Int := mul (mul 205888 (mul s.radius s.radius)) d
def circG : Md := ⟨circM mul s d, (Shp.v s 0).x, (Shp.v s 0).y, mul (circM mul s d) (rdiv (mul s.radius s.radius) 2)⟩
def capL : Int := vl (vsub (Shp.v s 1) (Shp.v s 0))
def capM : Int := mul (add (mul 205888 (mul s.radius s.radius)) (mul (add s.radius s.radius) (capL vl s))) d
def capG : Md := ⟨capM mul add vl s d, (lerp (Shp.v s 0) (Shp.v s 1) 32768).x, (lerp (Shp.v s 0) (Shp.v s 1) 32768).y, mul (capM mul add vl s d) (add (rdiv (mul s.radius s.radius) 2) (rdiv (mul (capL vl s) (capL vl s)) 12))⟩
end
def circ (s : Shp) (d : Int) : Md := circG mul rdiv s d
def caps (s : Shp) (d : Int) : Md := capG mul add rdiv vlen vlerp s d
def ptm (u v : Vec) : Int := w64 (vcross u v * w64 (w64 (vdot u u + vdot u v) + vdot v v))
def pstep (l : List Vec) (c : Vec) (i : Nat) (x : Int × Int × Vec) : Int × Int × Vec :=
  (w64 (x.1 + ptm x.2.2 (vsub (l.getD i ⟨0, 0⟩) c)), w64 (x.2.1 + vcross x.2.2 (vsub (l.getD i ⟨0, 0⟩) c)), vsub (l.getD i ⟨0, 0⟩) c)
def plast (l : List Vec) : Nat := (w64 ((l.length : Int) - 1)).toNat
def pint (l : List Vec) (c : Vec) : Int × Int × Vec := foldN (pstep l c) l.length 0 (0, 0, vsub (l.getD (plast l) ⟨0, 0⟩) c)
def qstep (l : List Vec) (c : Vec) (i : Nat) (x : Int × Int) : Int × Int :=
  (w64 (x.1 + ptm (vsub (l.getD i ⟨0, 0⟩) c) (vsub (l.getD (nxt l i).toNat ⟨0, 0⟩) c)), w64 (x.2 + vcross (vsub (l.getD i ⟨0, 0⟩) c) (vsub (l.getD (nxt l i).toNat ⟨0, 0⟩) c)))
def qint (l : List Vec) (c : Vec) : Int × Int := foldN (qstep l c) l.length 0 (0, 0)
/-- What the first loop of Combine does: the mass, and three sums. -/
def comb1 (l : List Md) (i : Nat) (x : Int × Int × Int × Int) : Int × Int × Int × Int :=
  (add x.1 (sat (l.getD i ⟨0, 0, 0, 0⟩).m), w64 (x.2.1 + sat (l.getD i ⟨0, 0, 0, 0⟩).m), w64 (x.2.2.1 + w64 (sat (l.getD i ⟨0, 0, 0, 0⟩).m * sat (l.getD i ⟨0, 0, 0, 0⟩).cx)), w64 (x.2.2.2 + w64 (sat (l.getD i ⟨0, 0, 0, 0⟩).m * sat (l.getD i ⟨0, 0, 0, 0⟩).cy)))
def comb2 (l : List Md) (o : Vec) (i : Nat) (t : Int) : Int := add (add t (l.getD i ⟨0, 0, 0, 0⟩).i) (mul (l.getD i ⟨0, 0, 0, 0⟩).m (vdot (vsub ⟨(l.getD i ⟨0, 0, 0, 0⟩).cx, (l.getD i ⟨0, 0, 0, 0⟩).cy⟩ o) (vsub ⟨(l.getD i ⟨0, 0, 0, 0⟩).cx, (l.getD i ⟨0, 0, 0, 0⟩).cy⟩ o)))
def polI (m a b : Int) : Int := bif decide (b < 1) then 0 else mul m (rdiv (rdiv a b) 6)
def polU (s : Shp) (d : Int) : Md :=
  ⟨bif decide ((pint s.vs (cen s.vs)).2.1 < 1) then mul (areaP s.vs) d else mul (areaP s.vs) d, bif decide ((pint s.vs (cen s.vs)).2.1 < 1) then (cen s.vs).x else (cen s.vs).x, bif decide ((pint s.vs (cen s.vs)).2.1 < 1) then (cen s.vs).y else (cen s.vs).y,
    polI (mul (areaP s.vs) d) (pint s.vs (cen s.vs)).1 (pint s.vs (cen s.vs)).2.1⟩
def polM (s : Shp) (d : Int) : Md := ⟨mul (areaP s.vs) d, (cen s.vs).x, (cen s.vs).y, polI (mul (areaP s.vs) d) (pint s.vs (cen s.vs)).1 (pint s.vs (cen s.vs)).2.1⟩
theorem polU_eq (s : Shp) (d : Int) : polU s d = polM s d := by unfold polU polM; cases decide ((pint s.vs (cen s.vs)).2.1 < 1) <;> rfl
def polIR (l : List Vec) (c : Vec) (m : Int) : Int := polI m (qint l c).1 (qint l c).2
theorem last_ok {l : List Vec} (h : 3 ≤ l.length ∧ l.length ≤ 8) : Conj [0 ≤ w64 ((l.length : Int) - 1) ∧ w64 ((l.length : Int) - 1) < (l.length : Int), (l.length : Int) = l.length, (0 : Int) = 0] := by
  refine ⟨?_, rfl, rfl, trivial⟩
  unfold w64; rw [wrap_i64 (by omega) (by omega)]; omega
/-! ### the two sums over a polygon's edges -/
def isum (f : Nat → Int) : Nat → Int
  | 0 => 0
  | k + 1 => isum f k + f k
theorem isum_shift (f : Nat → Int) : ∀ k, isum f (k + 1) = f 0 + isum (fun j => f (j + 1)) k
  | 0 => by simp [isum]
  | k + 1 => by
    have h := isum_shift f k
    have e1 : isum f (k + 1 + 1) = isum f (k + 1) + f (k + 1) := rfl
    have e2 : isum (fun j => f (j + 1)) (k + 1) = isum (fun j => f (j + 1)) k + f (k + 1) := rfl
    omega
theorem isum_congr {f g : Nat → Int} : ∀ k, (∀ j, j < k → f j = g j) → isum f k = isum g k
  | 0, _ => rfl
  | k + 1, h => by simp only [isum]; rw [isum_congr k fun j hj => h j (by omega), h k (by omega)]
theorem foldN_sum (f : Nat → Int) : ∀ (k i : Nat) (x : Int), w64 (foldN (fun i x => w64 (x + f i)) k i x) = w64 (x + (isum f (i + k) - isum f i))
  | 0, i, x => by simp [foldN]
  | k + 1, i, x => by
    simp only [foldN]
    rw [foldN_sum f k (i + 1)]
    have e1 : isum f (i + 1) = isum f i + f i := rfl
    rw [show i + (k + 1) = i + 1 + k by omega]
    simp only [w64_eq]; omega
theorem w64_w64 (x : Int) : w64 (w64 x) = w64 x := by simp only [w64_eq]; omega
theorem foldN_w64 (f : Nat → Int) : ∀ (k i : Nat) (x : Int), w64 x = x → w64 (foldN (fun i x => w64 (x + f i)) k i x) = foldN (fun i x => w64 (x + f i)) k i x
  | 0, _, _, h => h
  | k + 1, i, x, _ => by simp only [foldN]; exact foldN_w64 f k (i + 1) _ (w64_w64 _)
theorem foldN_sum0 (f : Nat → Int) (k : Nat) : foldN (fun i x => w64 (x + f i)) k 0 0 = w64 (isum f k) := by
  rw [← foldN_w64 f k 0 0 rfl, foldN_sum]
  simp [isum]
theorem fold_cyc {f g : Nat → Int} {n : Nat} (h0 : f 0 = g n) (h : ∀ j, j < n → f (j + 1) = g j) : foldN (fun i x => w64 (x + f i)) (n + 1) 0 0 = foldN (fun i x => w64 (x + g i)) (n + 1) 0 0 := by
  rw [foldN_sum0, foldN_sum0, isum_shift, isum_congr n h]
  have e : isum g (n + 1) = isum g n + g n := rfl
  rw [e, h0]; congr 1; omega
def vAt (l : List Vec) (c : Vec) (i : Nat) : Vec := vsub (l.getD i ⟨0, 0⟩) c
def uAt (l : List Vec) (c : Vec) : Nat → Vec
  | 0 => vAt l c (plast l)
  | i + 1 => vAt l c i
theorem pint_fold (l : List Vec) (c : Vec) : ∀ (k i : Nat) (a b : Int), foldN (pstep l c) k i (a, b, uAt l c i) = (foldN (fun i x => w64 (x + ptm (uAt l c i) (vAt l c i))) k i a, foldN (fun i x => w64 (x + vcross (uAt l c i) (vAt l c i))) k i b, uAt l c (i + k))
  | 0, _, _, _ => rfl
  | k + 1, i, a, b => by
    simp only [foldN]
    rw [show pstep l c i (a, b, uAt l c i) = (w64 (a + ptm (uAt l c i) (vAt l c i)), w64 (b + vcross (uAt l c i) (vAt l c i)), uAt l c (i + 1)) from rfl, pint_fold l c k (i + 1), show i + 1 + k = i + (k + 1) by omega]
theorem pint_eq (l : List Vec) (c : Vec) : pint l c = (foldN (fun i x => w64 (x + ptm (uAt l c i) (vAt l c i))) l.length 0 0, foldN (fun i x => w64 (x + vcross (uAt l c i) (vAt l c i))) l.length 0 0, uAt l c (0 + l.length)) := pint_fold l c l.length 0 0 0
theorem qint_eq (l : List Vec) (c : Vec) : qint l c = (foldN (fun i x => w64 (x + ptm (vAt l c i) (vAt l c (nxt l i).toNat))) l.length 0 0, foldN (fun i x => w64 (x + vcross (vAt l c i) (vAt l c (nxt l i).toNat))) l.length 0 0) := by
  unfold qint
  have h1 := foldN_map (f := qstep l c) (g := fun i x => w64 (x + ptm (vAt l c i) (vAt l c (nxt l i).toNat))) (fun x : Int × Int => x.1) l.length 0 (0, 0) (fun _ _ _ _ => rfl)
  have h2 := foldN_map (f := qstep l c) (g := fun i x => w64 (x + vcross (vAt l c i) (vAt l c (nxt l i).toNat))) (fun x : Int × Int => x.2) l.length 0 (0, 0) (fun _ _ _ _ => rfl)
  rw [← h1, ← h2]
theorem nxt_lt {l : List Vec} {i : Nat} (hl : l.length ≤ 8) (h : i + 1 < l.length) : nxt l i = (i : Int) + 1 := by
  unfold nxt w64
  rw [wrap_i64 (by omega) (by omega), Int.tmod_eq_of_lt (by omega) (by omega)]
theorem nxt_last {l : List Vec} {n : Nat} (hl : l.length ≤ 8) (h : l.length = n + 1) : nxt l n = 0 := by
  unfold nxt w64
  rw [wrap_i64 (by omega) (by omega), show (n : Int) + 1 = l.length by omega, Int.tmod_self]
theorem int_eq {l : List Vec} (c : Vec) (hl : 3 ≤ l.length ∧ l.length ≤ 8) : qint l c = ((pint l c).1, (pint l c).2.1) := by
  rw [pint_eq, qint_eq]
  obtain ⟨n, hn⟩ : ∃ n, l.length = n + 1 := ⟨l.length - 1, by omega⟩
  have hp : plast l = n := by unfold plast w64; rw [wrap_i64 (by omega) (by omega)]; omega
  have hu : ∀ j, j < n → uAt l c (j + 1) = vAt l c j ∧ (nxt l j).toNat = j + 1 := fun j hj => ⟨rfl, by rw [nxt_lt hl.2 (by omega)]; omega⟩
  have h0 : uAt l c 0 = vAt l c n ∧ (nxt l n).toNat = 0 := ⟨by show vAt l c (plast l) = _; rw [hp], by rw [nxt_last hl.2 hn]; rfl⟩
  rw [hn]
  refine Prod.ext (Eq.symm ?_) (Eq.symm ?_)
  · exact fold_cyc (by rw [h0.1, h0.2]) fun j hj => by rw [(hu j hj).1, (hu j hj).2]
  · exact fold_cyc (by rw [h0.1, h0.2]) fun j hj => by rw [(hu j hj).1, (hu j hj).2]
/-! ### the masses of shapes -/
def Md.sel (c : Bool) (a b : Md) : Md := ⟨bif c then a.m else b.m, bif c then a.cx else b.cx, bif c then a.cy else b.cy, bif c then a.i else b.i⟩
def md0 : Md := ⟨0, 0, 0, 0⟩
theorem Md.sel_true (a b : Md) : Md.sel true a b = a := rfl
theorem Md.sel_false (a b : Md) : Md.sel false a b = b := rfl
section
variable (sv : Shp → Int) (ci ca po : Shp → Int → Md) (s : Shp) (d : Int)
def ofBad : Bool := orr (orr (sv s != 0) (decide (d < 0))) (decide (d > 262144))
def ofG : Md := Md.sel (ofBad sv s d) md0 (Md.sel (s.kind == 1) (ci s d) (Md.sel (s.kind == 2) (ca s d) (po s d)))
def ofGQ : List Prop := [ofBad sv s d = false → (s.kind == 1) = true → 1 ≤ s.vs.length, ofBad sv s d = false → (s.kind == 1) = false → (s.kind == 2) = true → 2 ≤ s.vs.length, ofBad sv s d = false → (s.kind == 1) = false → (s.kind == 2) = false → 3 ≤ s.vs.length ∧ s.vs.length ≤ 8]
def ofRQ : List Prop := [ofBad sv s d = false → (s.kind == 1) = true → 0 ≤ (0 : Int) ∧ (0 : Int) < (s.vs.length : Int),
  ofBad sv s d = false → (s.kind == 1) = false → (s.kind == 2) = true → 0 ≤ (1 : Int) ∧ (1 : Int) < (s.vs.length : Int), ofBad sv s d = false → (s.kind == 1) = false → (s.kind == 2) = true → 0 ≤ (0 : Int) ∧ (0 : Int) < (s.vs.length : Int),
  ofBad sv s d = false → (s.kind == 1) = false → (s.kind == 2) = true → 0 ≤ (0 : Int) ∧ (0 : Int) < (s.vs.length : Int), ofBad sv s d = false → (s.kind == 1) = false → (s.kind == 2) = true → 0 ≤ (1 : Int) ∧ (1 : Int) < (s.vs.length : Int)]
end
def ofSh (s : Shp) (d : Int) : Md := ofG shErr circ caps polM s d
def polR (mul : Int → Int → Int) (ar : List Vec → Int) (ce : List Vec → Vec) (pi : List Vec → Vec → Int → Int) (s : Shp) (d : Int) : Md := ⟨mul (ar s.vs) d, (ce s.vs).x, (ce s.vs).y, pi s.vs (ce s.vs) (mul (ar s.vs) d)⟩
def ofShR (s : Shp) (d : Int) : Md := ofG shErr circ (capG mul add rdiv vlenR vlerp) (polR mul areaP cen polIR) s d
structure ShOk (s : Shp) : Prop where
  kind : s.kind = 1 ∨ s.kind = 2 ∨ s.kind = 3
  n1 : s.kind = 1 → s.vs.length = 1
  n2 : s.kind = 2 → s.vs.length = 2
  n3 : s.kind = 3 → 3 ≤ s.vs.length ∧ s.vs.length ≤ 8
  far : farAny s.vs = false
  r12 : s.kind ≠ 3 → 2048 ≤ s.radius ∧ s.radius ≤ 524288
  tail : stail vlen cvx shortP areaP s = 0
theorem sh_ok {s : Shp} (h : shErr s = 0) : ShOk s := by
  unfold shErr serrP at h
  cases hk : kindBad s with
  | true => rw [hk] at h; exact absurd (show (10 : Int) = 0 from h) (by decide)
  | false =>
    rw [hk] at h
    cases hv : validN s with
    | false => rw [hv] at h; exact absurd (show (11 : Int) = 0 from h) (by decide)
    | true =>
      rw [hv] at h
      cases hf : farAny s.vs with
      | true => rw [hf] at h; exact absurd (show (6 : Int) = 0 from h) (by decide)
      | false =>
        rw [hf] at h
        cases h3 : rad3 s with
        | true => rw [h3] at h; exact absurd (show (6 : Int) = 0 from h) (by decide)
        | false =>
          rw [h3] at h
          cases h12 : rad12 s with
          | true => rw [h12] at h; exact absurd (show (6 : Int) = 0 from h) (by decide)
          | false =>
            rw [h12] at h
            unfold kindBad at hk
            obtain ⟨k1, k2⟩ := of_orr hk
            have k1 := of_decide_eq_false k1; have k2 := of_decide_eq_false k2
            unfold validN at hv
            refine ⟨by omega, fun e => ?_, fun e => ?_, fun e => ?_, hf, fun e => ?_, h⟩
            · rw [e] at hv; have := eq_of_beq (a := (s.vs.length : Int)) hv; omega
            · rw [e] at hv; have := eq_of_beq (a := (s.vs.length : Int)) hv; omega
            · rw [e] at hv
              obtain ⟨h1, h2⟩ := of_an hv
              have := of_decide_eq_true h1; have := of_decide_eq_true h2; omega
            · unfold rad12 at h12
              rw [show (s.kind != 3) = true by simp [e]] at h12
              obtain ⟨h1, h2⟩ := of_orr (show orr _ _ = false from h12)
              have := of_decide_eq_false h1; have := of_decide_eq_false h2; omega
theorem of_ok {s : Shp} {d : Int} (h : ofBad shErr s d = false) : ShOk s ∧ 0 ≤ d ∧ d ≤ 262144 := by
  unfold ofBad at h
  obtain ⟨h, h3⟩ := of_orr h
  obtain ⟨h1, h2⟩ := of_orr h
  have h2 := of_decide_eq_false h2; have h3 := of_decide_eq_false h3
  refine ⟨sh_ok (by simpa using h1), by omega, by omega⟩
theorem ofGQ_ok (s : Shp) (d : Int) : Conj (ofGQ shErr s d) :=
  ⟨fun h k => by have := (of_ok h).1.n1 (eq_of_beq k); omega, fun h _ k => by have := (of_ok h).1.n2 (eq_of_beq k); omega, fun h k k' => (of_ok h).1.n3 (by have := (of_ok h).1.kind; have k := ne_of_beq_false k; have k' := ne_of_beq_false k'; omega), trivial⟩
theorem ofRQ_ok (s : Shp) (d : Int) : Conj (ofRQ shErr s d) :=
  ⟨fun h k => by have := (of_ok h).1.n1 (eq_of_beq k); omega, fun h _ k => by have := (of_ok h).1.n2 (eq_of_beq k); omega, fun h _ k => by have := (of_ok h).1.n2 (eq_of_beq k); omega, fun h _ k => by have := (of_ok h).1.n2 (eq_of_beq k); omega, fun h _ k => by have := (of_ok h).1.n2 (eq_of_beq k); omega, trivial⟩
theorem capR_eq (s : Shp) (d : Int) : capG mul add rdiv vlenR vlerp s d = caps s d := by
  unfold caps capG capM capL
  rw [vlenR_eq]
theorem ofSh_eq (s : Shp) (d : Int) : ofShR s d = ofSh s d := by
  unfold ofShR ofSh ofG
  rw [capR_eq]
  cases h : ofBad shErr s d with
  | true => rfl
  | false =>
    cases h1 : (s.kind == 1) with
    | true => rfl
    | false =>
      cases h2 : (s.kind == 2) with
      | true => rfl
      | false =>
        have ok := (of_ok h).1
        have k1 := ne_of_beq_false h1; have k2 := ne_of_beq_false h2
        have h3 := ok.n3 (by have := ok.kind; omega)
        show polR mul areaP cen polIR s d = polM s d
        unfold polR polM polIR
        rw [int_eq _ h3]
def mneg (m : Md) : Bool := decide (m.m < 0)
def negIdx (l : List Md) (_ : Unit) : Int := idxF ⟨0, 0, 0, 0⟩ mneg l
def negAny2 (l : List Md) (_ : Unit) : Bool := anyF ⟨0, 0, 0, 0⟩ mneg l
theorem neg_any (l : List Md) (u : Unit) : decide (negIdx l u ≥ 0) = negAny2 l u := idx_any _ _ l
def negAny (l : List Md) : Bool := anyF ⟨0, 0, 0, 0⟩ mneg l
def Fix.sh (f : Fix) : Shp := ⟨f.kind, f.radius, f.vs⟩
def fx0 : Fix := ⟨0, 0, [], 0, 0, 0, false, 0, 0, 0⟩
/-! ### several parts -/
theorem runF_guard {β ε ε' : Type} {p : Nat → Bool} {f : Nat → β → β} {e : ε} {g : Nat → ε'} : ∀ (k i : Nat) (x : β),
    runF (fun i x => bif p i then .inr e else .inl (f i x)) k i x = bif isL (runF (fun i (_ : Unit) => bif p i then .inr (g i) else .inl ()) k i ()) then .inl (foldN f k i x) else .inr e
  | 0, _, _ => rfl
  | k + 1, i, x => by
    simp only [runF, foldN]
    cases h : p i with
    | true => rfl
    | false => exact runF_guard (k := k) (i := i + 1) (x := f i x)
section
variable (c : Bool) (q : Int × Int × Int × Int) (rdiv : Int → Int → Int) (fold : Vec → Int)
def combOf : Md := Md.sel (decide (q.2.1 > 0)) ⟨q.1, rdiv q.2.2.1 q.2.1, rdiv q.2.2.2 q.2.1, fold ⟨rdiv q.2.2.1 q.2.1, rdiv q.2.2.2 q.2.1⟩⟩ ⟨q.1, 0, 0, fold ⟨0, 0⟩⟩
end
def combS (l : List Md) : Int × Int × Int × Int := foldN (comb1 l) l.length 0 (0, 0, 0, 0)
def combI (l : List Md) (o : Vec) : Int := foldN (comb2 l o) l.length 0 0
def combBad (l : List Md) : Bool := orr (decide ((l.length : Int) > 8)) (negAny l)
def comb (l : List Md) : Md := Md.sel (combBad l) md0 (combOf (combS l) rdiv (combI l))
def combRun (l : List Md) : Sum (Int × Int × Int × Int) Unit := runF (fun i x => bif mneg (l.getD i md0) then .inr () else .inl (comb1 l i x)) l.length 0 (0, 0, 0, 0)
def combR (l : List Md) : Md := Md.sel (decide ((l.length : Int) > 8)) md0 (Md.sel (isL (combRun l)) (combOf (getL (0, 0, 0, 0) (combRun l)) rdiv (combI l)) md0)
theorem combRun_eq (l : List Md) : combRun l = bif !negAny l then .inl (combS l) else .inr () := by
  unfold combRun
  rw [runF_guard (p := fun i => mneg (l.getD i md0)) (f := comb1 l) (g := fun i => (i : Int))]
  unfold negAny anyF
  rw [Bool.not_not]
  rfl
theorem comb_eq (l : List Md) : combR l = comb l := by
  unfold combR comb combBad
  rw [combRun_eq]
  cases decide ((l.length : Int) > 8) <;> cases negAny l <;> rfl
def combQ (l : List Md) : List Prop := [combBad l = false → l = l, combBad l = false → (l.length : Int) = l.length, combBad l = false → (0 : Int) = 0, combBad l = false → decide ((combS l).2.1 > 0) = true → (l.length : Int) = l.length, combBad l = false → decide ((combS l).2.1 > 0) = true → (0 : Int) = 0, combBad l = false → decide ((combS l).2.1 > 0) = false → (l.length : Int) = l.length, combBad l = false → decide ((combS l).2.1 > 0) = false → (0 : Int) = 0]
theorem combQ_ok (l : List Md) : Conj (combQ l) := ⟨fun _ => rfl, fun _ => rfl, fun _ => rfl, fun _ _ => rfl, fun _ _ => rfl, fun _ _ => rfl, fun _ _ => rfl, trivial⟩
def combRQ (l : List Md) : List Prop := [decide ((l.length : Int) > 8) = false → (0 : Int) = 0, decide ((l.length : Int) > 8) = false → isL (combRun l) = true → decide ((getL (0, 0, 0, 0) (combRun l)).2.1 > 0) = true → (0 : Int) = 0, decide ((l.length : Int) > 8) = false → isL (combRun l) = true → decide ((getL (0, 0, 0, 0) (combRun l)).2.1 > 0) = false → (0 : Int) = 0]
theorem combRQ_ok (l : List Md) : Conj (combRQ l) := ⟨fun _ => rfl, fun _ _ _ => rfl, fun _ _ _ => rfl, trivial⟩
def ofsS (l : List Fix) (i : Nat) (tr : List Md) : List Md := bif !(l.getD i fx0).sen then tr ++ [ofSh (l.getD i fx0).sh (l.getD i fx0).den] else tr
def ofFix (l : List Fix) : Md := Md.sel (decide ((l.length : Int) > 4)) md0 (comb (foldN (ofsS l) l.length 0 []))
def ofFixQ (l : List Fix) : List Prop := [decide ((l.length : Int) > 4) = false → ([] : List Md) = [], decide ((l.length : Int) > 4) = false → (l.length : Int) = l.length, decide ((l.length : Int) > 4) = false → (0 : Int) = 0, decide ((l.length : Int) > 4) = false → l.length ≤ 8]
theorem ofFixQ_ok (l : List Fix) : Conj (ofFixQ l) := ⟨fun _ => rfl, fun _ => rfl, fun _ => rfl, fun h => by have := of_decide_eq_false h; omega, trivial⟩
def ofFixRQ (l : List Fix) : List Prop := [decide ((l.length : Int) > 4) = false → ([] : List Md) = [], decide ((l.length : Int) > 4) = false → (0 : Int) = 0, decide ((l.length : Int) > 4) = false → l.length ≤ 8]
theorem ofFixRQ_ok (l : List Fix) : Conj (ofFixRQ l) := ⟨fun _ => rfl, fun _ => rfl, fun h => by have := of_decide_eq_false h; omega, trivial⟩
def inv (m : Md) (k : Int) (b : Bool) : Int × Int := (bif k != 3 then 0 else bif decide (m.m > 0) then div 65536 m.m else 65536, bif k != 3 then 0 else bif an (decide (m.i > 0)) (!b) then div 65536 m.i else 0)
section
variable (c1 c2 : Bool) (m : Md) (k : Int)
def invG : Int × Int := (bif k != 3 then 0 else bif c1 then bif c2 then div 65536 m.m else div 65536 m.m else bif c2 then 65536 else 65536, bif k != 3 then 0 else bif c1 then bif c2 then div 65536 m.i else 0 else bif c2 then div 65536 m.i else 0)
theorem invG_eq : invG c1 c2 m k = (bif k != 3 then 0 else bif c1 then div 65536 m.m else 65536, bif k != 3 then 0 else bif c2 then div 65536 m.i else 0) := by unfold invG; cases c1 <;> cases c2 <;> rfl
end
def invU (m : Md) (k : Int) (b : Bool) : Int × Int := invG (decide (m.m > 0)) (an (decide (m.i > 0)) (!b)) m k
def invR (m : Md) (k : Int) (b : Bool) : Int × Int := invG (decide (m.m ≥ 1)) (an (!b) (decide (m.i ≥ 1))) m k
theorem invU_eq (m : Md) (k : Int) (b : Bool) : invU m k b = inv m k b := invG_eq _ _ _ _
theorem an_comm (a b : Bool) : an a b = an b a := by cases a <;> cases b <;> rfl
theorem invR_eq (m : Md) (k : Int) (b : Bool) : invR m k b = inv m k b := by
  unfold invR
  rw [invG_eq, an_comm, show decide (m.m ≥ 1) = decide (m.m > 0) from rfl, show decide (m.i ≥ 1) = decide (m.i > 0) from rfl]
  rfl
def Md.eqb (a b : Md) : Bool := a.m == b.m && ((a.cx == b.cx && (a.cy == b.cy && true)) && (a.i == b.i && true))
theorem Md.eqb_self (a : Md) : a.eqb a = true := by simp [Md.eqb]
theorem Md.eqb_of {a b : Md} (h : a = b) : a.eqb b = true := by rw [h]; exact b.eqb_self
theorem rnat_nn {m d : Int} (hm : 0 ≤ m) (hd : 1 ≤ d) : 0 ≤ rnat m d := (rnat_spec hm hd).1
theorem rdiv_nonneg {n d : Int} (h : 0 ≤ n) : 0 ≤ rdiv n d := by
  unfold rdiv
  split
  · exact Int.le_refl _
  · rename_i hb
    rw [if_neg (by omega)]
    exact rnat_nn h (by unfold badDiv at hb; omega)
theorem sat_nn {x : Int} (h : 0 ≤ x) : 0 ≤ sat x := by
  unfold sat
  repeat' split
  all_goals omega
theorem div_nn {a b : Int} (ha : 0 ≤ a) (hb : 0 ≤ b) : 0 ≤ div a b := by
  have h1 := sat_nn ha; have h2 := sat_nn hb
  unfold div
  split
  · split
    · omega
    · rw [if_neg (by omega)]; exact Int.le_refl _
  · rw [if_neg (by omega)]
    exact sat_nn (rdiv_nonneg (by omega))
theorem inv_nn (m : Md) (k : Int) (b : Bool) : 0 ≤ (inv m k b).1 ∧ 0 ≤ (inv m k b).2 := by
  unfold inv
  constructor
  · show 0 ≤ bif k != 3 then (0 : Int) else _
    cases (k != 3)
    · by_cases h : m.m > 0
      · rw [decide_eq_true h]; exact div_nn (by omega) (by omega)
      · rw [decide_eq_false h]; exact (by decide : (0 : Int) ≤ 65536)
    · exact Int.le_refl _
  · show 0 ≤ bif k != 3 then (0 : Int) else _
    cases (k != 3)
    · cases h : an (decide (m.i > 0)) (!b) with
      | false => exact Int.le_refl _
      | true => have := of_decide_eq_true (of_an h).1; exact div_nn (by omega) (by omega)
    · exact Int.le_refl _
def invLaw (m : Md) (k : Int) (b : Bool) : Bool :=
  an (an (an (an (an ((inv m k b).1 == (inv m k b).1) ((inv m k b).2 == (inv m k b).2)) (decide ((inv m k b).1 ≥ 0))) (decide ((inv m k b).2 ≥ 0))) (orr (k == 3) (an ((inv m k b).1 == 0) ((inv m k b).2 == 0)))) true
theorem invLaw_true (m : Md) (k : Int) (b : Bool) : invLaw m k b = true := by
  have h := inv_nn m k b
  refine an_true (an_true (an_true (an_true (an_true (beq_self_eq_true _) (beq_self_eq_true _)) (decide_eq_true h.1)) (decide_eq_true h.2)) ?_) rfl
  by_cases hk : k = 3
  · simp [orr, hk]
  · have : (k != 3) = true := by simp [hk]
    unfold inv
    rw [this]; simp [orr, an]
/-! ### the mass of several parts -/
theorem isL_all {ε : Type} {p : Nat → Bool} {e : Nat → ε} : ∀ (k i : Nat), (∀ j, i ≤ j → j < i + k → p j = false) → isL (runF (fun i (_ : Unit) => bif p i then .inr (e i) else .inl ()) k i ()) = true
  | 0, _, _ => rfl
  | k + 1, i, h => by
    simp only [runF]
    rw [h i (Nat.le_refl _) (by omega)]
    exact isL_all k (i + 1) fun j h1 h2 => h j (by omega) (by omega)
theorem isL_get {ε : Type} {p : Nat → Bool} {e : Nat → ε} {k i : Nat} (h : isL (runF (fun i (_ : Unit) => bif p i then .inr (e i) else .inl ()) k i ()) = true) : ∀ j, i ≤ j → j < i + k → p j = false := by
  refine runF_isL (P := fun j => p j = false) (fun i x ⟨y, hy⟩ => ?_) _ _ _ h
  cases hp : p i with
  | false => rfl
  | true => rw [hp] at hy; cases hy
theorem combS_m (l : List Md) : (combS l).1 = foldN (fun i g => add g (sat (l.getD i md0).m)) l.length 0 0 := by
  unfold combS
  exact foldN_map (f := comb1 l) (g := fun i g => add g (sat (l.getD i md0).m)) (fun x : Int × Int × Int × Int => x.1) l.length 0 (0, 0, 0, 0) (fun _ _ _ _ => rfl)
theorem combOf_m (q : Int × Int × Int × Int) (rdiv : Int → Int → Int) (fold : Vec → Int) : (combOf q rdiv fold).m = q.1 := by
  unfold combOf
  cases decide (q.2.1 > 0) <;> rfl
theorem add_up {g m : Int} (h : 0 ≤ g ∧ g ≤ 536870911) (h2 : 0 ≤ m ∧ m ≤ 536870911) : 0 ≤ add g m ∧ add g m ≤ 536870911 ∧ g ≤ add g m ∧ m ≤ add g m := by
  unfold add
  rw [sat_id (x := g) (by omega) (by omega), sat_id (x := m) (by omega) (by omega)]
  unfold sat
  repeat' split
  all_goals omega
theorem combS_up {l : List Md} (h : ∀ j, j < l.length → 0 ≤ (l.getD j md0).m ∧ (l.getD j md0).m ≤ 536870911) : ∀ j, j < l.length → (l.getD j md0).m ≤ (combS l).1 := by
  rw [combS_m]
  have := foldN_inv (f := fun i g => add g (sat (l.getD i md0).m)) (fun i g => (0 ≤ g ∧ g ≤ 536870911) ∧ ∀ j, j < i → (l.getD j md0).m ≤ g) l.length 0 0 ⟨by omega, fun j hj => by omega⟩ (fun j g _ hj hp => by
    have hm := h j (by omega)
    show (0 ≤ add g (sat (l.getD j md0).m) ∧ add g (sat (l.getD j md0).m) ≤ 536870911) ∧ ∀ i, i < j + 1 → (l.getD i md0).m ≤ add g (sat (l.getD j md0).m)
    rw [sat_id (x := (l.getD j md0).m) (by omega) (by omega)]
    have hu := add_up hp.1 hm
    refine ⟨⟨hu.1, hu.2.1⟩, fun i hi => ?_⟩
    by_cases e : i = j
    · subst e; exact hu.2.2.2
    · exact Int.le_trans (hp.2 i (by omega)) hu.2.2.1)
  rw [Nat.zero_add] at this
  exact this.2
def lowOk (l : List Md) : Bool := isL (runF (fun i (_ : Unit) => bif orr (decide ((l.getD i md0).m < 0)) (decide ((l.getD i md0).m > 536870911)) then Sum.inr () else Sum.inl ()) l.length 0 ())
def lowAll (l : List Md) (h : Md) : Bool := isL (runF (fun i (_ : Unit) => bif decide (h.m < (l.getD i md0).m) then Sum.inr () else Sum.inl ()) l.length 0 ())
def lowG (comb : List Md → Md) (l : List Md) (m : Md) : Bool := bif decide ((l.length : Int) > 8) then true else bif lowOk l then (bif lowAll l (comb l) then (bif an (an (decide (m.m ≥ 0)) (decide (m.m ≤ 536870911))) ((comb [m]).m != m.m) then false else an ((comb []).eqb md0) true) else false) else true
def lowQ (l : List Md) : List Prop := [decide ((l.length : Int) > 8) = false → false = false, decide ((l.length : Int) > 8) = false → (0 : Int) = 0, decide ((l.length : Int) > 8) = false → lowOk l = true → false = false, decide ((l.length : Int) > 8) = false → lowOk l = true → (0 : Int) = 0]
theorem lowQ_ok (l : List Md) : Conj (lowQ l) := ⟨fun _ => rfl, fun _ => rfl, fun _ _ => rfl, fun _ _ => rfl, trivial⟩
theorem negAny_get {l : List Md} (h : ∀ j, j < l.length → 0 ≤ (l.getD j md0).m) : negAny l = false := by
  unfold negAny anyF idxRun
  have h1 : isL (runF (fun i (_ : Unit) => bif mneg (l.getD i ⟨0, 0, 0, 0⟩) then .inr (i : Int) else .inl ()) l.length 0 ()) = true := isL_all (p := fun i => mneg (l.getD i ⟨0, 0, 0, 0⟩)) (e := fun i => (i : Int)) _ _ fun j _ hj =>
    decide_eq_false (by have : 0 ≤ (l.getD j ⟨0, 0, 0, 0⟩).m := h j (by omega); omega)
  rw [h1]; rfl
theorem low_true (l : List Md) (m : Md) : lowG comb l m = true := by
  unfold lowG
  by_cases hl : (l.length : Int) > 8
  · rw [decide_eq_true hl]; rfl
  rw [decide_eq_false hl]
  cases h1 : lowOk l with
  | false => rfl
  | true =>
    have hm : ∀ j, j < l.length → 0 ≤ (l.getD j md0).m ∧ (l.getD j md0).m ≤ 536870911 := fun j hj => by
      have := isL_get (p := fun i => orr (decide ((l.getD i md0).m < 0)) (decide ((l.getD i md0).m > 536870911))) (e := fun _ => ()) h1 j (Nat.zero_le _) (by omega)
      obtain ⟨h2, h3⟩ := of_orr this
      have := of_decide_eq_false h2; have := of_decide_eq_false h3; omega
    have hb : combBad l = false := by
      unfold combBad
      rw [decide_eq_false hl, negAny_get fun j hj => (hm j hj).1]; rfl
    have hc : (comb l).m = (combS l).1 := by
      unfold comb
      rw [hb]
      show (combOf (combS l) rdiv (combI l)).m = _
      exact combOf_m _ _ _
    have h2 : lowAll l (comb l) = true := isL_all (p := fun i => decide ((comb l).m < (l.getD i md0).m)) (e := fun _ => ()) _ _ fun j _ hj => decide_eq_false (by have := combS_up hm j (by omega); rw [hc]; omega)
    rw [h2]
    have h3 : an (an (decide (m.m ≥ 0)) (decide (m.m ≤ 536870911))) ((comb [m]).m != m.m) = false := by
      by_cases h4 : m.m ≥ 0
      · by_cases h5 : m.m ≤ 536870911
        · have hb : combBad [m] = false := by
            unfold combBad
            rw [negAny_get (fun j hj => by
              have : j = 0 := by simp at hj; omega
              subst this; exact h4)]
            rfl
          have hc : (comb [m]).m = m.m := by
            unfold comb
            rw [hb]
            show (combOf (combS [m]) rdiv (combI [m])).m = _
            rw [combOf_m, combS_m]
            show add 0 (sat m.m) = m.m
            unfold add
            rw [sat_sat, show sat 0 = 0 from rfl, Int.zero_add, sat_sat, sat_id (by omega) h5]
          rw [hc]; simp [an]
        · simp [an, h5]
      · simp [an, h4]
    rw [h3]
    rfl
def fixOk (l : List Fix) : Bool := isL (runF (fun i (_ : Unit) => bif decide (((l.getD i fx0).vs.length : Int) > 20) then Sum.inr () else Sum.inl ()) l.length 0 ())
def fixU (l : List Fix) (k : Int) (b : Bool) : Bool := bif decide ((l.length : Int) > 8) then true else bif fixOk l then an (an (an ((ofFix l).eqb (ofFix l)) ((inv (ofFix l) k b).1 == (inv (ofFix l) k b).1)) ((inv (ofFix l) k b).2 == (inv (ofFix l) k b).2)) true else true
theorem fixU_true (l : List Fix) (k : Int) (b : Bool) : fixU l k b = true := by
  unfold fixU
  rw [an_true (an_true (an_true (Md.eqb_self _) (beq_self_eq_true _)) (beq_self_eq_true _)) rfl]
  cases decide ((l.length : Int) > 8) <;> cases fixOk l <;> rfl
def sqr : Shp := ⟨3, 0, [⟨0, 0⟩, ⟨65536, 0⟩, ⟨65536, 65536⟩, ⟨0, 65536⟩]⟩
end Go.Fx
namespace Go.Eng
/-- A new shape, returned. -/
def eShN : Enc Shp := ⟨fun _ => none, fun s => .fv (.agg [.int .i64 s.kind, .int .i64 s.radius, .slc true ⟨.vec, s.vs⟩]), fun _ _ h => nomatch h⟩
section
variable {P : Program}
theorem args_Sh {D : Nat} {t : TypeId} {ts : List TypeId} {vs : List PV} (ha : isAggT P t = true) (hl : leafs P D t = shC.lfs) (h : ArgsAre P D (t :: ts) vs) : ∃ v rest, vs = eSh.pv v :: rest ∧ ArgsAre P D ts rest := args_enc shC shF shG shFG ha hl h
theorem args_Md {D : Nat} {t : TypeId} {ts : List TypeId} {vs : List PV} (ha : isAggT P t = true) (hl : leafs P D t = mdC.lfs) (h : ArgsAre P D (t :: ts) vs) : ∃ v rest, vs = eMd.pv v :: rest ∧ ArgsAre P D ts rest := args_enc mdC mdF mdG mdFG ha hl h
theorem args_Slmd {D : Nat} {t : TypeId} {ts : List TypeId} {vs : List PV} (ha : isAggT P t = false) (hl : leafs P D t = [.slc .md]) (h : ArgsAre P D (t :: ts) vs) : ∃ (v : List Fx.Md) (rest : _), vs = (eSl .md).pv v :: rest ∧ ArgsAre P D ts rest := by
  obtain ⟨l, r, h1, _, h2⟩ := args_Sl .md ha hl h
  exact ⟨l, r, h1, h2⟩
theorem args_Slfix {D : Nat} {t : TypeId} {ts : List TypeId} {vs : List PV} (ha : isAggT P t = false) (hl : leafs P D t = [.slc .fix]) (h : ArgsAre P D (t :: ts) vs) : ∃ (v : List Fx.Fix) (rest : _), vs = (eSl .fix).pv v :: rest ∧ ArgsAre P D ts rest := by
  obtain ⟨l, r, h1, _, h2⟩ := args_Sl .fix ha hl h
  exact ⟨l, r, h1, h2⟩
theorem args_Slvec {D : Nat} {t : TypeId} {ts : List TypeId} {vs : List PV} (ha : isAggT P t = false) (hl : leafs P D t = [.slc .vec]) (h : ArgsAre P D (t :: ts) vs) : ∃ (v : List Fx.Vec) (rest : _), vs = (eSl .vec).pv v :: rest ∧ ArgsAre P D ts rest := by
  obtain ⟨l, r, h1, _, h2⟩ := args_Sl .vec ha hl h
  exact ⟨l, r, h1, h2⟩
end
end Go.Eng

/- THE ENGINE, PART 9: contracts of functions on numbers. -/
import Derived.Test.YtleooijgkdllfaaEngFx
namespace Go.Eng
open Go

@[match_pattern] abbrev I (x : Int) : PV := .fv (.one (.int .i64 x))
@[match_pattern] abbrev Bo (x : Bool) : PV := .fv (.one (.bool x))
@[match_pattern] abbrev V2 (x y : Int) : PV := .fv (.agg [.int .i64 x, .int .i64 y])

def f1 (f : Int → Int) : Contract := fun | [I a] => some ([], I (f a)) | _ => none
def f2 (f : Int → Int → Int) : Contract := fun | [I a, I b] => some ([], I (f a b)) | _ => none
def f3 (f : Int → Int → Int → Int) : Contract := fun | [I a, I b, I c] => some ([], I (f a b c)) | _ => none
def b1 (f : Int → Bool) : Contract := fun | [I a] => some ([], Bo (f a)) | _ => none

section
variable {P : Program} {ctrs : FuncId → Option Contract} {lps : Nat → St → Tree} {f : FuncId} {fn : Func}

/-- A contract out of the symbolic run, where the run needs something. -/
theorem con (hm : P.follows .mixedOrders = true) {l : List (FuncId × Contract)} (hC : AllSound P l) (hf : P.funcs[f]? = some fn) (hb : fn.body.isSome = true) (hcall : callable P f = true)
    (hL : ∀ b ∈ loopsOf (fn.body.getD .skip), LoopOk P (lps (firstRegion b)) b) {C : Contract}
    (h : ∀ args ps r, C args = some (ps, r) → Conj ps → ∃ qs, symFn P (tbl l) lps f args = some (qs, r) ∧ Conj qs) : Sound P f C := contract hm hC.tbl hf hb hcall hL h

theorem con1 {F : Int → Int} (Q : Int → List Prop) (U : Int → Int) (hq : ∀ x, Conj (Q x)) (hU : ∀ x, U x = F x) (h : ∀ x, symFn P ctrs lps f [I x] = some (Q x, I (U x))) :
    ∀ args ps r, f1 F args = some (ps, r) → Conj ps → ∃ qs, symFn P ctrs lps f args = some (qs, r) ∧ Conj qs := by
  intro args ps r e _
  unfold f1 at e
  split at e
  · cases e; exact ⟨_, (h _).trans (by rw [hU]), hq _⟩
  · cases e
theorem con2 {F : Int → Int → Int} (Q : Int → Int → List Prop) (U : Int → Int → Int) (hq : ∀ x y, Conj (Q x y)) (hU : ∀ x y, U x y = F x y) (h : ∀ x y, symFn P ctrs lps f [I x, I y] = some (Q x y, I (U x y))) :
    ∀ args ps r, f2 F args = some (ps, r) → Conj ps → ∃ qs, symFn P ctrs lps f args = some (qs, r) ∧ Conj qs := by
  intro args ps r e _
  unfold f2 at e
  split at e
  · cases e; exact ⟨_, (h _ _).trans (by rw [hU]), hq _ _⟩
  · cases e
theorem con3 {F : Int → Int → Int → Int} (Q : Int → Int → Int → List Prop) (U : Int → Int → Int → Int) (hq : ∀ x y z, Conj (Q x y z)) (hU : ∀ x y z, U x y z = F x y z) (h : ∀ x y z, symFn P ctrs lps f [I x, I y, I z] = some (Q x y z, I (U x y z))) :
    ∀ args ps r, f3 F args = some (ps, r) → Conj ps → ∃ qs, symFn P ctrs lps f args = some (qs, r) ∧ Conj qs := by
  intro args ps r e _
  unfold f3 at e
  split at e
  · cases e; exact ⟨_, (h _ _ _).trans (by rw [hU]), hq _ _ _⟩
  · cases e
theorem conB {F : Int → Bool} (Q : Int → List Prop) (U : Int → Bool) (hq : ∀ x, Conj (Q x)) (hU : ∀ x, U x = F x) (h : ∀ x, symFn P ctrs lps f [I x] = some (Q x, Bo (U x))) :
    ∀ args ps r, b1 F args = some (ps, r) → Conj ps → ∃ qs, symFn P ctrs lps f args = some (qs, r) ∧ Conj qs := by
  intro args ps r e _
  unfold b1 at e
  split at e
  · cases e; exact ⟨_, (h _).trans (by rw [hU]), hq _⟩
  · cases e
theorem sure1 (_ : Int) : Conj [] := trivial
theorem sure2 (_ _ : Int) : Conj [] := trivial
theorem sure3 (_ _ _ : Int) : Conj [] := trivial

/-! ### what the arguments of a law are -/

theorem args_int {D : Nat} {t : TypeId} {k : IntKind} {ts : List TypeId} {vs : List PV} (hu : P.underlying t = some (.int k)) (ha : isAggT P t = false) (h : ArgsAre P (D + 1) (t :: ts) vs) :
    ∃ n rest, vs = .fv (.one (.int k n)) :: rest ∧ k.min ≤ n ∧ n ≤ k.max ∧ ArgsAre P (D + 1) ts rest := by
  cases h with
  | cons hs hr =>
    simp only [leafs, hu] at hs
    obtain ⟨_, _, rfl, ⟨n, rfl, h1, h2⟩, rfl⟩ := hs
    refine ⟨n, _, ?_, h1, h2, hr⟩
    unfold ofCells
    rw [ha]; rfl
theorem args_bool {D : Nat} {t : TypeId} {ts : List TypeId} {vs : List PV} (hu : P.underlying t = some .bool) (ha : isAggT P t = false) (h : ArgsAre P (D + 1) (t :: ts) vs) :
    ∃ b rest, vs = .fv (.one (.bool b)) :: rest ∧ ArgsAre P (D + 1) ts rest := by
  cases h with
  | cons hs hr =>
    simp only [leafs, hu] at hs
    obtain ⟨_, _, rfl, ⟨b, rfl⟩, rfl⟩ := hs
    refine ⟨b, _, ?_, hr⟩
    unfold ofCells
    rw [ha]; rfl
theorem args_nil {D : Nat} {vs : List PV} (h : ArgsAre P D [] vs) : vs = [] := by cases h; rfl

/-! ### the loops of the integer square roots -/

def isqTs (n : Int) (x : Nat × Int) : List TV := [.val (I n), .val (I x.2), .val (I (Fx.bitv x.1))]

/-- What a loop over the bits of a root comes to. -/
def isqTree (sz : Nat) (σ : St) : Tree :=
  match σ.sz == sz, σ.tmps 0, σ.tmps 3, σ.tmps 4 with
  | true, .val (I n), .val (I r), .val (I b) => .pre [r = 0, b = 2147483648, 0 ≤ n ∧ n ≤ 4611686018427387904] (.leaf (.exit 0) (headSt sz 0 [0, 3, 4] [] (isqTs n (0, Fx.isqF 32 n 0)) []))
  | _, _, _, _ => .fail

def isqVT (n r : Int) (k : Nat) : VT :=
  VT.ite (decide (Fx.bitv k > 0))
    (VT.ite (decide (IntKind.u64.wrap (IntKind.u64.wrap (IntKind.i64.wrap ↑(BitVec.ofInt IntKind.i64.bits r ||| BitVec.ofInt IntKind.i64.bits (Fx.bitv k)).toNat) * IntKind.u64.wrap (IntKind.i64.wrap ↑(BitVec.ofInt IntKind.i64.bits r ||| BitVec.ofInt IntKind.i64.bits (Fx.bitv k)).toNat)) ≤ IntKind.u64.wrap n))
      (VT.leaf Ex.norm 29 [.val (I n), .val (I (IntKind.i64.wrap ↑(BitVec.ofInt IntKind.i64.bits r ||| BitVec.ofInt IntKind.i64.bits (Fx.bitv k)).toNat)), .val (I ((Fx.bitv k).fdiv (2 ^ min (Int.toNat 1) IntKind.i64.bits)))] [])
      (VT.leaf Ex.norm 29 [.val (I n), .val (I r), .val (I ((Fx.bitv k).fdiv (2 ^ min (Int.toNat 1) IntKind.i64.bits)))] []))
    (VT.leaf (Ex.exit 0) 29 [.val (I n), .val (I r), .val (I (Fx.bitv k))] [])

def isqVR (n r : Int) (k : Nat) : VT :=
  VT.ite (decide (Fx.bitv k > 0))
    (VT.pre [IntKind.i64.wrap (r + Fx.bitv k) ≠ 0]
      (VT.ite (decide (IntKind.i64.wrap (r + Fx.bitv k) ≤ IntKind.i64.wrap (n.tdiv (IntKind.i64.wrap (r + Fx.bitv k)))))
        (VT.leaf Ex.norm 28 [.val (I n), .val (I (IntKind.i64.wrap (r + Fx.bitv k))), .val (I (IntKind.i64.wrap ((Fx.bitv k).tdiv 2)))] [])
        (VT.leaf Ex.norm 28 [.val (I n), .val (I r), .val (I (IntKind.i64.wrap ((Fx.bitv k).tdiv 2)))] [])))
    (VT.leaf (Ex.exit 0) 28 [.val (I n), .val (I r), .val (I (Fx.bitv k))] [])

theorem isq_bit {k : Nat} (h : decide (Fx.bitv k > 0) = true) : ∃ j, k = j + 1 := by
  cases k with
  | zero => simp [Fx.bitv] at h
  | succ k => exact ⟨k, rfl⟩

theorem isq_end {k : Nat} (h : decide (Fx.bitv k > 0) = false) : k = 0 := by
  cases k with
  | zero => rfl
  | succ k => have := Fx.bitv_pos k; simp at h; omega

/-- A loop over the bits of a root: it is enough to look at one round. -/
theorem isq_loop (hm : P.follows .mixedOrders = true) (hC : ∀ f C, ctrs f = some C → Sound P f C) {sz : Nat} {body : Code} (hno : loopsOf body = []) {V : Int → Int → Nat → VT}
    (hV : ∀ n r k, viewT [0, 3, 4] [] (sexec P ctrs (fun _ _ => .fail) body (headSt sz 0 [0, 3, 4] [] (isqTs n (k, r)) [])) = V n r k)
    (hsat : ∀ n r k (K : Ex → St → Prop), 0 ≤ n → n ≤ 4611686018427387904 → Fx.IsqInv n (k, r) → K (.exit 0) (headSt sz 0 [0, 3, 4] [] (isqTs n (0, Fx.isqF 32 n 0)) []) →
      (V n r k).Sat (VRound sz 0 [0, 3, 4] [] [] (isqTs n) (fun _ => []) (Fx.IsqInv n) (fun x => x.1) K (k, r))) : LoopOk P (isqTree sz) body := by
  intro we K σ a w hs hr
  unfold isqTree at hs
  split at hs
  · rename_i n r b hsz h0 h3 h4
    obtain ⟨⟨rfl, rfl, ⟨hn0, hn1⟩, _⟩, hk⟩ := hs
    have hz : σ.sz = sz := eq_of_beq hsz
    exact loop_view hm hC (noLoops hno) sz 0 [0, 3, 4] [] [] (isqTs n) (fun _ => []) (Fx.IsqInv n) (fun x => x.1) (fun x hx => ⟨_, hV n x.2 x.1, hsat n x.2 x.1 K hn0 hn1 hx hk⟩)
      (32, 0) (Fx.IsqInv.start n) (Fit.weak (ids := []) (rl := []) hz ⟨⟨.inr (by rw [h0]; rfl), .inr (by rw [h3]; rfl), .inr (by rw [h4]; rfl), trivial⟩, trivial, rfl, rfl, rfl⟩) hr
  · exact hs.elim

theorem isq_leave {sz : Nat} {n r : Int} {K : Ex → St → Prop} (hi : Fx.IsqInv n (0, r)) (hk : K (.exit 0) (headSt sz 0 [0, 3, 4] [] (isqTs n (0, Fx.isqF 32 n 0)) [])) :
    (VT.leaf (Ex.exit 0) sz [.val (I n), .val (I r), .val (I (Fx.bitv 0))] []).Sat (VRound sz 0 [0, 3, 4] [] [] (isqTs n) (fun _ => []) (Fx.IsqInv n) (fun x => x.1) K (0, r)) := by
  have he := hi.e
  simp only [Fx.isqF] at he
  refine ⟨rfl, [], isqTs n (0, r), [], ⟨⟨.inr rfl, .inr rfl, .inr rfl, trivial⟩, trivial, rfl, rfl, rfl⟩, ?_⟩
  rw [he]; exact hk

theorem isq_next {sz : Nat} {n r r' : Int} {k : Nat} {K : Ex → St → Prop} (hi : Fx.IsqInv n (k, r')) :
    (VT.leaf Ex.norm sz [.val (I n), .val (I r'), .val (I (Fx.bitv k))] []).Sat (VRound sz 0 [0, 3, 4] [] [] (isqTs n) (fun _ => []) (Fx.IsqInv n) (fun x => x.1) K (k + 1, r)) :=
  ⟨rfl, (k, r'), [], hi, Nat.lt_succ_self k, ⟨.inr rfl, .inr rfl, .inr rfl, trivial⟩, trivial, rfl, rfl, rfl⟩

theorem isqVT_sat (n r : Int) (k : Nat) (K : Ex → St → Prop) (h0 : 0 ≤ n) (h1 : n ≤ 4611686018427387904) (hi : Fx.IsqInv n (k, r)) (hk : K (.exit 0) (headSt 29 0 [0, 3, 4] [] (isqTs n (0, Fx.isqF 32 n 0)) [])) :
    (isqVT n r k).Sat (VRound 29 0 [0, 3, 4] [] [] (isqTs n) (fun _ => []) (Fx.IsqInv n) (fun x => x.1) K (k, r)) := by
  refine ⟨fun hb => ?_, fun hb => ?_⟩
  · obtain ⟨j, rfl⟩ := isq_bit hb
    obtain ⟨t1, t2⟩ := hi.test h0 h1
    rw [t1, Fx.bitv_shr]
    refine ⟨fun hc => ?_, fun hc => ?_⟩
    · exact isq_next (hi.yes (t2.1 (of_decide_eq_true hc)))
    · exact isq_next (hi.no fun h => of_decide_eq_false hc (t2.2 h))
  · have := isq_end hb; subst this
    exact isq_leave hi hk

theorem isqVR_sat (n r : Int) (k : Nat) (K : Ex → St → Prop) (h0 : 0 ≤ n) (h1 : n ≤ 4611686018427387904) (hi : Fx.IsqInv n (k, r)) (hk : K (.exit 0) (headSt 28 0 [0, 3, 4] [] (isqTs n (0, Fx.isqF 32 n 0)) [])) :
    (isqVR n r k).Sat (VRound 28 0 [0, 3, 4] [] [] (isqTs n) (fun _ => []) (Fx.IsqInv n) (fun x => x.1) K (k, r)) := by
  refine ⟨fun hb => ?_, fun hb => ?_⟩
  · obtain ⟨j, rfl⟩ := isq_bit hb
    obtain ⟨t1, t2, t3⟩ := hi.test' h0 h1
    have hk := hi.k
    rw [t1, Fx.bitv_tdiv hk]
    refine ⟨⟨t2, trivial⟩, fun hc => ?_, fun hc => ?_⟩
    · exact isq_next (hi.yes (t3.1 (of_decide_eq_true hc)))
    · exact isq_next (hi.no fun h => of_decide_eq_false hc (t3.2 h))
  · have := isq_end hb; subst this
    exact isq_leave hi hk

/-- A code with one loop. -/
theorem oneLoop {lps : Nat → St → Tree} {c b : Code} (h : loopsOf c = [b]) (hb : LoopOk P (lps (firstRegion b)) b) : ∀ b ∈ loopsOf c, LoopOk P (lps (firstRegion b)) b := by
  rw [h]; intro b' hb'
  rcases List.mem_singleton.1 hb' with rfl
  exact hb

theorem loops2 {lps : Nat → St → Tree} {T T' : St → Tree} {c b b' : Code} (h : loopsOf c = [b, b']) (e : lps (firstRegion b) = T) (e' : lps (firstRegion b') = T') (hb : LoopOk P T b) (hb' : LoopOk P T' b') : ∀ b ∈ loopsOf c, LoopOk P (lps (firstRegion b)) b := by
  rw [h]; intro x hx
  rcases List.mem_cons.1 hx with rfl | hx
  · rw [e]; exact hb
  · rcases List.mem_singleton.1 hx with rfl
    rw [e']; exact hb'

def isqQ (x : Int) : List Prop := [(bif decide (x < 0) then true else decide (x > 4611686018427387904)) = false → (0 : Int) = 0, (bif decide (x < 0) then true else decide (x > 4611686018427387904)) = false → (2147483648 : Int) = 2147483648, (bif decide (x < 0) then true else decide (x > 4611686018427387904)) = false → 0 ≤ x ∧ x ≤ 4611686018427387904]
def isqU (x : Int) : Int := bif bif decide (x < 0) then true else decide (x > 4611686018427387904) then 0 else Fx.isqF 32 x 0
theorem isqQ_ok (x : Int) : Conj (isqQ x) := by
  refine ⟨fun _ => rfl, fun _ => rfl, fun h => ?_, trivial⟩
  by_cases h1 : x < 0 <;> by_cases h2 : x > 4611686018427387904 <;> simp [h1, h2] at h <;> omega
theorem isqU_eq (x : Int) : isqU x = Fx.isqrt x := by
  unfold isqU Fx.isqrt
  by_cases h1 : x < 0 <;> by_cases h2 : x > 4611686018427387904 <;> simp [h1, h2]
def isqRQ (x : Int) : List Prop := [(bif decide (x < 0) then true else Fx.outR x) = false → (0 : Int) = 0, (bif decide (x < 0) then true else Fx.outR x) = false → (2147483648 : Int) = 2147483648, (bif decide (x < 0) then true else Fx.outR x) = false → 0 ≤ x ∧ x ≤ 4611686018427387904]
def isqRU (x : Int) : Int := bif bif decide (x < 0) then true else Fx.outR x then 0 else Fx.isqF 32 x 0
theorem isqRQ_ok (x : Int) : Conj (isqRQ x) := by
  refine ⟨fun _ => rfl, fun _ => rfl, fun h => ?_, trivial⟩
  unfold Fx.outR at h
  by_cases h1 : x < 0 <;> by_cases h2 : x > 4611686018427387904 <;> simp [h1, h2] at h <;> omega
theorem isqRU_eq (x : Int) : isqRU x = Fx.isqrt x := by
  unfold isqRU Fx.outR Fx.isqrt
  by_cases h1 : x < 0
  · simp [h1]
  · have h3 : ¬ x < -4611686018427387904 := by omega
    by_cases h2 : x > 4611686018427387904 <;> simp [h1, h2, h3]
end
end Go.Eng

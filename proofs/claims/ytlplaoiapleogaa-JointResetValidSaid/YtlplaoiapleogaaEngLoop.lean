/- THE ENGINE, PART 7: loops. -/
import Derived.Test.YtlplaoiapleogaaEngLaw
namespace Go.Eng
open Go.RowKit

def lkT : List (Nat × TV) → Nat → TV
  | [], _ => .any
  | p :: r, t => bif Nat.beq t p.1 then p.2 else lkT r t

def lkM : List (Nat × MRes) → Nat → MRes
  | [], _ => .free
  | p :: r, t => bif Nat.beq t p.1 then p.2 else lkM r t

/-- A state of which just these temporaries and blocks are known. -/
def mkSt (sz : Nat) (ts : List (Nat × TV)) (next : Nat) (ms : List (Nat × MRes)) : St := { sz, tmps := lkT ts, next, mem := lkM ms }

/-- Whatever one state says the other says too. -/
def Weak (σ σ' : St) : Prop := ∀ (B : Base) (E0 : Env) (a : Act) (w : World), Rel B E0 σ a w → Rel B E0 σ' a w

def liveB (ms : List (Nat × MRes)) (id : Nat) : Bool := ms.any fun p => Nat.beq p.1 id && (match p.2 with | .free => false | _ => true)

def fitsC (ms : List (Nat × MRes)) : Cell → Bool
  | .ref id _ => liveB ms id
  | .own id => liveB ms id
  | .orp id _ _ _ => liveB ms id
  | _ => true

def fitsTV (ms : List (Nat × MRes)) : TV → Bool
  | .any => true
  | .val (.fv v) => v.cells.all (fitsC ms)
  | .val (.tup l) => l.all fun v => v.cells.all (fitsC ms)
  | .opt _ _ _ => false

def fitsMR (ms : List (Nat × MRes)) : MRes → Bool
  | .val (.blk _ cs) => cs.all (fitsC ms)
  | .val (.row _ _ _ _) => true
  | .lost => true
  | _ => false

/-- Each of these temporaries is as said. -/
def AgreeT (σ : St) : List (Nat × TV) → Prop
  | [] => True
  | p :: r => σ.tmps p.1 = p.2 ∧ AgreeT σ r
def AgreeM (σ : St) : List (Nat × MRes) → Prop
  | [] => True
  | p :: r => σ.mem p.1 = p.2 ∧ AgreeM σ r

def nodupK (ms : List (Nat × MRes)) : Bool := nodupB (ms.map (·.1))

def okSt (ts : List (Nat × TV)) (next : Nat) (ms : List (Nat × MRes)) : Bool :=
  (ts.all fun p => fitsTV ms p.2) && (ms.all fun p => fitsMR ms p.2 && Nat.blt p.1 next) && nodupK ms

theorem lkT_of {σ : St} : ∀ {ts : List (Nat × TV)}, AgreeT σ ts → ∀ t, lkT ts t = .any ∨ (lkT ts t = σ.tmps t ∧ ∃ p ∈ ts, p.2 = σ.tmps t)
  | [], _, t => .inl rfl
  | p :: r, h, t => by
    simp only [lkT]
    cases hb : Nat.beq t p.1 with
    | true =>
      have := Nat.eq_of_beq_eq_true hb
      subst this
      exact .inr ⟨h.1.symm, p, List.mem_cons_self .., h.1.symm⟩
    | false =>
      rcases lkT_of h.2 t with h1 | ⟨h1, q, hq, h2⟩
      · exact .inl h1
      · exact .inr ⟨h1, q, List.mem_cons_of_mem _ hq, h2⟩

theorem lkM_of {σ : St} : ∀ {ms : List (Nat × MRes)}, AgreeM σ ms → ∀ k, lkM ms k = .free ∨ (lkM ms k = σ.mem k ∧ ∃ p ∈ ms, p.1 = k ∧ p.2 = σ.mem k)
  | [], _, t => .inl rfl
  | p :: r, h, t => by
    simp only [lkM]
    cases hb : Nat.beq t p.1 with
    | true =>
      have := Nat.eq_of_beq_eq_true hb
      subst this
      exact .inr ⟨h.1.symm, p, List.mem_cons_self .., rfl, h.1.symm⟩
    | false =>
      rcases lkM_of h.2 t with h1 | ⟨h1, q, hq, h2⟩
      · exact .inl h1
      · exact .inr ⟨h1, q, List.mem_cons_of_mem _ hq, h2⟩

theorem lkM_mem : ∀ {ms : List (Nat × MRes)}, nodupK ms = true → ∀ p ∈ ms, lkM ms p.1 = p.2
  | [], _, p, hp => by cases hp
  | q :: r, h, p, hp => by
    simp only [nodupK, List.map_cons, nodupB, Bool.and_eq_true, Bool.not_eq_true'] at h
    simp only [lkM]
    rcases List.mem_cons.1 hp with rfl | hp
    · simp
    · have hne : p.1 ≠ q.1 := fun e => by
        have h1 := h.1
        simp only [List.contains_eq_mem, decide_eq_false_iff_not] at h1
        exact h1 (by rw [← e]; exact List.mem_map.2 ⟨p, hp, rfl⟩)
      rw [beq_false hne]
      exact lkM_mem h.2 p hp

theorem liveB_spec {ms : List (Nat × MRes)} (hn : nodupK ms = true) {id : Nat} (h : liveB ms id = true) : Live (lkM ms) id := by
  obtain ⟨p, hp, h2⟩ := List.any_eq_true.1 h
  simp only [Bool.and_eq_true] at h2
  have := Nat.eq_of_beq_eq_true h2.1
  subst this
  unfold Live
  rw [lkM_mem hn p hp]
  cases hx : p.2 <;> rw [hx] at h2 <;> simp at h2 ⊢

theorem fitsC_spec {ms : List (Nat × MRes)} (hn : nodupK ms = true) {c : Cell} (h : fitsC ms c = true) : c.fits (lkM ms) := by
  cases c with
  | ref id off => exact liveB_spec hn h
  | own id => exact liveB_spec hn h
  | orp id sz i off => exact liveB_spec hn h
  | _ => trivial

theorem weak_mk {σ : St} {sz : Nat} {ts : List (Nat × TV)} {next : Nat} {ms : List (Nat × MRes)} (hsz : σ.sz = sz) (hok : okSt ts next ms = true) (ht : AgreeT σ ts) (hm : AgreeM σ ms) : Weak σ (mkSt sz ts next ms) := by
  rintro B E0 a w ⟨E, hα, h⟩
  simp only [okSt, Bool.and_eq_true, List.all_eq_true] at hok
  obtain ⟨⟨h1, h2⟩, h3⟩ := hok
  have hhas : ∀ id r, Has (lkM ms) a.tmps id r → Has σ.mem a.tmps id r := fun id r hh => by
    unfold Has at *
    rcases lkM_of hm id with h4 | ⟨h4, _⟩
    · rw [h4] at hh; simp at hh
    · rwa [h4] at hh
  refine ⟨E, hα, h.defers, by rw [h.len]; exact hsz, fun t => ?_, h.below, fun k hk => ?_, fun id r hh => ?_, fun id id' r r' x y => h.sep id id' r r' (hhas id r x) (hhas id' r' y)⟩
  · simp only [mkSt]
    rcases lkT_of ht t with h4 | ⟨h4, p, hp, h5⟩
    · rw [h4]; trivial
    · rw [h4]
      have hf := h1 p hp
      rw [h5] at hf
      have hr := h.tmp t
      cases htv : σ.tmps t with
      | any => trivial
      | val v =>
        rw [htv] at hf hr
        refine ⟨hr.1, fun c hc => ⟨(hr.2 c hc).1, fitsC_spec h3 ?_⟩⟩
        cases v with
        | fv u => exact List.all_eq_true.1 hf c hc
        | tup l =>
          simp only [PV.cells, List.mem_flatMap] at hc
          obtain ⟨u, hu, hcu⟩ := hc
          exact List.all_eq_true.1 (List.all_eq_true.1 hf u hu) c hcu
      | opt gt want v => rw [htv] at hf; cases hf
  · simp only [mkSt] at hk ⊢
    rcases lkM_of hm k with h4 | ⟨h4, p, hp, h5, h6⟩
    · exact h4
    · have := (h2 p hp).2
      rw [Nat.blt_eq] at this
      omega
  · have hh' := hhas id r hh
    have hr := h.mem id r hh'
    simp only [mkSt] at hh ⊢
    cases r with
    | row e sz n get => exact hr
    | blk T cs =>
      refine ⟨hr.1, hr.2.1, fun c hc => ⟨(hr.2.2 c hc).1, fitsC_spec h3 ?_⟩⟩
      rcases lkM_of hm id with h4 | ⟨h4, p, hp, h5, h6⟩
      · unfold Has at hh; rw [h4] at hh; simp at hh
      · have hf := (h2 p hp).1
        unfold Has at hh
        rw [h4, ← h6] at hh
        rcases hh with hh | ⟨_, _, hh, _⟩
        · rw [hh] at hf
          exact List.all_eq_true.1 hf c hc
        · rw [hh] at hf; cases hf

theorem Weak.refl (σ : St) : Weak σ σ := fun _ _ _ _ h => h

section
variable {P : Program} {ctrs : FuncId → Option Contract} {B : Base} {E0 : Env}

theorem wp_loop_ghost {c : Code} {α : Type} (I : α → Act → World → Prop) (μ : α → Nat) {Q : Exit → Act → World → Prop} {a : Act} {w : World} (x0 : α) (h0 : I x0 a w)
    (round : ∀ x a w, I x a w → c.wp P (Exit.then (fun a' w' => ∃ y, I y a' w' ∧ μ y < μ x) Q) a w) : (Code.loop c).wp P Q a w := by
  intro b k cs
  have key : ∀ n x a w, μ x = n → I x a w → ∃ e a' w', Q e a' w' ∧ Arrives P (lone (b.at a (.code c :: .inLoop c :: k)) cs w) b k cs e a' w' := by
    intro n
    induction n using Nat.strongRecOn with
    | _ n ih =>
      intro x a w hn hI
      obtain ⟨e, a₁, w₁, hq, harr⟩ := round x a w hI b (.inLoop c :: k) cs
      cases e with
      | normal =>
        obtain ⟨y, hI₁, hlt⟩ := hq
        obtain ⟨e₂, a₂, w₂, hq₂, harr₂⟩ := ih (μ y) (hn ▸ hlt) y a₁ w₁ rfl hI₁
        exact ⟨e₂, a₂, w₂, hq₂, .of_steps (Steps.trans harr (.one step_inLoop)) harr₂⟩
      | exit id => exact ⟨_, a₁, w₁, hq, .pass (x := .inLoop c) rfl (fun _ _ => .inl (by simp)) harr⟩
      | goto l => exact ⟨_, a₁, w₁, hq, .pass (x := .inLoop c) rfl (fun _ _ => .inl (by simp)) harr⟩
      | ret => exact ⟨_, a₁, w₁, hq, .pass (x := .inLoop c) rfl (fun _ _ => .inl (by simp)) harr⟩
      | panic ch => exact ⟨_, a₁, w₁, hq, .pass (x := .inLoop c) rfl (fun _ _ => .inl (by simp)) harr⟩
      | outgrown => exact ⟨_, a₁, w₁, hq, .pass (x := .inLoop c) rfl (fun _ _ => .inl (by simp)) harr⟩
  obtain ⟨e, a', w', hq, harr⟩ := key _ x0 a w rfl h0
  exact ⟨e, a', w', hq, .of_steps (.one step_loop) harr⟩

/-- What a round is to come to. -/
def RoundOk {α : Type} (S : α → St) (Inv : α → Prop) (μ : α → Nat) (x : α) (K : Ex → St → Prop) (e : Ex) (σ : St) : Prop :=
  match e with
  | .norm => ∃ y, Inv y ∧ μ y < μ x ∧ Weak σ (S y)
  | e => ∃ σ', Weak σ σ' ∧ K e σ'

/-- **A loop**: its states, an invariant, a measure; each round, run symbolically. -/
theorem loop_ok (hm : P.follows .mixedOrders = true) (hC : ∀ f C, ctrs f = some C → Sound P f C) {lps : Nat → St → Tree} {body : Code} (hL : ∀ b ∈ loopsOf body, LoopOk P (lps (firstRegion b)) b) {α : Type} (S : α → St) (Inv : α → Prop) (μ : α → Nat)
    {K : Ex → St → Prop} (hround : ∀ x, Inv x → (sexec P ctrs lps body (S x)).Sat (RoundOk S Inv μ x K)) {a : Act} {w : World} (x0 : α) (h0 : Inv x0) (hr : Rel B E0 (S x0) a w) :
    (Code.loop body).wp P (PostK B E0 K) a w := by
  refine wp_loop_ghost (fun x a w => Inv x ∧ Rel B E0 (S x) a w) μ x0 ⟨h0, hr⟩ ?_
  rintro x a w ⟨hi, hr⟩
  refine wp_mono (sexec_sound hm hC body hL _ (S x) a w (hround x hi) hr) fun e a' w' he => ?_
  obtain ⟨ex, σ', rfl, hk, hr'⟩ := he
  cases ex with
  | norm =>
    obtain ⟨y, h1, h2, h3⟩ := hk
    exact ⟨y, ⟨h1, h3 _ _ _ _ hr'⟩, h2⟩
  | ret =>
    obtain ⟨σ'', h1, h2⟩ := hk
    exact ⟨.ret, σ'', rfl, h2, h1 _ _ _ _ hr'⟩
  | exit id =>
    obtain ⟨σ'', h1, h2⟩ := hk
    exact ⟨.exit id, σ'', rfl, h2, h1 _ _ _ _ hr'⟩

/-! ### trees, looked at in a few places -/

inductive VT where
  | leaf (e : Ex) (sz : Nat) (ts : List TV) (ms : List MRes)
  | pre (ps : List Prop) (t : VT)
  | ite (b : Bool) (t e : VT)
  | fail

def viewT (slots ids : List Nat) : Tree → VT
  | .leaf e σ => .leaf e σ.sz (slots.map σ.tmps) (ids.map σ.mem)
  | .pre ps t => .pre ps (viewT slots ids t)
  | .ite b t e => .ite b (viewT slots ids t) (viewT slots ids e)
  | .fail => .fail

def VT.Sat (K : Ex → Nat → List TV → List MRes → Prop) : VT → Prop
  | .leaf e sz ts ms => K e sz ts ms
  | .pre ps t => Conj ps ∧ t.Sat K
  | .ite b t e => (b = true → t.Sat K) ∧ (b = false → e.Sat K)
  | .fail => False

theorem viewT_sat {slots ids : List Nat} {K : Ex → St → Prop} {K' : Ex → Nat → List TV → List MRes → Prop} (h : ∀ e σ, K' e σ.sz (slots.map σ.tmps) (ids.map σ.mem) → K e σ) : ∀ {t : Tree}, (viewT slots ids t).Sat K' → t.Sat K
  | .leaf _ _, ht => h _ _ ht
  | .pre _ _, ht => ⟨ht.1, viewT_sat h ht.2⟩
  | .ite _ _ _, ht => ⟨fun e => viewT_sat h (ht.1 e), fun e => viewT_sat h (ht.2 e)⟩
  | .fail, ht => ht

theorem agreeT_zip {σ : St} : ∀ {slots : List Nat} {ts : List TV}, slots.map σ.tmps = ts → AgreeT σ (slots.zip ts)
  | [], ts, h => by subst h; trivial
  | t :: slots, ts, h => by subst h; exact ⟨rfl, agreeT_zip rfl⟩
theorem agreeM_zip {σ : St} : ∀ {ids : List Nat} {ms : List MRes}, ids.map σ.mem = ms → AgreeM σ (ids.zip ms)
  | [], ts, h => by subst h; trivial
  | t :: slots, ts, h => by subst h; exact ⟨rfl, agreeM_zip rfl⟩

/-- The state of a loop's head: these temporaries, these blocks. -/
def headSt (sz next : Nat) (slots ids : List Nat) (ts : List TV) (ms : List MRes) : St := mkSt sz (slots.zip ts) next (ids.zip ms)

def okHead (next : Nat) (slots ids : List Nat) (ts : List TV) (ms : List MRes) : Bool := okSt (slots.zip ts) next (ids.zip ms)

/-- What a round, looked at, is to come to. -/
def VRound {α : Type} (sz next : Nat) (slots ids : List Nat) (tv : α → List TV) (mv : α → List MRes) (Inv : α → Prop) (μ : α → Nat) (K : Ex → St → Prop) (x : α) (e : Ex) (s : Nat) (ts : List TV) (ms : List MRes) : Prop :=
  s = sz ∧ match e with
    | .norm => ∃ y, Inv y ∧ μ y < μ x ∧ ts = tv y ∧ ms = mv y ∧ okHead next slots ids (tv y) (mv y) = true
    | e => okHead next slots ids ts ms = true ∧ K e (headSt sz next slots ids ts ms)

theorem loop_view (hm : P.follows .mixedOrders = true) (hC : ∀ f C, ctrs f = some C → Sound P f C) {lps : Nat → St → Tree} {body : Code} (hL : ∀ b ∈ loopsOf body, LoopOk P (lps (firstRegion b)) b) {α : Type}
    (sz next : Nat) (slots ids : List Nat) (tv : α → List TV) (mv : α → List MRes) (Inv : α → Prop) (μ : α → Nat) {K : Ex → St → Prop}
    (hround : ∀ x, Inv x → ∃ vt, viewT slots ids (sexec P ctrs lps body (headSt sz next slots ids (tv x) (mv x))) = vt ∧ vt.Sat (VRound sz next slots ids tv mv Inv μ K x))
    {a : Act} {w : World} {σ : St} (x0 : α) (h0 : Inv x0) (hσ : Weak σ (headSt sz next slots ids (tv x0) (mv x0))) (hr : Rel B E0 σ a w) : (Code.loop body).wp P (PostK B E0 K) a w := by
  refine loop_ok hm hC hL (fun x => headSt sz next slots ids (tv x) (mv x)) Inv μ (fun x hx => ?_) x0 h0 (hσ _ _ _ _ hr)
  obtain ⟨vt, h1, h2⟩ := hround x hx
  rw [← h1] at h2
  refine viewT_sat (fun e σ hv => ?_) h2
  obtain ⟨hs, hv⟩ := hv
  cases e with
  | norm =>
    obtain ⟨y, h3, h4, h5, h6, h7⟩ := hv
    exact ⟨y, h3, h4, weak_mk hs h7 (agreeT_zip h5) (agreeM_zip h6)⟩
  | ret => exact ⟨_, weak_mk hs hv.1 (agreeT_zip rfl) (agreeM_zip rfl), hv.2⟩
  | exit id => exact ⟨_, weak_mk hs hv.1 (agreeT_zip rfl) (agreeM_zip rfl), hv.2⟩

/-- The entry of a loop: the state says at least this. -/
theorem weak_head {σ : St} {sz next : Nat} {slots ids : List Nat} {ts : List TV} {ms : List MRes} (hsz : σ.sz = sz) (hok : okHead next slots ids ts ms = true) (ht : slots.map σ.tmps = ts) (hm : ids.map σ.mem = ms) :
    Weak σ (headSt sz next slots ids ts ms) := weak_mk hsz hok (agreeT_zip ht) (agreeM_zip hm)


/-! ### a loop whose rounds are counted: unrolled -/

/-- The first branch is taken as told; its condition must be computed to be so. -/
def Tree.told (b : Bool) : Tree → Tree
  | .pre ps t => .pre ps (t.told b)
  | .ite c t e => (match c, b with
    | true, true => t
    | false, false => e
    | _, _ => .fail)
  | t => t

theorem told_sat {K : Ex → St → Prop} {b : Bool} : ∀ {t : Tree}, (t.told b).Sat K → t.Sat K
  | .pre _ _, h => ⟨h.1, told_sat h.2⟩
  | .ite c t e, h => by
    cases c <;> cases b
    · exact ⟨fun e => (by cases e), fun _ => h⟩
    · exact h.elim
    · exact h.elim
    · exact ⟨fun _ => h, fun e => (by cases e)⟩
  | .leaf _ _, h => h
  | .fail, h => h

/-- The rounds of a loop, one for each word that tells whether its condition holds. -/
def unroll (P : Program) (ctrs : FuncId → Option Contract) (lps : Nat → St → Tree) (body : Code) : List Bool → St → Tree
  | [], _ => .fail
  | b :: bs, σ => ((sexec P ctrs lps body σ).told b).bind (unroll P ctrs lps body bs)

theorem unroll_ok (hm : P.follows .mixedOrders = true) (hC : ∀ f C, ctrs f = some C → Sound P f C) {lps : Nat → St → Tree} {body : Code} (hL : ∀ b ∈ loopsOf body, LoopOk P (lps (firstRegion b)) b) (bs : List Bool) :
    LoopOk P (unroll P ctrs lps body bs) body := by
  intro B E0 K σ a w hs hr
  refine wp_loop_ghost (fun (x : List Bool × St) a w => (unroll P ctrs lps body x.1 x.2).Sat K ∧ Rel B E0 x.2 a w) (fun x => x.1.length) (bs, σ) ⟨hs, hr⟩ ?_
  rintro ⟨bs, σ⟩ a w ⟨hs, hr⟩
  cases bs with
  | nil => exact hs.elim
  | cons b bs =>
    refine wp_mono (sexec_sound hm hC body hL _ σ a w (told_sat (b := b) (K := fun e σ => match e with | .norm => (unroll P ctrs lps body bs σ).Sat K | e => K e σ) ?_) hr) fun e a' w' he => ?_
    · exact bind_sat hs
    · obtain ⟨ex, σ', rfl, hk, hr'⟩ := he
      cases ex with
      | norm => exact ⟨(bs, σ'), ⟨hk, hr'⟩, Nat.lt_succ_self _⟩
      | ret => exact ⟨.ret, σ', rfl, hk, hr'⟩
      | exit id => exact ⟨.exit id, σ', rfl, hk, hr'⟩
end
end Go.Eng

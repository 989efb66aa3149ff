/- THE ENGINE, PART 7: loops. -/
import Derived.Test.YtleooijgkdllfaaEngLaw
namespace Go.Eng
open Go.RowKit

def lkT : List (Nat × TV) → Nat → TV
  | [], _ => .any
  | p :: r, t => bif Nat.beq t p.1 then p.2 else lkT r t

def lkM : List (Nat × MRes) → Nat → MRes
  | [], _ => .free
  | p :: r, t => bif Nat.beq t p.1 then p.2 else lkM r t

/-- A state of which just these temporaries and blocks are known. -/
def mkSt (sz : Nat) (ts : List (Nat × TV)) (next : Nat) (ms : List (Nat × MRes)) : St := { sz, tmps := lkT ts, next, mem := lkM ms }

/-- Whatever one state says the other says too. -/
def Weak (σ σ' : St) : Prop := ∀ (we : World) (a : Act) (w : World), Rel we σ a w → Rel we σ' a w

/-! ### other names -/

def rnL : List (Nat × Nat) → Nat → Nat
  | [], k => k
  | p :: r, k => bif Nat.beq k p.1 then p.2 else rnL r k

def Cell.rn (r : Nat → Nat) : Cell → Cell
  | .ref id off => .ref (r id) off
  | .own id => .own (r id)
  | .orp id sz i off => .orp (r id) sz i off
  | .aref id off n i => .aref (r id) off n i
  | c => c
def FV.rn (r : Nat → Nat) : FV → FV
  | .one c => .one (c.rn r)
  | .agg cs => .agg (cs.map (Cell.rn r))
def PV.rn (r : Nat → Nat) : PV → PV
  | .fv v => .fv (v.rn r)
  | .tup l => .tup (l.map (FV.rn r))
  | .clo f l => .clo f (l.map (FV.rn r))
  | .isn m => .isn m
def TV.rn (r : Nat → Nat) : TV → TV
  | .val v => .val (v.rn r)
  | v => v
def MRes.rn (r : Nat → Nat) : MRes → MRes
  | .val (.blk T cs) => .val (.blk T (cs.map (Cell.rn r)))
  | m => m

def Env.rn (r : Nat → Nat) (E : Env) : Env := { E with β := fun k => E.β (r k), γ := fun k => E.γ (r k) }

theorem CR_rn {r : Nat → Nat} {E : Env} {c : Cell} {x : Value} (h : CR E (c.rn r) x) : CR (E.rn r) c x := by
  cases c with
  | slc nw m =>
    rcases h with h | ⟨a, cap, h1, hml, h2⟩
    · exact .inl h
    · refine .inr ⟨a, cap, h1, hml, fun i hi => ?_⟩
      have hF : ((E.rn r).lim nw).F = (E.lim nw).F := by cases nw <;> rfl
      have hw : ((E.rn r).lim nw).wf = (E.lim nw).wf := by cases nw <;> rfl
      obtain ⟨h3, h4⟩ := h2 i hi
      refine ⟨by rw [hF]; exact h3, fun j c hj => ?_⟩
      obtain ⟨y, h5, h6⟩ := h4 j c hj
      exact ⟨y, by rw [hw]; exact h5, CRd_base 3 (E := E.lim nw) (fun b hb => ⟨by rw [hF]; exact hb, by rw [hw]⟩) (SL.at_base hj) h6⟩
  | rp m i off =>
    obtain ⟨a, h1, h3, h4⟩ := h
    refine ⟨a, h1, h3, fun j c hj => ?_⟩
    obtain ⟨y, h5, h6⟩ := h4 j c hj
    exact ⟨y, h5, CRd_base 3 (E := E) (E' := E.rn r) (fun b hb => ⟨hb, rfl⟩) (SL.at_base hj) h6⟩
  | _ => exact h

theorem CsR_rn {r : Nat → Nat} {E : Env} {cs : List Cell} {xs : List Value} (h : CsR E (cs.map (Cell.rn r)) xs) : CsR (E.rn r) cs xs :=
  ⟨by have := h.len; simpa using this, fun j c hj => by
    obtain ⟨y, h1, h2⟩ := h.get j (c.rn r) (by rw [List.getElem?_map, hj]; rfl)
    exact ⟨y, h1, CR_rn h2⟩⟩
theorem FR_rn {r : Nat → Nat} {E : Env} {v : FV} {x : Value} (h : FR E (v.rn r) x) : FR (E.rn r) v x := by
  cases v with
  | one c => exact CR_rn h
  | agg cs =>
    obtain ⟨xs, h1, h2⟩ := h
    exact ⟨xs, h1, CsR_rn h2⟩
theorem PR_rn {r : Nat → Nat} {E : Env} {v : PV} {x : Value} (h : PR E (v.rn r) x) : PR (E.rn r) v x := by
  cases v with
  | fv v => exact FR_rn h
  | tup l =>
    obtain ⟨xs, h1, h2, h3⟩ := h
    refine ⟨xs, h1, by simpa using h2, fun j v hj => ?_⟩
    obtain ⟨y, h4, h5⟩ := h3 j (v.rn r) (by rw [List.getElem?_map, hj]; rfl)
    exact ⟨y, h4, FR_rn h5⟩
  | clo f l =>
    obtain ⟨xs, h1, h2, h3⟩ := h
    refine ⟨xs, h1, by simpa using h2, fun j v hj => ?_⟩
    obtain ⟨y, h4, h5⟩ := h3 j (v.rn r) (by rw [List.getElem?_map, hj]; rfl)
    exact ⟨y, h4, FR_rn h5⟩
  | isn m => exact h
theorem RowR_rn {r : Nat → Nat} {E : Env} {m : SL} {xs : List Value} (h : RowR E m xs) : RowR (E.rn r) m xs := fun i hi j c hj => by
  obtain ⟨y, h1, h2⟩ := h i hi j c hj
  exact ⟨y, h1, CRd_base 4 (E := E) (E' := E.rn r) (fun b hb => ⟨hb, rfl⟩) (SL.at_base hj) h2⟩

def liveB (ms : List (Nat × MRes)) (id : Nat) : Bool := ms.any fun p => Nat.beq p.1 id && (match p.2 with | .free => false | _ => true)

def fitsC (ms : List (Nat × MRes)) : Cell → Bool
  | .ref id _ => liveB ms id
  | .own id => liveB ms id
  | .orp id _ _ _ => liveB ms id
  | .aref id _ _ _ => liveB ms id
  | _ => true

def fitsTV (ms : List (Nat × MRes)) : TV → Bool
  | .any => true
  | .val (.fv v) => v.cells.all (fitsC ms)
  | .val (.tup l) => l.all fun v => v.cells.all (fitsC ms)
  | .val (.clo _ _) => false
  | .val (.isn _) => true
  | .opt _ _ _ => false

def fitsMR (ms : List (Nat × MRes)) : MRes → Bool
  | .val (.blk _ cs) => cs.all (fitsC ms)
  | .val (.row _ _) => true
  | .lost => true
  | _ => false

/-- A new slice, where one is asked for that is only read. -/
def TV.soft : TV → TV → TV
  | .val (.fv (.one (.slc true m))), .val (.fv (.one (.slc false _))) => .val (.fv (.one (.slc false m)))
  | t, _ => t
theorem TV.soft_rel {E : Env} {mem : Nat → MRes} {tmps : Array Value} {t : TV} {x : Value} (h : TVRel E mem tmps t x) (v : TV) : TVRel E mem tmps (t.soft v) x := by
  unfold TV.soft
  split
  · exact ⟨lim_slc h.1, fun c hc => by simp only [PV.cells, FV.cells, List.mem_singleton] at hc; subst hc; trivial⟩
  · exact h

/-- Each of these temporaries is as said, by other names. -/
def AgreeT (r : Nat → Nat) (σ : St) : List (Nat × TV) → Prop
  | [] => True
  | p :: q => (p.2 = .any ∨ (σ.tmps p.1).soft p.2 = p.2.rn r) ∧ AgreeT r σ q
def AgreeM (r : Nat → Nat) (σ : St) : List (Nat × MRes) → Prop
  | [] => True
  | p :: q => (p.2 = .lost ∨ σ.mem (r p.1) = p.2.rn r) ∧ AgreeM r σ q

def nodupK (ms : List (Nat × MRes)) : Bool := nodupB (ms.map (·.1))

def okSt (ts : List (Nat × TV)) (next : Nat) (ms : List (Nat × MRes)) : Bool :=
  (ts.all fun p => fitsTV ms p.2) && (ms.all fun p => fitsMR ms p.2 && Nat.blt p.1 next) && nodupK ms

theorem lkT_of {r : Nat → Nat} {σ : St} : ∀ {ts : List (Nat × TV)}, AgreeT r σ ts → ∀ t, lkT ts t = .any ∨ ((σ.tmps t).soft (lkT ts t) = (lkT ts t).rn r ∧ ∃ p ∈ ts, p.2 = lkT ts t)
  | [], _, t => .inl rfl
  | p :: q, h, t => by
    simp only [lkT]
    cases hb : Nat.beq t p.1 with
    | true =>
      have := Nat.eq_of_beq_eq_true hb
      subst this
      exact h.1.imp id fun h1 => ⟨h1, p, List.mem_cons_self .., rfl⟩
    | false =>
      rcases lkT_of h.2 t with h1 | ⟨h1, q, hq, h2⟩
      · exact .inl h1
      · exact .inr ⟨h1, q, List.mem_cons_of_mem _ hq, h2⟩

theorem lkM_of {r : Nat → Nat} {σ : St} : ∀ {ms : List (Nat × MRes)}, AgreeM r σ ms → ∀ k, lkM ms k = .free ∨ ((lkM ms k = .lost ∨ σ.mem (r k) = (lkM ms k).rn r) ∧ ∃ p ∈ ms, p.1 = k ∧ p.2 = lkM ms k)
  | [], _, t => .inl rfl
  | p :: q, h, t => by
    simp only [lkM]
    cases hb : Nat.beq t p.1 with
    | true =>
      have := Nat.eq_of_beq_eq_true hb
      subst this
      exact .inr ⟨h.1, p, List.mem_cons_self .., rfl, rfl⟩
    | false =>
      rcases lkM_of h.2 t with h1 | ⟨h1, q, hq, h2⟩
      · exact .inl h1
      · exact .inr ⟨h1, q, List.mem_cons_of_mem _ hq, h2⟩

theorem lkM_mem : ∀ {ms : List (Nat × MRes)}, nodupK ms = true → ∀ p ∈ ms, lkM ms p.1 = p.2
  | [], _, p, hp => by cases hp
  | q :: r, h, p, hp => by
    simp only [nodupK, List.map_cons, nodupB, Bool.and_eq_true, Bool.not_eq_true'] at h
    simp only [lkM]
    rcases List.mem_cons.1 hp with rfl | hp
    · simp
    · have hne : p.1 ≠ q.1 := fun e => by
        have h1 := h.1
        simp only [List.contains_eq_mem, decide_eq_false_iff_not] at h1
        exact h1 (by rw [← e]; exact List.mem_map.2 ⟨p, hp, rfl⟩)
      rw [beq_false hne]
      exact lkM_mem h.2 p hp

theorem liveB_spec {ms : List (Nat × MRes)} (hn : nodupK ms = true) {id : Nat} (h : liveB ms id = true) : Live (lkM ms) id := by
  obtain ⟨p, hp, h2⟩ := List.any_eq_true.1 h
  simp only [Bool.and_eq_true] at h2
  have := Nat.eq_of_beq_eq_true h2.1
  subst this
  unfold Live
  rw [lkM_mem hn p hp]
  cases hx : p.2 <;> rw [hx] at h2 <;> simp at h2 ⊢

theorem fitsC_spec {ms : List (Nat × MRes)} (hn : nodupK ms = true) {c : Cell} (h : fitsC ms c = true) : c.fits (lkM ms) := by
  cases c with
  | ref id off => exact liveB_spec hn h
  | own id => exact liveB_spec hn h
  | orp id sz i off => exact liveB_spec hn h
  | aref id off n i => exact liveB_spec hn h
  | _ => trivial

theorem inj_of_nodup {r : Nat → Nat} : ∀ {l : List Nat}, nodupB (l.map r) = true → ∀ {x y : Nat}, x ∈ l → y ∈ l → r x = r y → x = y
  | [], _, x, y, hx, _, _ => by cases hx
  | z :: l, h, x, y, hx, hy, e => by
    simp only [List.map_cons, nodupB, Bool.and_eq_true, Bool.not_eq_true'] at h
    have hn : r z ∉ l.map r := by simpa using h.1
    rcases List.mem_cons.1 hx with h1 | h1
    · rcases List.mem_cons.1 hy with h2 | h2
      · rw [h1, h2]
      · exact absurd (List.mem_map.2 ⟨y, h2, by rw [← e, h1]⟩) hn
    · rcases List.mem_cons.1 hy with h2 | h2
      · exact absurd (List.mem_map.2 ⟨x, h1, by rw [e, h2]⟩) hn
      · exact inj_of_nodup h.2 h1 h2 e

theorem weak_mk {r : Nat → Nat} {σ : St} {sz : Nat} {ts : List (Nat × TV)} {next : Nat} {ms : List (Nat × MRes)} (hsz : σ.sz = sz) (hok : okSt ts next ms = true) (hinj : nodupB ((ms.map (·.1)).map r) = true) (ht : AgreeT r σ ts) (hm : AgreeM r σ ms) : Weak σ (mkSt sz ts next ms) := by
  rintro we a w ⟨E, h⟩
  simp only [okSt, Bool.and_eq_true, List.all_eq_true] at hok
  obtain ⟨⟨h1, h2⟩, h3⟩ := hok
  have hin : ∀ {k : Nat}, lkM ms k ≠ .free → k ∈ ms.map (·.1) ∧ (lkM ms k = .lost ∨ σ.mem (r k) = (lkM ms k).rn r) ∧ ∃ p ∈ ms, p.1 = k ∧ p.2 = lkM ms k := fun {k} hk => by
    rcases lkM_of hm k with h4 | ⟨h4, p, hp, h5, h6⟩
    · exact absurd h4 hk
    · exact ⟨List.mem_map.2 ⟨p, hp, h5⟩, h4, p, hp, h5, h6⟩
  have hval : ∀ {id : Nat} {x : Res}, Has (lkM ms) a.tmps id x → lkM ms id = .val x := fun {id x} hh => by
    rcases hh with hh | ⟨gt, want, hh, _⟩
    · exact hh
    · obtain ⟨_, _, p, hp, _, h6⟩ := hin (k := id) (by rw [hh]; simp)
      have hf := (h2 p hp).1
      rw [h6, hh] at hf
      cases hf
  have hhas : ∀ {id : Nat} {x : Res}, Has (lkM ms) a.tmps id x → ∃ x', (MRes.val x).rn r = .val x' ∧ Has σ.mem a.tmps (r id) x' := fun {id x} hh => by
    have hv := hval hh
    obtain ⟨_, h4, _⟩ := hin (k := id) (by rw [hv]; simp)
    rw [hv] at h4
    rcases h4 with h4 | h4
    · cases h4
    cases x with
    | blk T cs => exact ⟨_, rfl, .inl h4⟩
    | row e m => exact ⟨_, rfl, .inl h4⟩
  have hblk : ∀ {id : Nat} {x x' : Res}, (MRes.val x).rn r = .val x' → blkNo (E.rn r) id x = blkNo E (r id) x' := fun {id x x'} hx => by
    cases x with
    | blk T cs => simp only [MRes.rn, MRes.val.injEq] at hx; subst hx; rfl
    | row e m => simp only [MRes.rn, MRes.val.injEq] at hx; subst hx; rfl
  refine ⟨E.rn r, h.defers, by rw [h.len]; exact hsz, fun t => ?_, h.below, h.n0, h.f0, h.fz, fun k hk => ?_, fun id x hh => ?_, fun id id' x y hx hy hne b hb => ?_, fun id x hh b hb => ?_⟩
  · simp only [mkSt]
    rcases lkT_of ht t with h4 | ⟨h4, p, hp, h5⟩
    · rw [h4]; trivial
    · have hf := h1 p hp
      rw [h5] at hf
      have hr := TV.soft_rel (h.tmp t) (lkT ts t)
      rw [h4] at hr
      cases htv : lkT ts t with
      | any => trivial
      | val v =>
        rw [htv] at hf hr
        refine ⟨PR_rn hr.1, fun c hc => fitsC_spec h3 ?_⟩
        cases v with
        | fv u => exact List.all_eq_true.1 hf c hc
        | tup l =>
          simp only [PV.cells, List.mem_flatMap] at hc
          obtain ⟨u, hu, hcu⟩ := hc
          exact List.all_eq_true.1 (List.all_eq_true.1 hf u hu) c hcu
        | clo f l => cases hf
        | isn m => cases hc
      | opt gt want v => rw [htv] at hf; cases hf
  · simp only [mkSt] at hk ⊢
    by_cases h4 : lkM ms k = .free
    · exact h4
    · obtain ⟨_, _, p, hp, h5, _⟩ := hin h4
      have := (h2 p hp).2
      rw [Nat.blt_eq] at this
      omega
  · have hv := hval hh
    obtain ⟨_, _, p, hp, _, h6⟩ := hin (k := id) (by rw [hv]; simp)
    obtain ⟨x', e1, e2⟩ := hhas hh
    have hr := h.mem _ _ e2
    simp only [mkSt] at hh ⊢
    cases x with
    | row e m =>
      simp only [MRes.rn, MRes.val.injEq] at e1
      subst e1
      obtain ⟨xs, h7, h8⟩ := hr
      exact ⟨xs, h7, RowR_rn h8⟩
    | blk T cs =>
      simp only [MRes.rn, MRes.val.injEq] at e1
      subst e1
      obtain ⟨h7, ⟨xs, h8, h9⟩, _⟩ := hr
      refine ⟨h7, ⟨xs, h8, CsR_rn h9⟩, fun c hc => fitsC_spec h3 ?_⟩
      have hf := (h2 p hp).1
      rw [h6, hv] at hf
      exact List.all_eq_true.1 hf c hc
  · obtain ⟨x', e1, e2⟩ := hhas hx
    obtain ⟨y', e3, e4⟩ := hhas hy
    rw [hblk e1] at hb
    rw [hblk e3]
    obtain ⟨m1, _⟩ := hin (k := id) (by rw [hval hx]; simp)
    obtain ⟨m2, _⟩ := hin (k := id') (by rw [hval hy]; simp)
    exact h.sep _ _ _ _ e2 e4 (fun e => hne (inj_of_nodup hinj m1 m2 e)) b hb
  · obtain ⟨x', e1, e2⟩ := hhas hh
    rw [hblk e1] at hb
    exact h.sepF _ _ e2 b hb

theorem Weak.refl (σ : St) : Weak σ σ := fun _ _ _ h => h

section
variable {P : Program} {ctrs : FuncId → Option Contract} {we : World}

theorem wp_loop_ghost {c : Code} {α : Type} (I : α → Act → World → Prop) (μ : α → Nat) {Q : Exit → Act → World → Prop} {a : Act} {w : World} (x0 : α) (h0 : I x0 a w)
    (round : ∀ x a w, I x a w → c.wp P (Exit.then (fun a' w' => ∃ y, I y a' w' ∧ μ y < μ x) Q) a w) : (Code.loop c).wp P Q a w := by
  intro b k cs
  have key : ∀ n x a w, μ x = n → I x a w → ∃ e a' w', Q e a' w' ∧ Arrives P (lone (b.at a (.code c :: .inLoop c :: k)) cs w) b k cs e a' w' := by
    intro n
    induction n using Nat.strongRecOn with
    | _ n ih =>
      intro x a w hn hI
      obtain ⟨e, a₁, w₁, hq, harr⟩ := round x a w hI b (.inLoop c :: k) cs
      cases e with
      | normal =>
        obtain ⟨y, hI₁, hlt⟩ := hq
        obtain ⟨e₂, a₂, w₂, hq₂, harr₂⟩ := ih (μ y) (hn ▸ hlt) y a₁ w₁ rfl hI₁
        exact ⟨e₂, a₂, w₂, hq₂, .of_steps (Steps.trans harr (.one step_inLoop)) harr₂⟩
      | exit id => exact ⟨_, a₁, w₁, hq, .pass (x := .inLoop c) rfl (fun _ _ => .inl (by simp)) harr⟩
      | goto l => exact ⟨_, a₁, w₁, hq, .pass (x := .inLoop c) rfl (fun _ _ => .inl (by simp)) harr⟩
      | ret => exact ⟨_, a₁, w₁, hq, .pass (x := .inLoop c) rfl (fun _ _ => .inl (by simp)) harr⟩
      | panic ch => exact ⟨_, a₁, w₁, hq, .pass (x := .inLoop c) rfl (fun _ _ => .inl (by simp)) harr⟩
      | outgrown => exact ⟨_, a₁, w₁, hq, .pass (x := .inLoop c) rfl (fun _ _ => .inl (by simp)) harr⟩
  obtain ⟨e, a', w', hq, harr⟩ := key _ x0 a w rfl h0
  exact ⟨e, a', w', hq, .of_steps (.one step_loop) harr⟩

/-- What a round is to come to. -/
def RoundOk {α : Type} (S : α → St) (Inv : α → Prop) (μ : α → Nat) (x : α) (K : Ex → St → Prop) (e : Ex) (σ : St) : Prop :=
  match e with
  | .norm => ∃ y, Inv y ∧ μ y < μ x ∧ Weak σ (S y)
  | e => ∃ σ', Weak σ σ' ∧ K e σ'

/-- **A loop**: its states, an invariant, a measure; each round, run symbolically. -/
theorem loop_ok (hm : P.follows .mixedOrders = true) (hC : ∀ f C, ctrs f = some C → Sound P f C) {lps : Nat → St → Tree} {body : Code} (hL : ∀ b ∈ loopsOf body, LoopOk P (lps (firstRegion b)) b) {α : Type} (S : α → St) (Inv : α → Prop) (μ : α → Nat)
    {K : Ex → St → Prop} (hround : ∀ x, Inv x → (sexec P ctrs lps body (S x)).Sat (RoundOk S Inv μ x K)) {a : Act} {w : World} (x0 : α) (h0 : Inv x0) (hr : Rel we (S x0) a w) :
    (Code.loop body).wp P (PostK we K) a w := by
  refine wp_loop_ghost (fun x a w => Inv x ∧ Rel we (S x) a w) μ x0 ⟨h0, hr⟩ ?_
  rintro x a w ⟨hi, hr⟩
  refine wp_mono (sexec_sound hm hC body hL _ (S x) a w (hround x hi) hr) fun e a' w' he => ?_
  obtain ⟨ex, σ', rfl, hk, hr'⟩ := he
  cases ex with
  | norm =>
    obtain ⟨y, h1, h2, h3⟩ := hk
    exact ⟨y, ⟨h1, h3 _ _ _ hr'⟩, h2⟩
  | ret =>
    obtain ⟨σ'', h1, h2⟩ := hk
    exact ⟨.ret, σ'', rfl, h2, h1 _ _ _ hr'⟩
  | exit id =>
    obtain ⟨σ'', h1, h2⟩ := hk
    exact ⟨.exit id, σ'', rfl, h2, h1 _ _ _ hr'⟩

/-! ### trees, looked at in a few places -/

inductive VT where
  | leaf (e : Ex) (sz : Nat) (ts : List TV) (ms : List MRes)
  | pre (ps : List Prop) (t : VT)
  | ite (b : Bool) (t e : VT)
  | fail

def viewT (slots ids : List Nat) : Tree → VT
  | .leaf e σ => .leaf e σ.sz (slots.map σ.tmps) (ids.map σ.mem)
  | .pre ps t => .pre ps (viewT slots ids t)
  | .ite b t e => .ite b (viewT slots ids t) (viewT slots ids e)
  | .any _ _ _ => .fail
  | .fail => .fail

def VT.Sat (K : Ex → Nat → List TV → List MRes → Prop) : VT → Prop
  | .leaf e sz ts ms => K e sz ts ms
  | .pre ps t => Conj ps ∧ t.Sat K
  | .ite b t e => (b = true → t.Sat K) ∧ (b = false → e.Sat K)
  | .fail => False

theorem VT.mono {K K' : Ex → Nat → List TV → List MRes → Prop} (h : ∀ e s ts ms, K e s ts ms → K' e s ts ms) : ∀ {t : VT}, t.Sat K → t.Sat K'
  | .leaf _ _ _ _, ht => h _ _ _ _ ht
  | .pre _ _, ht => ⟨ht.1, VT.mono h ht.2⟩
  | .ite _ _ _, ht => ⟨fun e => VT.mono h (ht.1 e), fun e => VT.mono h (ht.2 e)⟩
  | .fail, ht => ht

theorem viewT_sat {slots ids : List Nat} {K : Ex → St → Prop} {K' : Ex → Nat → List TV → List MRes → Prop} (h : ∀ e σ, K' e σ.sz (slots.map σ.tmps) (ids.map σ.mem) → K e σ) : ∀ {t : Tree}, (viewT slots ids t).Sat K' → t.Sat K
  | .leaf _ _, ht => h _ _ ht
  | .pre _ _, ht => ⟨ht.1, viewT_sat h ht.2⟩
  | .ite _ _ _, ht => ⟨fun e => viewT_sat h (ht.1 e), fun e => viewT_sat h (ht.2 e)⟩
  | .any _ _ _, ht => ht.elim
  | .fail, ht => ht

/-- The state of a loop's head: these temporaries, these blocks. -/
def headSt (sz next : Nat) (slots hids : List Nat) (ts : List TV) (ms : List MRes) : St := mkSt sz (slots.zip ts) next (hids.zip ms)

def okHead (next : Nat) (slots hids : List Nat) (ts : List TV) (ms : List MRes) : Bool := okSt (slots.zip ts) next (hids.zip ms)

/-- What is seen says at least what is said. -/
def FitT (r : Nat → Nat) : List TV → List TV → Prop
  | t :: ts, v :: vs => (v = .any ∨ t.soft v = v.rn r) ∧ FitT r ts vs
  | _, [] => True
  | [], _ :: _ => False
def FitM (r : Nat → Nat) (f : Nat → MRes) : List Nat → List MRes → Prop
  | k :: ks, v :: vs => (v = .lost ∨ f (r k) = v.rn r) ∧ FitM r f ks vs
  | _, [] => True
  | [], _ :: _ => False

theorem agreeT_zip {r : Nat → Nat} {σ : St} : ∀ {slots : List Nat} {ts : List TV}, FitT r (slots.map σ.tmps) ts → AgreeT r σ (slots.zip ts)
  | [], _, _ => trivial
  | _ :: _, [], _ => trivial
  | _ :: _, _ :: _, h => ⟨h.1, agreeT_zip h.2⟩
theorem agreeM_zip {r : Nat → Nat} {σ : St} {f : Nat → MRes} : ∀ {hids : List Nat} {ms : List MRes}, (∀ k ∈ hids, f (r k) = σ.mem (r k)) → FitM r f hids ms → AgreeM r σ (hids.zip ms)
  | [], _, _, _ => trivial
  | _ :: _, [], _, _ => trivial
  | t :: _, _ :: _, hf, h => ⟨h.1.imp id fun e => by rw [← hf t (List.mem_cons_self ..)]; exact e, agreeM_zip (fun k hk => hf k (List.mem_cons_of_mem _ hk)) h.2⟩

/-- Where a block is found in a view. -/
def seen (ids : List Nat) (k : Nat) : Bool := ids.any (Nat.beq k)
theorem lkM_seen {mem : Nat → MRes} : ∀ {ids : List Nat} {k : Nat}, seen ids k = true → lkM (ids.zip (ids.map mem)) k = mem k
  | [], _, h => by cases h
  | i :: ids, k, h => by
    simp only [List.map_cons, List.zip_cons_cons, lkM]
    cases hb : Nat.beq k i with
    | true => rw [Nat.eq_of_beq_eq_true hb]; rfl
    | false =>
      refine lkM_seen ?_
      simp only [seen, List.any_cons, hb, Bool.false_or] at h
      exact h

/-- A view, seen as a head by other names. -/
def Fit (next : Nat) (slots hids ids : List Nat) (ts : List TV) (ms : List MRes) (rl : List (Nat × Nat)) (tv : List TV) (mv : List MRes) : Prop :=
  FitT (rnL rl) ts tv ∧ FitM (rnL rl) (lkM (ids.zip ms)) hids mv ∧ (hids.all fun k => seen ids (rnL rl k)) = true ∧
    nodupB (((hids.zip mv).map (·.1)).map (rnL rl)) = true ∧ okHead next slots hids tv mv = true

theorem Fit.weak {σ : St} {sz next : Nat} {slots hids ids : List Nat} {rl : List (Nat × Nat)} {tv : List TV} {mv : List MRes} (hsz : σ.sz = sz) (h : Fit next slots hids ids (slots.map σ.tmps) (ids.map σ.mem) rl tv mv) : Weak σ (headSt sz next slots hids tv mv) := by
  obtain ⟨h1, h2, h3, h4, h5⟩ := h
  exact weak_mk hsz h5 h4 (agreeT_zip h1) (agreeM_zip (fun k hk => lkM_seen (List.all_eq_true.1 h3 k hk)) h2)

/-- What a round, looked at, is to come to. -/
def VRound {α : Type} (sz next : Nat) (slots hids ids : List Nat) (tv : α → List TV) (mv : α → List MRes) (Inv : α → Prop) (μ : α → Nat) (K : Ex → St → Prop) (x : α) (e : Ex) (s : Nat) (ts : List TV) (ms : List MRes) : Prop :=
  s = sz ∧ match e with
    | .norm => ∃ y rl, Inv y ∧ μ y < μ x ∧ Fit next slots hids ids ts ms rl (tv y) (mv y)
    | e => ∃ rl tv' mv', Fit next slots hids ids ts ms rl tv' mv' ∧ K e (headSt sz next slots hids tv' mv')

theorem loop_view (hm : P.follows .mixedOrders = true) (hC : ∀ f C, ctrs f = some C → Sound P f C) {lps : Nat → St → Tree} {body : Code} (hL : ∀ b ∈ loopsOf body, LoopOk P (lps (firstRegion b)) b) {α : Type}
    (sz next : Nat) (slots hids ids : List Nat) (tv : α → List TV) (mv : α → List MRes) (Inv : α → Prop) (μ : α → Nat) {K : Ex → St → Prop}
    (hround : ∀ x, Inv x → ∃ vt, viewT slots ids (sexec P ctrs lps body (headSt sz next slots hids (tv x) (mv x))) = vt ∧ vt.Sat (VRound sz next slots hids ids tv mv Inv μ K x))
    {a : Act} {w : World} {σ : St} (x0 : α) (h0 : Inv x0) (hσ : Weak σ (headSt sz next slots hids (tv x0) (mv x0))) (hr : Rel we σ a w) : (Code.loop body).wp P (PostK we K) a w := by
  refine loop_ok hm hC hL (fun x => headSt sz next slots hids (tv x) (mv x)) Inv μ (fun x hx => ?_) x0 h0 (hσ _ _ _ hr)
  obtain ⟨vt, h1, h2⟩ := hround x hx
  rw [← h1] at h2
  refine viewT_sat (fun e σ hv => ?_) h2
  obtain ⟨hs, hv⟩ := hv
  cases e with
  | norm =>
    obtain ⟨y, rl, h3, h4, h5⟩ := hv
    exact ⟨y, h3, h4, h5.weak hs⟩
  | ret =>
    obtain ⟨rl, tv', mv', h5, h6⟩ := hv
    exact ⟨_, h5.weak hs, h6⟩
  | exit id =>
    obtain ⟨rl, tv', mv', h5, h6⟩ := hv
    exact ⟨_, h5.weak hs, h6⟩

/-! ### a loop over indices -/

/-- Rounds i, i + 1, ..; a round may end it all. -/
def runF {β ε : Type} (step : Nat → β → Sum β ε) : Nat → Nat → β → Sum β ε
  | 0, _, x => .inl x
  | k + 1, i, x => (match step i x with
    | .inl y => runF step k (i + 1) y
    | .inr e => .inr e)
def foldN {β : Type} (step : Nat → β → β) : Nat → Nat → β → β
  | 0, _, x => x
  | k + 1, i, x => foldN step k (i + 1) (step i x)
def isL {β ε : Type} : Sum β ε → Bool
  | .inl _ => true
  | .inr _ => false
def getL {β ε : Type} (d : β) : Sum β ε → β
  | .inl x => x
  | .inr _ => d
def getR {β ε : Type} (d : ε) : Sum β ε → ε
  | .inl _ => d
  | .inr e => e

/-- What a round of a loop over indices is to come to. -/
def RoundF {β ε : Type} (sz next : Nat) (slots hids ids : List Nat) (n : Nat) (tv : Nat → β → List TV) (mv : Nat → β → List MRes) (etv : ε → List TV) (emv : ε → List MRes) (step : Nat → β → Sum β ε) (inv : Nat → β → Prop) (kx : Nat) (eex : Ex) (i : Nat) (x : β)
    (e : Ex) (s : Nat) (ts : List TV) (ms : List MRes) : Prop :=
  s = sz ∧ match e with
    | .norm => ∃ y rl, i < n ∧ step i x = .inl y ∧ inv (i + 1) y ∧ Fit next slots hids ids ts ms rl (tv (i + 1) y) (mv (i + 1) y)
    | e => (e = .exit kx ∧ i = n ∧ ∃ rl, Fit next slots hids ids ts ms rl (tv i x) (mv i x)) ∨ (e = eex ∧ i < n ∧ ∃ err rl, step i x = .inr err ∧ Fit next slots hids ids ts ms rl (etv err) (emv err))

theorem for_loop (hm : P.follows .mixedOrders = true) (hC : ∀ f C, ctrs f = some C → Sound P f C) {lps : Nat → St → Tree} {body : Code} (hL : ∀ b ∈ loopsOf body, LoopOk P (lps (firstRegion b)) b) {β ε : Type}
    {sz next : Nat} {slots hids ids : List Nat} {n : Nat} {tv : Nat → β → List TV} {mv : Nat → β → List MRes} {etv : ε → List TV} {emv : ε → List MRes} {step : Nat → β → Sum β ε} {inv : Nat → β → Prop} {kx : Nat} {eex : Ex} {K : Ex → St → Prop}
    (hround : ∀ i x, inv i x → i ≤ n → ∃ vt, viewT slots ids (sexec P ctrs lps body (headSt sz next slots hids (tv i x) (mv i x))) = vt ∧ vt.Sat (RoundF sz next slots hids ids n tv mv etv emv step inv kx eex i x))
    (x0 : β) (hi0 : inv 0 x0) (hK : match runF step n 0 x0 with | .inl y => K (.exit kx) (headSt sz next slots hids (tv n y) (mv n y)) | .inr e => K eex (headSt sz next slots hids (etv e) (emv e)))
    {a : Act} {w : World} {σ : St} (hσ : Weak σ (headSt sz next slots hids (tv 0 x0) (mv 0 x0))) (hr : Rel we σ a w) : (Code.loop body).wp P (PostK we K) a w := by
  refine loop_view hm hC hL (α := Nat × β) sz next slots hids ids (fun y => tv y.1 y.2) (fun y => mv y.1 y.2) (fun y => y.1 ≤ n ∧ runF step (n - y.1) y.1 y.2 = runF step n 0 x0 ∧ inv y.1 y.2) (fun y => n - y.1) (fun y hy => ?_) (0, x0) ⟨Nat.zero_le _, rfl, hi0⟩ hσ hr
  obtain ⟨i, x⟩ := y
  obtain ⟨hi, hrun, hinv⟩ := hy
  obtain ⟨vt, h1, h2⟩ := hround i x hinv hi
  refine ⟨vt, h1, VT.mono (fun e s ts ms h => ?_) h2⟩
  obtain ⟨hs, h⟩ := h
  refine ⟨hs, ?_⟩
  have hlt : ∀ y, i < n → step i x = y → runF step (n - i) i x = (match y with | .inl z => runF step (n - (i + 1)) (i + 1) z | .inr e => .inr e) := fun y hin hst => by
    rw [show n - i = (n - (i + 1)) + 1 by omega]
    simp only [runF, hst]
  have hend : ∀ (e : Ex), (e = .exit kx ∧ i = n ∧ ∃ rl, Fit next slots hids ids ts ms rl (tv i x) (mv i x)) ∨ (e = eex ∧ i < n ∧ ∃ err rl, step i x = .inr err ∧ Fit next slots hids ids ts ms rl (etv err) (emv err)) →
      ∃ rl tv' mv', Fit next slots hids ids ts ms rl tv' mv' ∧ K e (headSt sz next slots hids tv' mv') := fun e h => by
    rcases h with ⟨rfl, rfl, rl, hf⟩ | ⟨rfl, hin, err, rl, hst, hf⟩
    · rw [Nat.sub_self] at hrun
      simp only [runF] at hrun
      rw [← hrun] at hK
      exact ⟨rl, _, _, hf, hK⟩
    · rw [hlt _ hin hst] at hrun
      simp only at hrun
      rw [← hrun] at hK
      exact ⟨rl, _, _, hf, hK⟩
  cases e with
  | norm =>
    obtain ⟨y, rl, hin, hst, hv, hf⟩ := h
    exact ⟨(i + 1, y), rl, ⟨hin, by rw [← hrun, hlt _ hin hst], hv⟩, by simp only; omega, hf⟩
  | ret => exact hend _ h
  | exit k => exact hend _ h

/-- The summary of such a loop: 'dec' finds the constants and the start in the state. -/
def forT {γ β ε : Type} (sz next : Nat) (slots hids : List Nat) (dec : List TV → List MRes → Option (List Prop × γ × β)) (n : γ → Nat) (tv : γ → Nat → β → List TV) (mv : γ → Nat → β → List MRes) (etv : γ → ε → List TV) (emv : γ → ε → List MRes)
    (step : γ → Nat → β → Sum β ε) (e0 : ε) (kx : Nat) (eex : Ex) (σ : St) : Tree :=
  bif Nat.beq σ.sz sz then (match dec (slots.map σ.tmps) (hids.map σ.mem) with
    | some (ps, c, x) => .pre ps (.ite (isL (runF (step c) (n c) 0 x)) (.leaf (.exit kx) (headSt sz next slots hids (tv c (n c) (getL x (runF (step c) (n c) 0 x))) (mv c (n c) (getL x (runF (step c) (n c) 0 x)))))
      (.leaf eex (headSt sz next slots hids (etv c (getR e0 (runF (step c) (n c) 0 x))) (emv c (getR e0 (runF (step c) (n c) 0 x))))))
    | none => .fail) else .fail
/-- The same, where no round ends it. -/
def forT0 {γ β : Type} (sz next : Nat) (slots hids : List Nat) (dec : List TV → List MRes → Option (List Prop × γ × β)) (n : γ → Nat) (tv : γ → Nat → β → List TV) (mv : γ → Nat → β → List MRes) (step : γ → Nat → β → β) (kx : Nat) (σ : St) : Tree :=
  bif Nat.beq σ.sz sz then (match dec (slots.map σ.tmps) (hids.map σ.mem) with
    | some (ps, c, x) => .pre ps (.leaf (.exit kx) (headSt sz next slots hids (tv c (n c) (foldN (step c) (n c) 0 x)) (mv c (n c) (foldN (step c) (n c) 0 x))))
    | none => .fail) else .fail

/-- The next index. -/
theorem wrap_succ {i n : Nat} (h : i < n) (hn : n ≤ maxLen) : IntKind.i64.wrap ((i : Int) + 1) = ((i + 1 : Nat) : Int) := by
  simp only [maxLen] at hn
  simp only [IntKind.wrap, IntKind.bits, IntKind.signed]
  simp
  omega

theorem runF_inl {β : Type} {step : Nat → β → β} : ∀ {k i : Nat} {x : β}, runF (ε := Empty) (fun i x => .inl (step i x)) k i x = .inl (foldN step k i x)
  | 0, _, _ => rfl
  | k + 1, i, x => by simp only [runF, foldN]; exact runF_inl

/-- A slice that is seen in a state is no longer than memory bears. -/
theorem len_le {σ : St} {a : Act} {w : World} (hr : Rel we σ a w) {t : Nat} {nw : Bool} {m : SL} (h : σ.tmps t = .val (.fv (.one (.slc nw m)))) : m.len ≤ maxLen := by
  obtain ⟨E, hr⟩ := hr
  have := hr.tmp t
  rw [h] at this
  rcases (show CR E (.slc nw m) _ from this.1) with ⟨_, h0⟩ | ⟨_, _, _, h1, _⟩
  · omega
  · exact h1.2
theorem row_le {σ : St} {a : Act} {w : World} (hr : Rel we σ a w) {id : Nat} {e : TypeId} {m : SL} (h : σ.mem id = .val (.row e m)) : m.len ≤ maxLen := by
  obtain ⟨E, hr⟩ := hr
  obtain ⟨xs, hown, _⟩ := hr.mem id _ (.inl h)
  rcases hown.2 with ⟨_, h0⟩ | ⟨_, _, _, _, _, _, h1, h2, _⟩
  · omega
  · omega

theorem forT_ok (hm : P.follows .mixedOrders = true) (hC : ∀ f C, ctrs f = some C → Sound P f C) {lps : Nat → St → Tree} {body : Code} (hL : ∀ b ∈ loopsOf body, LoopOk P (lps (firstRegion b)) b) {γ β ε : Type}
    {sz next : Nat} {slots hids : List Nat} (ids : List Nat) {dec : List TV → List MRes → Option (List Prop × γ × β)} {n : γ → Nat} {tv : γ → Nat → β → List TV} {mv : γ → Nat → β → List MRes} {etv : γ → ε → List TV} {emv : γ → ε → List MRes} {step : γ → Nat → β → Sum β ε} {e0 : ε} {kx : Nat} {eex : Ex}
    {okc bn : γ → Prop} {inv : γ → Nat → β → Prop} (hdec : ∀ ts ms ps c x, dec ts ms = some (ps, c, x) → Conj ps → ts = tv c 0 x ∧ ms = mv c 0 x ∧ okc c ∧ inv c 0 x) (hfit : ∀ c x, Fit next slots hids hids (tv c 0 x) (mv c 0 x) [] (tv c 0 x) (mv c 0 x))
    (hn : ∀ (we : World) (σ : St) (a : Act) (w : World) c x, Rel we σ a w → slots.map σ.tmps = tv c 0 x → hids.map σ.mem = mv c 0 x → bn c)
    (hround : ∀ c i x, okc c → bn c → inv c i x → i ≤ n c → ∃ vt, viewT slots ids (sexec P ctrs lps body (headSt sz next slots hids (tv c i x) (mv c i x))) = vt ∧ vt.Sat (RoundF sz next slots hids ids (n c) (tv c) (mv c) (etv c) (emv c) (step c) (inv c) kx eex i x)) :
    LoopOk P (forT sz next slots hids dec n tv mv etv emv step e0 kx eex) body := by
  intro we K σ a w hs hr
  unfold forT at hs
  cases hz : Nat.beq σ.sz sz with
  | false => rw [hz] at hs; exact hs.elim
  | true =>
    rw [hz] at hs
    simp only [cond_true] at hs
    split at hs
    · rename_i ps c x hd
      obtain ⟨hps, hs⟩ := hs
      obtain ⟨h1, h2, hk, hi0⟩ := hdec _ _ _ _ _ hd hps
      refine for_loop hm hC hL (hround c · · hk (hn we σ a w c x hr h1 h2)) x hi0 ?_ (Fit.weak (ids := hids) (rl := []) (Nat.eq_of_beq_eq_true hz) ?_) hr
      · obtain ⟨k1, k2⟩ := hs
        cases hrun : runF (step c) (n c) 0 x with
        | inl y => rw [hrun] at k1; exact k1 rfl
        | inr e => rw [hrun] at k2; exact k2 rfl
      · rw [h1, h2]; exact hfit c x
    · exact hs.elim

theorem forT0_ok (hm : P.follows .mixedOrders = true) (hC : ∀ f C, ctrs f = some C → Sound P f C) {lps : Nat → St → Tree} {body : Code} (hL : ∀ b ∈ loopsOf body, LoopOk P (lps (firstRegion b)) b) {γ β : Type}
    {sz next : Nat} {slots hids : List Nat} (ids : List Nat) {dec : List TV → List MRes → Option (List Prop × γ × β)} {n : γ → Nat} {tv : γ → Nat → β → List TV} {mv : γ → Nat → β → List MRes} {step : γ → Nat → β → β} {kx : Nat}
    {okc bn : γ → Prop} {inv : γ → Nat → β → Prop} (hdec : ∀ ts ms ps c x, dec ts ms = some (ps, c, x) → Conj ps → ts = tv c 0 x ∧ ms = mv c 0 x ∧ okc c ∧ inv c 0 x) (hfit : ∀ c x, Fit next slots hids hids (tv c 0 x) (mv c 0 x) [] (tv c 0 x) (mv c 0 x))
    (hn : ∀ (we : World) (σ : St) (a : Act) (w : World) c x, Rel we σ a w → slots.map σ.tmps = tv c 0 x → hids.map σ.mem = mv c 0 x → bn c)
    (hround : ∀ c i x, okc c → bn c → inv c i x → i ≤ n c → ∃ vt, viewT slots ids (sexec P ctrs lps body (headSt sz next slots hids (tv c i x) (mv c i x))) = vt ∧ vt.Sat (RoundF sz next slots hids ids (n c) (tv c) (mv c) (ε := Empty) (fun _ => []) (fun _ => []) (fun i x => .inl (step c i x)) (inv c) kx .norm i x)) :
    LoopOk P (forT0 sz next slots hids dec n tv mv step kx) body := by
  intro we K σ a w hs hr
  unfold forT0 at hs
  cases hz : Nat.beq σ.sz sz with
  | false => rw [hz] at hs; exact hs.elim
  | true =>
    rw [hz] at hs
    simp only [cond_true] at hs
    split at hs
    · rename_i ps c x hd
      obtain ⟨hps, hs⟩ := hs
      obtain ⟨h1, h2, hk, hi0⟩ := hdec _ _ _ _ _ hd hps
      refine for_loop hm hC hL (hround c · · hk (hn we σ a w c x hr h1 h2)) x hi0 ?_ (Fit.weak (ids := hids) (rl := []) (Nat.eq_of_beq_eq_true hz) ?_) hr
      · rw [runF_inl]; exact hs
      · rw [h1, h2]; exact hfit c x
    · exact hs.elim

/-! ### a loop whose rounds are counted: unrolled -/

/-- The first branch is taken as told; its condition must be computed to be so. -/
def Tree.told (b : Bool) : Tree → Tree
  | .pre ps t => .pre ps (t.told b)
  | .ite c t e => (match c, b with
    | true, true => t
    | false, false => e
    | _, _ => .fail)
  | t => t

theorem told_sat {K : Ex → St → Prop} {b : Bool} : ∀ {t : Tree}, (t.told b).Sat K → t.Sat K
  | .pre _ _, h => ⟨h.1, told_sat h.2⟩
  | .ite c t e, h => by
    cases c <;> cases b
    · exact ⟨fun e => (by cases e), fun _ => h⟩
    · exact h.elim
    · exact h.elim
    · exact ⟨fun _ => h, fun e => (by cases e)⟩
  | .leaf _ _, h => h
  | .any _ _ _, h => h
  | .fail, h => h

/-- The rounds of a loop, one for each word that tells whether its condition holds. -/
def unroll (P : Program) (ctrs : FuncId → Option Contract) (lps : Nat → St → Tree) (body : Code) : List Bool → St → Tree
  | [], _ => .fail
  | b :: bs, σ => ((sexec P ctrs lps body σ).told b).bind (unroll P ctrs lps body bs)

theorem unroll_ok (hm : P.follows .mixedOrders = true) (hC : ∀ f C, ctrs f = some C → Sound P f C) {lps : Nat → St → Tree} {body : Code} (hL : ∀ b ∈ loopsOf body, LoopOk P (lps (firstRegion b)) b) (bs : List Bool) :
    LoopOk P (unroll P ctrs lps body bs) body := by
  intro we K σ a w hs hr
  refine wp_loop_ghost (fun (x : List Bool × St) a w => (unroll P ctrs lps body x.1 x.2).Sat K ∧ Rel we x.2 a w) (fun x => x.1.length) (bs, σ) ⟨hs, hr⟩ ?_
  rintro ⟨bs, σ⟩ a w ⟨hs, hr⟩
  cases bs with
  | nil => exact hs.elim
  | cons b bs =>
    refine wp_mono (sexec_sound hm hC body hL _ σ a w (told_sat (b := b) (K := fun e σ => match e with | .norm => (unroll P ctrs lps body bs σ).Sat K | e => K e σ) ?_) hr) fun e a' w' he => ?_
    · exact bind_sat hs
    · obtain ⟨ex, σ', rfl, hk, hr'⟩ := he
      cases ex with
      | norm => exact ⟨(bs, σ'), ⟨hk, hr'⟩, Nat.lt_succ_self _⟩
      | ret => exact ⟨.ret, σ', rfl, hk, hr'⟩
      | exit id => exact ⟨.exit id, σ', rfl, hk, hr'⟩

/-! ### a slice of the call's own, from now on only read -/

/-- The slice of block 'id' is read only from here on. -/
def frzSt (id : Nat) (σ : St) : St :=
  match σ.mem id with
  | .val (.row _ m) => bif m.k.flat then { σ with
      tmps := fun t => match σ.tmps t with
        | .val (.fv (.one (.own j))) => bif Nat.beq j id then .val (.fv (.one (.slc true m))) else .val (.fv (.one (.own j)))
        | v => v
      mem := setM σ.mem id .lost } else σ
  | _ => σ

theorem frz_weak (id : Nat) (σ : St) : Weak σ (frzSt id σ) := by
  rintro we a w ⟨E, h⟩
  unfold frzSt
  split
  · rename_i e m hmem
    cases hfl : m.k.flat with
    | false => exact ⟨E, h⟩
    | true =>
      obtain ⟨xs, hown, hrow⟩ := h.mem id _ (.inl hmem)
      let E' : Env := { E with F := fun b => E.F b ∨ (E.γ id).ownBlock = some b, wf := w }
      have hlt : ∀ b, (E.γ id).ownBlock = some b → b < w.heap.size ∧ we.heap.size ≤ b := fun b hb => by
        rcases hown.2 with ⟨h1, _⟩ | ⟨g, cap, cur, h1, hge, hgg, _⟩
        · rw [h1] at hb; cases hb
        · rw [h1] at hb
          simp only [Value.ownBlock, Option.some.injEq] at hb
          subst hb
          exact ⟨heap_lt hgg, hge⟩
      have hext : Ext σ.mem E E' := ⟨fun _ _ => rfl, fun _ _ => rfl, fun b hb => ⟨.inl hb, (h.fz b hb).2⟩, Nat.le_refl _⟩
      have hlive : ∀ k, Live σ.mem k → Live (setM σ.mem id .lost) k := fun k hk => by
        unfold Live setM
        cases hb : Nat.beq k id with
        | true => simp
        | false => exact hk
      have hhas : ∀ {k : Nat} {r : Res}, Has (setM σ.mem id .lost) a.tmps k r → k ≠ id ∧ Has σ.mem a.tmps k r := fun {k r} hh => by
        unfold Has setM at hh
        cases hb : Nat.beq k id with
        | true =>
          rw [hb] at hh
          rcases hh with hh | ⟨_, _, hh, _⟩ <;> cases hh
        | false =>
          rw [hb] at hh
          exact ⟨fun e => by subst e; simp at hb, hh⟩
      have hslc : ∀ x, CR E (.own id) x → CR E' (.slc true m) x := fun x hx => by
        have hx : x = E.γ id := hx.1
        rcases hown.2 with ⟨h1, h2⟩ | ⟨g, cap, cur, h1, hge, hgg, hnc, hcm, hcs, htk⟩
        · exact .inl ⟨by rw [hx, h1], h2⟩
        · refine .inr ⟨⟨g, 0, none⟩, cap, by rw [hx, h1], ⟨hnc, Nat.le_trans hnc hcm⟩, fun i hi => ⟨⟨.inr (by rw [h1]; rfl), by show E.n0 ≤ g; rw [h.n0]; exact hge⟩, fun j c hj => ?_⟩⟩
          obtain ⟨y, h3, h4⟩ := hrow i hi j c hj
          refine ⟨y, ?_, CR_flat (flat_mem hfl hj) h4⟩
          show w.cell? _ = _
          rw [add_lit, cell_of_blk hgg]
          have hb : (i + 1) * m.sz ≤ m.len * m.sz := Nat.mul_le_mul_right _ hi
          rw [Nat.add_mul, Nat.one_mul] at hb
          have := SL.at_lt hj
          rw [← htk, List.getElem?_take, if_pos (by omega)] at h3
          simpa using h3
      simp only [cond_true]
      have hall : ∀ (v : PV) (x : Value), PR E v x ∧ Fits σ.mem v → PR E' v x ∧ Fits (setM σ.mem id .lost) v := fun v x hx =>
        ⟨PR_ext hext hx.2 hx.1, fun c hc => fits_mono hlive (hx.2 c hc)⟩
      have htv : ∀ (v : TV) (x : Value), TVRel E σ.mem a.tmps v x → TVRel E' (setM σ.mem id .lost) a.tmps v x := fun v x hx => by
        cases v with
        | any => trivial
        | val v => exact hall v x hx
        | opt gt want v => exact ⟨fun e => hall v x (hx.1 e), hx.2⟩
      refine ⟨E', h.defers, h.len, fun t => ?_, h.below, h.n0, fun b hb => .inl (h.f0 b hb), fun b hb => ?_, fun k hk => ?_, fun k r hh => ?_, fun k k' r r' hh hh' hne => ?_, fun k r hh b hb hF => ?_⟩
      · have ht := h.tmp t
        simp only
        split
        · rename_i j hj
          rw [hj] at ht
          cases hb : Nat.beq j id with
          | true =>
            have := Nat.eq_of_beq_eq_true hb
            subst this
            exact ⟨hslc _ ht.1, fun c hc => by simp only [PV.cells, FV.cells, List.mem_singleton] at hc; subst hc; trivial⟩
          | false => exact htv _ _ ht
        · exact htv _ _ ht
      · rcases hb with hb | hb
        · exact ⟨(h.fz b hb).1, rfl⟩
        · exact ⟨(hlt b hb).1, rfl⟩
      · show setM σ.mem id .lost k = .free
        unfold setM
        cases hb : Nat.beq k id with
        | true =>
          have := Nat.eq_of_beq_eq_true hb
          subst this
          rw [h.nx k hk] at hmem; cases hmem
        | false => exact h.nx k hk
      · obtain ⟨_, hh⟩ := hhas hh
        have hl : Live σ.mem k := by
          rcases hh with hh | ⟨_, _, hh, _⟩ <;> (unfold Live; rw [hh]; simp)
        exact (h.mem k r hh).ext hext hl hlive
      · exact h.sep k k' r r' (hhas hh).2 (hhas hh').2 hne
      · obtain ⟨hne, hh⟩ := hhas hh
        have hb' : blkNo E k r = some b := by cases r <;> exact hb
        rcases hF with hF | hF
        · exact h.sepF k r hh b hb' hF
        · exact h.sep k id r _ hh (.inl hmem) hne b hb' hF
  · exact ⟨E, h⟩

/-- The slice in this temporary is only read from here on. -/
def rdAt (t : Nat) (σ : St) : St :=
  match σ.tmps t with
  | .val (.fv (.one (.own id))) => soften t (frzSt id σ)
  | _ => soften t σ
where
  soften (t : Nat) (σ : St) : St := { σ with tmps := fun k => bif Nat.beq k t then (σ.tmps k).soft (.val (.fv (.one (.slc false ⟨.i64, []⟩)))) else σ.tmps k }
theorem soften_weak (t : Nat) (σ : St) : Weak σ (rdAt.soften t σ) := by
  rintro we a w ⟨E, h⟩
  refine ⟨E, h.defers, h.len, fun k => ?_, h.below, h.n0, h.f0, h.fz, h.nx, h.mem, h.sep, h.sepF⟩
  simp only [rdAt.soften]
  cases Nat.beq k t with
  | true => exact TV.soft_rel (h.tmp k) _
  | false => exact h.tmp k
theorem rd_weak (t : Nat) (σ : St) : Weak σ (rdAt t σ) := by
  unfold rdAt
  split
  · exact fun we a w hr => soften_weak _ _ we a w (frz_weak _ _ we a w hr)
  · exact soften_weak _ _
theorem LoopOk.rd {T : St → Tree} {body : Code} (t : Nat) (h : LoopOk P T body) : LoopOk P (fun σ => T (rdAt t σ)) body :=
  fun we K _ a w hs hr => h we K _ a w hs (rd_weak t _ we a w hr)
end
end Go.Eng

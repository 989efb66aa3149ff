/- THE ENGINE, PART 5: regions, code, functions. -/
import Derived.Test.YtleooijgkdllfaaEngOpsD
namespace Go.Eng
open Go.RowKit

section
variable {P : Program} {ctrs : FuncId → Option Contract} {we : World} {E : Env} {σ : St} {a : Act} {w : World} {o : Oper} {gs : List (Nat × Bool)} {self : Nat} {ids : List Nat} {cont : List Res} {out : Out}

theorem core_sound (hC : ∀ f C, ctrs f = some C → Sound P f C) (h : RelE we E σ a w) (hg : Holds a gs) (hp : plan o (rdOp σ.tmps gs) = ids) (hct : contOf gs σ.mem ids = some cont)
    (hc : core P ctrs o (rdOp σ.tmps) gs self ids cont = some out) (hn : Conj out.need) : COK P we E σ.mem a w o self ids cont out := by
  cases ho : o.op with
  | move x => exact core_move h hg (.inl ho) hc
  | assign x => exact core_move h hg (.inr ho) hc
  | pick c x y => exact core_pick h hg ho hc
  | alloc T => exact core_alloc ho hc
  | box T x => exact core_box h hg ho hc
  | build T ps => exact core_build h hg ho hc
  | buildSlice T n ps => exact core_buildSlice h hg ho hc
  | makeSlice T x y => exact core_makeSlice h hg ho hc hn
  | load T x => exact core_load h hg ho hp hct hc hn
  | store T x v => exact core_store h hg ho hp hct hc hn
  | nilCheck x => exact core_nilCheck h hg ho hc
  | binOp op T x y T' => exact core_binOp h hg ho hc hn
  | unOp op T x => exact core_unOp h hg ho hc
  | convert s d x => exact core_convert h hg ho hp hct hc hn
  | fieldAddr S x f => exact core_fieldAddr h hg ho hc
  | field T x f => exact core_field h hg ho hc
  | indexAddr T x i => exact core_indexAddr h hg ho hp hct hc hn
  | index T x i => exact core_index h hg ho hc hn
  | extract x k => exact core_extract h hg ho hc
  | makeFunc fn first captured => exact core_makeFunc h hg ho hc
  | slice T x lo hi mx => exact core_slice h hg ho hc hn
  | call c =>
    cases hcal : c.callee with
    | value x => exact core_callFunc hC h hg ho hcal hct hc hn
    | builtin b =>
      cases b with
      | len => exact core_len h hg ho hcal hp hct hc
      | min => exact core_min h hg ho hcal hc
      | max => exact core_max h hg ho hcal hc
      | append => exact core_append h hg ho hcal hp hct hc hn
      | copy => exact core_copy h hg ho hcal hp hct hc
      | _ => simp only [core, ho, hcal] at hc; cases hc
    | invoke r m => simp only [core, ho, hcal] at hc; cases hc
  | _ => simp only [core, ho] at hc; cases hc

/-! ### one step -/

theorem TVRel.weaken {mem mem' : Nat → MRes} {tmps : Array Value} {tv : TV} {x : Value} (hl : ∀ k, Live mem k → Live mem' k) (h : TVRel E mem tmps tv x) : TVRel E mem' tmps tv x := h.ext (Ext.refl _ _) hl

/-- The world that a stored row leaves. -/
theorem below_grown (h : RelE we E σ a w) {w' : World} {row : Option Nat} (hg : w.grownBy w' row) (hr : ∀ k, row = some k → we.heap.size ≤ k) : Below we.heap.size we w' := h.below.grown hg h.below.size hr

/-- A world that grew by something of the call's own. -/
theorem RelE.grownNone (h : RelE we E σ a w) {w' : World} (hg : w.grownBy w' none) : RelE we E σ a w' :=
  h.grow ⟨hg.os, hg.tape, hg.output, hg.size, fun k hk => hg.block k hk (by simp)⟩

/-- A block comes into being. -/
theorem RelE.alloc (h : RelE we E σ a w) (hf : σ.mem self = .free) (hlt : self < σ.next) {T : TypeId} {cs : List Cell} {xs : List Value} (hcs : CsR E cs xs) (hfit : ∀ c ∈ cs, c.fits σ.mem) {m : MRes} (hm : m = .val (.blk T cs) ∨ ∃ gt want, m = .opt gt want (.blk T cs)) :
    RelE we (E.setβ self w.heap.size) { sz := σ.sz, tmps := σ.tmps, next := σ.next, mem := setM σ.mem self m } a (w.alloc (.cells xs.toArray T)) := by
  have he := Ext.setβ hf E w.heap.size
  have hmf : m ≠ .free := by rcases hm with rfl | ⟨_, _, rfl⟩ <;> simp
  have hself : (E.setβ self w.heap.size).β self = w.heap.size := by simp [Env.setβ]
  refine (h.grownNone (World.grownBy_alloc w _ none)).make he rfl rfl rfl hlt hm ?_ ?_ ?_
  · refine ⟨by rw [hself]; exact h.below.size, ⟨xs, by rw [hself]; exact heap_alloc_new w _, CsR_ext he hfit hcs⟩, fun c hc => fits_mono (Live_set hmf) (hfit c hc)⟩
  · intro k r' hh b hb e
    simp only [blkNo, hself, Option.some.injEq] at e
    have := ((h.mem k r' hh).lt hb).2
    omega
  · intro b hb hF
    simp only [blkNo, hself, Option.some.injEq] at hb
    have := (h.fz b hF).1
    omega

/-- A row comes into being. -/
theorem RelE.newRow (h : RelE we E σ a w) (hf : σ.mem self = .free) (hlt : self < σ.next) {e : TypeId} {m : SL} {x : Value} {xs : List Value} (ho : w.ownsRow we.heap.size e m.sz x m.len xs) (hx : RowR E m xs) {mr : MRes} (hm : mr = .val (.row e m) ∨ ∃ gt want, mr = .opt gt want (.row e m))
    (hs : ∀ k r', Has σ.mem a.tmps k r' → ∀ b, blkNo E k r' = some b → x.ownBlock ≠ some b) (hF : ∀ b, x.ownBlock = some b → ¬ E.F b) :
    RelE we (E.setγ self x) { sz := σ.sz, tmps := σ.tmps, next := σ.next, mem := setM σ.mem self mr } a w := by
  have he := Ext.setγ hf E x
  have hself : (E.setγ self x).γ self = x := by simp [Env.setγ]
  refine h.make he rfl rfl rfl hlt hm ?_ ?_ ?_
  · exact ⟨xs, by rw [hself]; exact ho, RowR_ext he hx⟩
  · intro k r' hh b hb
    simp only [blkNo, hself]
    exact hs k r' hh b hb
  · intro b hb
    simp only [blkNo, hself] at hb
    exact hF b hb

/-- More blocks that do not change any more. -/
theorem RelE.addF (h : RelE we E σ a w) (G : Nat → Prop) (hG : ∀ b, G b → b < w.heap.size) (hs : ∀ k r, Has σ.mem a.tmps k r → ∀ b, blkNo E k r = some b → ¬ G b) : RelE we { E with wf := w, F := fun b => E.F b ∨ G b } σ a w := by
  have he : Ext σ.mem E { E with wf := w, F := fun b => E.F b ∨ G b } := ⟨fun _ _ => rfl, fun _ _ => rfl, fun b hF => ⟨.inl hF, (h.fz b hF).2⟩, Nat.le_refl _⟩
  refine ⟨h.defers, h.len, fun t => (h.tmp t).ext he fun _ hk => hk, h.below, h.n0, fun b hb => .inl (h.f0 b hb), fun b hF => ?_, h.nx, fun k r hh => (h.mem k r hh).ext he hh.live fun _ hk => hk, fun k k' r r' h1 h2 hne b hb => ?_, fun k r hh b hb hF => ?_⟩
  · rcases hF with hF | hF
    · exact ⟨(h.fz b hF).1, rfl⟩
    · exact ⟨hG b hF, rfl⟩
  · rw [blkNo_ext he h1.live] at hb
    rw [blkNo_ext he h2.live]
    exact h.sep k k' r r' h1 h2 hne b hb
  · rw [blkNo_ext he hh.live] at hb
    rcases hF with hF | hF
    · exact h.sepF k r hh b hb hF
    · exact hs k r hh b hb hF

theorem own_one {w : World} {e : TypeId} {m : SL} {xs : List Value} {x : Value} {n0 : Nat} (ho : w.ownsRow n0 e m.sz x m.len xs) : x.oneCell' = true := by
  rcases ho.2 with ⟨rfl, _⟩ | ⟨g, cap, cur, rfl, _⟩ <;> rfl

end

section
variable {P : Program} {ctrs : FuncId → Option Contract} {we : World} {ops : Array Oper} {base : Nat} {Q : Exit → Act → World → Prop}

theorem guardOf_none {o : Oper} (h : guardOf ops o = some none) : o.guard = none := by
  unfold guardOf at h
  split at h
  · assumption
  · split at h <;> simp at h

theorem guardOf_some {o : Oper} {d : Nat} {want : Bool} (h : guardOf ops o = some (some (d, want))) : ∃ j, o.guard = some (j, want) ∧ (ops[j]?).bind (·.dst) = some d := by
  unfold guardOf at h
  split at h
  · simp at h
  · rename_i j w' hg
    split at h
    · rename_i d' hd
      simp at h
      exact ⟨j, by rw [hg, h.2], by rw [hd, h.1]⟩
    · simp at h

/-- The bool that a guard's temporary holds; 'none' where it holds no bool. -/
theorem yielded_eq {j d : Nat} {tmps : Array Value} (hd : (ops[j]?).bind (·.dst) = some d) (b : Bool) : (yielded ops tmps j == some b) = true ↔ (tmps.getD d undef = .bool b ∧ d < tmps.size) := by
  unfold yielded
  rw [hd]
  simp only [Option.bind_some]
  by_cases hlt : d < tmps.size
  · rw [Array.getElem?_eq_getElem hlt, Array.getD_eq_getD_getElem?, Array.getElem?_eq_getElem hlt]
    simp only [Option.getD_some, hlt, and_true]
    cases tmps[d] <;> simp
  · rw [Array.getElem?_eq_none (by omega)]
    simp [hlt]

/-- How a guard marks what it lets come about. -/
inductive Marks' : (PV → TV) → (Res → MRes) → Option (Nat × Bool) → Prop
  | plain : Marks' .val .val none
  | guarded (d : Nat) (want : Bool) : Marks' (.opt d want) (.opt d want) (some (d, want))

theorem Marks'.tv {tw : PV → TV} {mw : Res → MRes} {g : Option (Nat × Bool)} (h : Marks' tw mw g) {E : Env} {mem : Nat → MRes} {tmps : Array Value} {v : PV} {x : Value} (hg : ∀ d want, g = some (d, want) → tmps.getD d undef = .bool want)
    (hx : PR E v x) (hv : Fits mem v) : TVRel E mem tmps (tw v) x := by
  cases h with
  | plain => exact ⟨hx, hv⟩
  | guarded d want => exact ⟨fun _ => ⟨hx, hv⟩, fun hn => absurd (hg d want rfl) hn⟩

theorem Marks'.mr {tw : PV → TV} {mw : Res → MRes} {g : Option (Nat × Bool)} (h : Marks' tw mw g) (r : Res) : mw r = .val r ∨ ∃ gt want, mw r = .opt gt want r := by
  cases h with
  | plain => exact .inl rfl
  | guarded d want => exact .inr ⟨d, want, rfl⟩

theorem Marks'.noOpt {tw : PV → TV} {mw : Res → MRes} {g : Option (Nat × Bool)} (h : Marks' tw mw g) {σ : St} {d id : Nat} {r : Res} (hn : NoOptOn σ d) (hg : ∀ w, g ≠ some (d, w)) : NoOptOn { sz := σ.sz, tmps := σ.tmps, next := σ.next, mem := setM σ.mem id (mw r) } d where
  tmp := hn.tmp
  mem := fun k w r' hk => by
    by_cases hki : id = k
    · subst hki
      simp only at hk
      rw [setM_self] at hk
      cases h with
      | plain => simp at hk
      | guarded d' want => simp at hk; exact hg want (by rw [hk.1])
    · simp only at hk
      rw [setM_ne _ _ hki] at hk
      exact hn.mem k w r' hk

/-- The state behind an operation. -/
def after (tw : PV → TV) (mw : Res → MRes) (out : Out) (σ : St) (o : Oper) (self : Nat) (fp : List Nat) : St :=
  { sz := σ.sz, tmps := putTmp σ.tmps o.dst (tvOf tw out.val), next := σ.next,
    mem := applyU σ.mem (match out.wr, out.new with | none, none => [] | none, some r => [(self, mw r)] | some l, none => fp.zip l | some l, some r => fp.zip l ++ [(self, mw r)]) }

theorem cok_wp {E : Env} {σ : St} {a : Act} {w : World} {o : Oper} {self : Nat} {ids : List Nat} {cont : List Res} {out : Out} (h : RelE we E σ a w) {tw : PV → TV} {mw : Res → MRes} {g : Option (Nat × Bool)} (hm : Marks' tw mw g)
    (hok : COK P we E σ.mem a w o self ids cont out) (hno : ∀ d, o.dst = some d → NoOptOn σ d) (hgd : ∀ d, o.dst = some d → ∀ w, g ≠ some (d, w)) (hg : ∀ d want, g = some (d, want) → a.tmps.getD d undef = .bool want)
    (hfree : σ.mem self = .free) (hlt : self < σ.next) (hwr : out.wr.isSome = true → ∀ id r rest rest', ids = id :: rest → cont = r :: rest' → σ.mem id = .val r) (hd : ∀ d, o.dst = some d → d < σ.sz)
    {K : Act → World → Prop} (hK : ∀ a' w', Rel we (after tw mw out σ o self ids) a' w' → K a' w') : o.wp P a w K Q := by
  unfold Oper.wp
  have hg' : ∀ x d want, g = some (d, want) → (a.put o.dst x).tmps.getD d undef = .bool want := fun x d want e => by
    rw [getD_put_ne (fun e' => hgd d e' want e)]; exact hg d want e
  have hlive : ∀ r, Live (setM σ.mem self (mw r)) self := fun r => by
    unfold Live
    rw [setM_self]
    rcases hm.mr r with e | ⟨_, _, e⟩ <;> rw [e] <;> simp
  rcases hok with ⟨v, x, hv, hnew, hw, hpr, hfit, hrun⟩ | ⟨v, f, args, hv, hnew, hw, hfit, hrun, hcalls⟩ | ⟨e, m, f, args, hv, hnew, hw, hrun, hcalls⟩ | ⟨T, cs, xs, hv, hnew, hw, hcs, hfit, hrun⟩ | ⟨id, r, r', w', nx, hids, hcont, hv, hnew, hw, hnx, hrun, hgr, hbl, hrr⟩ |
    ⟨e, m, x, xs, w', hv, hnew, hw, hrun, hown, hrow, hgr, hfresh⟩ | ⟨e, m, x, xs, w', id, rest, r, rest', hids, hcont, hv, hnew, hw, hrun, hown, hrow, hgr, hfresh⟩ | ⟨v, x, w', hv, hnew, hw, hfit, hrun, hb, hpr⟩ | ⟨e, m, x, w', id, hids, hcont, hv, hnew, hw, hrun, hgr, hbx, hcr⟩
  · have hst : after tw mw out σ o self ids = { sz := σ.sz, tmps := putTmp σ.tmps o.dst (tw v), next := σ.next, mem := σ.mem } := by simp only [after, hv, hnew, hw, applyU, tvOf]
    rw [hst] at hK
    rw [hrun]
    exact hK _ _ ⟨E, h.put hd hno fun d _ => hm.tv (hg' _) hpr hfit⟩
  · have hst : after tw mw out σ o self ids = { sz := σ.sz, tmps := putTmp σ.tmps o.dst (tw v), next := σ.next, mem := σ.mem } := by simp only [after, hv, hnew, hw, applyU, tvOf]
    rw [hst] at hK
    rw [hrun]
    refine hcalls.mono fun e w' he => ?_
    obtain ⟨x, rfl, hb, hpr⟩ := he
    exact hK _ _ ⟨E.frz w w', (h.frz hb).1.put hd hno fun d _ => hm.tv (hg' _) hpr fun c hc => fits_mono (fun k hk => absurd rfl hk) (hfit c hc)⟩
  · have hst : after tw mw out σ o self ids = { sz := σ.sz, tmps := putTmp σ.tmps o.dst (tw (.fv (.one (.own self)))), next := σ.next, mem := setM σ.mem self (mw (.row e m)) } := by simp only [after, hv, hnew, hw, applyU, tvOf]
    rw [hst] at hK
    rw [hrun]
    refine hcalls.mono fun ex w' he => ?_
    obtain ⟨x, xs, rfl, hb, hown, hrow⟩ := he
    have h1 := (h.grow hb).newRow hfree hlt (hown.mono h.below.size) hrow (hm.mr (.row e m)) (fun k r' hh b hbk e => by
      have h1 := (hown.lt b e).1
      have h2 := ((h.mem k r' hh).lt hbk).2
      omega) (fun b e hF => by
      have h1 := (hown.lt b e).1
      have h2 := (h.fz b hF).1
      omega)
    exact hK _ _ ⟨E.setγ self x, h1.put hd (fun d hd => hm.noOpt (hno d hd) (hgd d hd)) fun d _ => hm.tv (v := .fv (.one (.own self))) (hg' _) ⟨by simp [Env.setγ], own_one hown⟩ (fits_one (c := .own self) (hlive _))⟩
  · have hst : after tw mw out σ o self ids = { sz := σ.sz, tmps := putTmp σ.tmps o.dst (tw (.fv (.one (.ref self 0)))), next := σ.next, mem := setM σ.mem self (mw (.blk T cs)) } := by simp only [after, hv, hnew, hw, applyU, tvOf]
    rw [hst] at hK
    rw [hrun]
    have h1 := RelE.alloc h hfree hlt hcs hfit (hm.mr (.blk T cs))
    exact hK _ _ ⟨E.setβ self w.heap.size, h1.put hd (fun d hd => hm.noOpt (hno d hd) (hgd d hd)) fun d _ => hm.tv (v := .fv (.one (.ref self 0))) (hg' _) (show _ = _ by simp [Env.setβ]) (fits_one (c := .ref self 0) (hlive _))⟩
  · have hst : after tw mw out σ o self ids = { sz := σ.sz, tmps := putTmp σ.tmps o.dst .any, next := σ.next, mem := setM σ.mem id (.val r') } := by simp only [after, hv, hw, hnew, hids, List.zip_cons_cons, List.zip_nil_left, applyU, tvOf]
    rw [hst] at hK
    rw [hrun]
    have hmem := hwr (by rw [hw]; rfl) id _ _ _ hids hcont
    have h0 := h.mem id _ (.inl hmem)
    have h1 : RelE we E { sz := σ.sz, tmps := σ.tmps, next := σ.next, mem := setM σ.mem id (.val r') } a w' :=
      h.write hmem (.inr ⟨r', rfl, hbl, hrr _ (Live_set (by simp))⟩) (below_grown h hgr fun k e => (h0.lt e).1) hgr.size fun b hne hb => hgr.block b hb fun e => hne e.symm
    rcases hnx with rfl | ⟨x, rfl⟩
    · refine hK _ _ ⟨E, h1.put hd (fun d hd => ⟨(hno d hd).tmp, fun k w' r hk => ?_⟩) fun d _ => trivial⟩
      by_cases hki : id = k
      · subst hki
        simp only at hk
        rw [setM_self] at hk
        simp at hk
      · simp only at hk
        rw [setM_ne _ _ hki] at hk
        exact (hno d hd).mem k w' r hk
    · refine hK _ _ ⟨E, h1.put hd (fun d hd => ⟨(hno d hd).tmp, fun k w' r hk => ?_⟩) fun d _ => trivial⟩
      by_cases hki : id = k
      · subst hki
        simp only at hk
        rw [setM_self] at hk
        simp at hk
      · simp only at hk
        rw [setM_ne _ _ hki] at hk
        exact (hno d hd).mem k w' r hk
  · have hst : after tw mw out σ o self ids = { sz := σ.sz, tmps := putTmp σ.tmps o.dst (tw (.fv (.one (.own self)))), next := σ.next, mem := setM σ.mem self (mw (.row e m)) } := by simp only [after, hv, hnew, hw, applyU, tvOf]
    rw [hst] at hK
    rw [hrun]
    have h1 := (h.grownNone hgr).newRow hfree hlt hown hrow (hm.mr (.row e m)) (fun k r' hh b hbk e => by
      have h1 := hfresh b e
      have h2 := ((h.mem k r' hh).lt hbk).2
      omega) (fun b e hF => by
      have h1 := hfresh b e
      have h2 := (h.fz b hF).1
      omega)
    exact hK _ _ ⟨E.setγ self x, h1.put hd (fun d hd => hm.noOpt (hno d hd) (hgd d hd)) fun d _ => hm.tv (v := .fv (.one (.own self))) (hg' _) ⟨by simp [Env.setγ], own_one hown⟩ (fits_one (c := .own self) (hlive _))⟩
  · have hmem := hwr (by rw [hw]; rfl) id _ _ _ hids hcont
    have hne : id ≠ self := fun e => by rw [e, hfree] at hmem; cases hmem
    have hst : after tw mw out σ o self ids = { sz := σ.sz, tmps := putTmp σ.tmps o.dst (tw (.fv (.one (.own self)))), next := σ.next, mem := setM (setM σ.mem id .lost) self (mw (.row e m)) } := by
      simp only [after, hv, hnew, hw, hids, List.zip_cons_cons, List.zip_nil_right, List.cons_append, List.nil_append, applyU, tvOf]
    rw [hst] at hK
    rw [hrun]
    have h0 := h.mem id _ (.inl hmem)
    have h1 : RelE we E { sz := σ.sz, tmps := σ.tmps, next := σ.next, mem := setM σ.mem id .lost } a w' :=
      h.write hmem (.inl rfl) (below_grown h hgr fun k e => (h0.lt e).1) hgr.size fun b hne hb => hgr.block b hb fun e => hne e.symm
    have hnoo : ∀ d, o.dst = some d → NoOptOn { sz := σ.sz, tmps := σ.tmps, next := σ.next, mem := setM σ.mem id .lost } d := fun d hd => ⟨(hno d hd).tmp, fun k w' r hk => by
      by_cases hki : id = k
      · subst hki
        simp only at hk
        rw [setM_self] at hk
        simp at hk
      · simp only at hk
        rw [setM_ne _ _ hki] at hk
        exact (hno d hd).mem k w' r hk⟩
    have h2 := h1.newRow (self := self) (by simp only; rw [setM_ne _ _ hne]; exact hfree) hlt hown hrow (hm.mr (.row e m)) (fun k r' hh b hbk e => by
      have hkid : id ≠ k := fun e' => by
        subst e'
        unfold Has at hh
        simp only at hh
        rw [setM_self] at hh
        simp at hh
      have hh' := (Has_set hkid).1 hh
      rcases hfresh b e with e1 | e1
      · exact h.sep id k r r' (.inl hmem) hh' hkid b e1 hbk
      · have h2 := ((h.mem k r' hh').lt hbk).2
        omega) (fun b e hF => by
      rcases hfresh b e with e1 | e1
      · exact h.sepF id r (.inl hmem) b e1 hF
      · have h2 := (h.fz b hF).1
        omega)
    refine hK _ _ ⟨E.setγ self x, h2.put hd (fun d hd => hm.noOpt (hnoo d hd) (hgd d hd)) fun d _ => hm.tv (v := .fv (.one (.own self))) (hg' _) ⟨by simp [Env.setγ], own_one hown⟩ (fits_one (c := .own self) ?_)⟩
    show setM (setM σ.mem id .lost) self _ self ≠ .free
    rw [setM_self]
    rcases hm.mr (.row e m) with e | ⟨_, _, e⟩ <;> rw [e] <;> simp
  · have hst : after tw mw out σ o self ids = { sz := σ.sz, tmps := putTmp σ.tmps o.dst (tw v), next := σ.next, mem := σ.mem } := by simp only [after, hv, hnew, hw, applyU, tvOf]
    rw [hst] at hK
    rw [hrun]
    exact hK _ _ ⟨E.frz w w', (h.frz hb).1.put hd hno fun d _ => hm.tv (hg' _) hpr fun c hc => fits_mono (fun k hk => absurd rfl hk) (hfit c hc)⟩

  · have hmem := hwr (by rw [hw]; rfl) id _ _ _ hids hcont
    have hst : after tw mw out σ o self ids = { sz := σ.sz, tmps := putTmp σ.tmps o.dst (tw (.fv (.one (.slc true m)))), next := σ.next, mem := setM σ.mem id .lost } := by
      simp only [after, hv, hnew, hw, hids, List.zip_cons_cons, List.zip_nil_left, applyU, tvOf]
    rw [hst] at hK
    rw [hrun]
    have h0 := h.mem id _ (.inl hmem)
    have h1 : RelE we E { sz := σ.sz, tmps := σ.tmps, next := σ.next, mem := setM σ.mem id .lost } a w' :=
      h.write hmem (.inl rfl) (below_grown h hgr fun k e => (h0.lt e).1) hgr.size fun b hne hb => hgr.block b hb fun e => hne e.symm
    have hnoo : ∀ d, o.dst = some d → NoOptOn { sz := σ.sz, tmps := σ.tmps, next := σ.next, mem := setM σ.mem id .lost } d := fun d hd => ⟨(hno d hd).tmp, fun k w' r hk => by
      by_cases hki : id = k
      · subst hki
        simp only at hk
        rw [setM_self] at hk
        simp at hk
      · simp only at hk
        rw [setM_ne _ _ hki] at hk
        exact (hno d hd).mem k w' r hk⟩
    have h2 := h1.addF (fun b => x.ownBlock = some b) (fun b hb => (hbx b hb).2) (fun k r hh b hbk hb => by
      have hkid : id ≠ k := fun e' => by
        subst e'
        unfold Has at hh
        simp only at hh
        rw [setM_self] at hh
        simp at hh
      have hh' := (Has_set hkid).1 hh
      exact h.sep id k _ r (.inl hmem) hh' hkid b (hbx b hb).1 hbk)
    exact hK _ _ ⟨_, h2.put hd hnoo fun d _ => hm.tv (v := .fv (.one (.slc true m))) (hg' _) (hcr _ rfl rfl fun b hb => .inr hb) (fits_one (c := .slc true m) trivial)⟩

theorem contOf_nil {mem : Nat → MRes} {id : Nat} {r : Res} {ids : List Nat} {cont : List Res} (h : contOf [] mem (id :: ids) = some (r :: cont)) : mem id = .val r := by
  simp only [contOf] at h
  split at h
  · rename_i r' l hm hl
    simp at hl h
    rw [hm, h.1]
  · simp at h
  · cases h

theorem step_sound (hC : ∀ f C, ctrs f = some C → Sound P f C) {i : Nat} {fp : List Nat} {σ σ' : St} {a : Act} {w : World} {ps : List Prop} {o : Oper} (ho : ops[i]? = some o) (h : Rel we σ a w)
    (hs : sstep P ctrs ops base i fp σ = some (ps, σ')) (hc : Conj ps) (hno : ∀ d, o.dst = some d → NoOptOn σ d) (hfree : σ.mem (base + i) = .free) (hlt : base + i < σ.next)
    {K : Act → World → Prop} (hK : ∀ a' w', Rel we σ' a' w' → K a' w') : wpOp P ops Q i K a w := by
  obtain ⟨tv, us, hcomp, hd0, rfl⟩ := sstep_spec ho hs
  obtain ⟨E, h⟩ := h
  unfold wpOp
  simp only [ho]
  unfold scomp at hcomp
  split at hcomp
  · cases hcomp
  · rename_i hgd
    have hw : Region.wanted o (yielded ops a.tmps) = true := by simp [Region.wanted, guardOf_none hgd]
    rw [if_pos hw]
    left
    split at hcomp
    · rename_i hplan
      split at hcomp
      · rename_i cont hcont
        split at hcomp
        · rename_i out hcore
          have hg : Holds a [] := fun g hgm => by cases hgm
          have key : ∀ (hn : Conj out.need) (hK' : ∀ a' w', Rel we (after .val .val out σ o (base + i) fp) a' w' → K a' w'), o.wp P a w K Q := fun hn hK' =>
            cok_wp h .plain (core_sound hC h hg hplan hcont hcore hn) hno (fun d _ => by simp) (fun d want e => by cases e) hfree hlt (fun _ id r rest rest' hid hr => contOf_nil (ids := rest) (cont := rest') (by rw [← hid, ← hr]; exact hcont)) hd0 hK'
          split at hcomp
          · rename_i hwr hnew
            simp at hcomp
            obtain ⟨rfl, rfl, rfl⟩ := hcomp
            refine key hc fun a' w' hr => hK a' w' ?_
            simpa only [after, hwr, hnew] using hr
          · rename_i r hwr hnew
            simp at hcomp
            obtain ⟨rfl, rfl, rfl⟩ := hcomp
            refine key hc fun a' w' hr => hK a' w' ?_
            simpa only [after, hwr, hnew] using hr
          · rename_i l hwr hnew
            split at hcomp
            · simp at hcomp
              obtain ⟨rfl, rfl, rfl⟩ := hcomp
              refine key hc fun a' w' hr => hK a' w' ?_
              simpa only [after, hwr, hnew] using hr
            · cases hcomp
          · rename_i l r hwr hnew
            split at hcomp
            · simp at hcomp
              obtain ⟨rfl, rfl, rfl⟩ := hcomp
              refine key hc fun a' w' hr => hK a' w' ?_
              simpa only [after, hwr, hnew] using hr
            · cases hcomp
        · cases hcomp
      · cases hcomp
    · cases hcomp
  · rename_i d want hgd
    obtain ⟨j, hguard, hdj⟩ := guardOf_some hgd
    have hwant : Region.wanted o (yielded ops a.tmps) = (yielded ops a.tmps j == some want) := by simp only [Region.wanted, hguard]
    split at hcomp
    · cases hcomp
    · rename_i hne
      split at hcomp
      · cases hcomp
      · rename_i b hb
        split at hcomp
        · rename_i hplan
          split at hcomp
          · rename_i cont hcont
            split at hcomp
            · rename_i out hcore
              by_cases hy : Region.wanted o (yielded ops a.tmps) = true
              · rw [if_pos hy]
                left
                rw [hwant] at hy
                have hd := ((yielded_eq hdj want).1 hy).1
                have hg : Holds a [(d, want)] := fun g hgm => by
                  simp at hgm; subst hgm; exact hd
                have hbw : b = want := by
                  have htd := h.tmp d
                  unfold guardBool at hb
                  split at hb
                  · rename_i b' ht
                    simp at hb; subst hb
                    rw [ht] at htd
                    have := htd.1
                    rw [hd] at this
                    have this : Value.bool want = .bool b' := this
                    simpa using this.symm
                  · rename_i gt w' b' ht
                    simp at hb; subst hb
                    rw [ht] at htd
                    obtain ⟨h1, h2⟩ := htd
                    by_cases hgt : a.tmps.getD gt undef = .bool w'
                    · have := (h1 hgt).1
                      rw [hd] at this
                      have this : Value.bool want = .bool b' := this
                      simpa using this.symm
                    · have := h2 hgt
                      rw [hd] at this
                      cases this
                  · cases hb
                have key : ∀ (hn : Conj out.need) (hwr : out.wr = none) (hK' : ∀ a' w', Rel we (after (.opt d want) (.opt d want) out σ o (base + i) fp) a' w' → K a' w'), o.wp P a w K Q := fun hn hwr hK' =>
                  cok_wp h (.guarded d want) (core_sound hC h hg hplan hcont hcore hn) hno (fun d' hd' w' e => hne (by simp at e; rw [hd', e.1])) (fun d' w' e => by simp at e; rw [← e.1, ← e.2]; exact hd) hfree hlt (fun e => by rw [hwr] at e; cases e) hd0 hK'
                have hneed : ∀ {l : List Prop}, Conj (l.map fun p => b = want → p) → Conj l := by
                  intro l
                  induction l with
                  | nil => exact fun h => h
                  | cons p l ih => exact fun h => ⟨h.1 hbw, ih h.2⟩
                split at hcomp
                · rename_i hwr hnew
                  simp at hcomp
                  obtain ⟨rfl, rfl, rfl⟩ := hcomp
                  refine key (hneed hc) hwr fun a' w' hr => hK a' w' ?_
                  simpa only [after, hwr, hnew] using hr
                · rename_i r hwr hnew
                  simp at hcomp
                  obtain ⟨rfl, rfl, rfl⟩ := hcomp
                  refine key (hneed hc) hwr fun a' w' hr => hK a' w' ?_
                  simpa only [after, hwr, hnew] using hr
                · cases hcomp
              · rw [if_neg hy]
                have hyy : ¬ (a.tmps.getD d undef = .bool want ∧ d < a.tmps.size) := fun hh => hy (by rw [hwant]; exact (yielded_eq hdj want).2 hh)
                have hnd : a.tmps.getD d undef ≠ .bool want := fun e => by
                  refine hyy ⟨e, ?_⟩
                  by_cases hlt : d < a.tmps.size
                  · exact hlt
                  · rw [Array.getD_eq_getD_getElem?, Array.getElem?_eq_none (by omega)] at e
                    cases e
                have hnd' : (a.put o.dst undef).tmps.getD d undef ≠ .bool want := by
                  rw [getD_put_ne hne]; exact hnd
                have htv : ∀ dd, o.dst = some dd → ∀ mem, TVRel E mem (a.put o.dst undef).tmps (tvOf (.opt d want) out.val) undef := fun dd _ mem => by
                  cases out.val with
                  | none => trivial
                  | some v => exact ⟨fun e => absurd e hnd', fun _ => rfl⟩
                split at hcomp
                · rename_i hwr hnew
                  simp at hcomp
                  obtain ⟨rfl, rfl, rfl⟩ := hcomp
                  exact hK _ _ ⟨E, h.put hd0 hno fun dd hdd => htv dd hdd _⟩
                · rename_i r hwr hnew
                  simp at hcomp
                  obtain ⟨rfl, rfl, rfl⟩ := hcomp
                  have hl : ∀ k, Live σ.mem k → Live (setM σ.mem (base + i) (.opt d want r)) k := Live_set (by simp)
                  have hhas : ∀ k r', Has (setM σ.mem (base + i) (.opt d want r)) a.tmps k r' → Has σ.mem a.tmps k r' := fun k r' hh => by
                    by_cases hk : base + i = k
                    · subst hk
                      unfold Has at hh
                      rw [setM_self] at hh
                      rcases hh with hh | ⟨gt, w', hh, hh2⟩
                      · simp at hh
                      · simp at hh
                        obtain ⟨rfl, rfl, _⟩ := hh
                        exact absurd hh2 hnd
                    · exact (Has_set hk).1 hh
                  have h1 : RelE we E { sz := σ.sz, tmps := σ.tmps, next := σ.next, mem := setM σ.mem (base + i) (.opt d want r) } a w :=
                    ⟨h.defers, h.len, fun t => (h.tmp t).weaken hl, h.below, h.n0, h.f0, h.fz, fun k hk => (by simp only; rw [setM_ne _ _ (show base + i ≠ k by simp only at hk; omega)]; exact h.nx k hk),
                      fun k r' hh => (h.mem k r' (hhas k r' hh)).ext (Ext.refl _ _) (hhas k r' hh).live hl, fun k k' r1 r2 x1 x2 => h.sep k k' r1 r2 (hhas k r1 x1) (hhas k' r2 x2), fun k r' hh => h.sepF k r' (hhas k r' hh)⟩
                  refine hK _ _ ⟨E, h1.put hd0 (fun dd hdd => (Marks'.guarded d want).noOpt (hno dd hdd) fun w' e => hne (by simp at e; rw [hdd, e.1])) fun dd hdd => htv dd hdd _⟩
                · cases hcomp
            · cases hcomp
          · cases hcomp
        · cases hcomp
/-! ### a region -/

/-- A region's states: blocks not yet made are free; what hangs on a guard hangs on an operation that has come up. -/
structure Inv (ops : Array Oper) (base : Nat) (listed : Array Bool) (σ : St) : Prop where
  tmp : ∀ (t d : Nat) (w : Bool) (v : PV), σ.tmps t = TV.opt d w v → ∃ j o, ops[j]? = some o ∧ o.dst = some d ∧ listed.getD j true = true
  mem : ∀ (id d : Nat) (w : Bool) (r : Res), σ.mem id = MRes.opt d w r → ∃ j o, ops[j]? = some o ∧ o.dst = some d ∧ listed.getD j true = true
  free : ∀ (j : Nat), j < ops.size → listed.getD j true = false → σ.mem (base + j) = .free
  nxt : base + ops.size ≤ σ.next

theorem nodupB_spec : ∀ {l : List Nat}, nodupB l = true → l.Nodup
  | [], _ => List.nodup_nil
  | x :: xs, h => by
    simp only [nodupB, Bool.and_eq_true, Bool.not_eq_true'] at h
    exact List.nodup_cons.2 ⟨by simpa using h.1, nodupB_spec h.2⟩

theorem dst_inj_list : ∀ {l : List Oper}, (l.filterMap (·.dst)).Nodup → ∀ {i j : Nat} {x y : Oper} {d : Nat}, l[i]? = some x → l[j]? = some y → x.dst = some d → y.dst = some d → i = j
  | [], _, i, _, _, _, _, hi, _, _, _ => by simp at hi
  | o :: l, h, i, j, x, y, d, hi, hj, hx, hy => by
    have hmem : ∀ {k : Nat} {z : Oper}, l[k]? = some z → z.dst = some d → d ∈ l.filterMap (·.dst) := fun hk hz => List.mem_filterMap.2 ⟨_, List.mem_of_getElem? hk, hz⟩
    cases ho : o.dst with
    | none =>
      rw [List.filterMap_cons_none ho] at h
      cases i with
      | zero => simp at hi; subst hi; rw [ho] at hx; cases hx
      | succ i =>
        cases j with
        | zero => simp at hj; subst hj; rw [ho] at hy; cases hy
        | succ j => exact congrArg (· + 1) (dst_inj_list (i := i) (j := j) h (by simpa using hi) (by simpa using hj) hx hy)
    | some e =>
      rw [List.filterMap_cons_some ho, List.nodup_cons] at h
      cases i with
      | zero =>
        simp at hi; subst hi
        rw [ho] at hx
        cases j with
        | zero => rfl
        | succ j => exact absurd (hmem (by simpa using hj) hy) (by simp at hx; rw [← hx]; exact h.1)
      | succ i =>
        cases j with
        | zero =>
          simp at hj; subst hj
          rw [ho] at hy
          exact absurd (hmem (by simpa using hi) hx) (by simp at hy; rw [← hy]; exact h.1)
        | succ j => exact congrArg (· + 1) (dst_inj_list (i := i) (j := j) h.2 (by simpa using hi) (by simpa using hj) hx hy)

theorem dst_inj (h : nodupB (dsts ops) = true) {i j : Nat} {x y : Oper} {d : Nat} (hi : ops[i]? = some x) (hj : ops[j]? = some y) (hx : x.dst = some d) (hy : y.dst = some d) : i = j :=
  dst_inj_list (nodupB_spec h) (by simpa using hi) (by simpa using hj) hx hy

theorem contOf_live {gs : List (Nat × Bool)} {mem : Nat → MRes} : ∀ {ids : List Nat} {cont : List Res}, contOf gs mem ids = some cont → ∀ id ∈ ids, Live mem id
  | [], _, _, id, hid => by cases hid
  | k :: ids, cont, h, id, hid => by
    simp only [contOf] at h
    split at h
    · rename_i r l hm hl
      rcases List.mem_cons.1 hid with rfl | hid
      · unfold Live; rw [hm]; simp
      · exact contOf_live hl id hid
    · rename_i gt want r l hm hl
      rcases List.mem_cons.1 hid with rfl | hid
      · unfold Live; rw [hm]; simp
      · exact contOf_live hl id hid
    · cases h

/-- What an operation of a region leaves. -/
theorem scomp_shape {o : Oper} {self : Nat} {fp : List Nat} {tmps : Nat → TV} {mem : Nat → MRes} {ps : List Prop} {tv : TV} {us : List (Nat × MRes)} (h : scomp P ctrs ops o self fp tmps mem = some (ps, tv, us)) :
    (∀ u ∈ us, u.1 = self ∨ Live mem u.1) ∧ (∀ d w v, tv = .opt d w v → guardOf ops o = some (some (d, w))) ∧ (∀ u ∈ us, ∀ d w r, u.2 = .opt d w r → guardOf ops o = some (some (d, w))) ∧ (∀ u ∈ us, u.2 ≠ .free) := by
  unfold scomp at h
  split at h
  · cases h
  · rename_i hgd
    split at h
    · split at h
      · rename_i cont hcont
        split at h
        · rename_i out hcore
          have htv : ∀ d w v, tvOf .val out.val = .opt d w v → guardOf ops o = some (some (d, w)) := fun d w v e => by
            cases hv : out.val <;> rw [hv] at e <;> cases e
          split at h
          · simp at h; obtain ⟨_, rfl, rfl⟩ := h
            exact ⟨fun u hu => (by cases hu), htv, fun u hu => (by cases hu), fun u hu => (by cases hu)⟩
          · simp at h; obtain ⟨_, rfl, rfl⟩ := h
            exact ⟨fun u hu => (by simp at hu; exact .inl (by rw [hu])), htv, fun u hu d w r e => (by simp at hu; subst hu; cases e), fun u hu => (by simp at hu; subst hu; simp)⟩
          · split at h
            · rename_i hw
              have hsure := wrOk_sure hw
              simp at h; obtain ⟨_, rfl, rfl⟩ := h
              refine ⟨fun u hu => .inr (contOf_live hcont u.1 (List.of_mem_zip (a := u.1) (b := u.2) hu).1), htv, fun u hu d w r e => ?_, fun u hu e => ?_⟩
              · rcases hsure _ (List.of_mem_zip (a := u.1) (b := u.2) hu).2 with h1 | ⟨_, h1⟩ <;> rw [e] at h1 <;> cases h1
              · rcases hsure _ (List.of_mem_zip (a := u.1) (b := u.2) hu).2 with h1 | ⟨_, h1⟩ <;> rw [e] at h1 <;> cases h1
            · cases h
          · split at h
            · rename_i hw
              have hsure := wrOk_sure hw
              simp at h; obtain ⟨_, rfl, rfl⟩ := h
              refine ⟨fun u hu => ?_, htv, fun u hu d w r e => ?_, fun u hu e => ?_⟩
              · rcases List.mem_append.1 hu with hu | hu
                · exact .inr (contOf_live hcont u.1 (List.of_mem_zip (a := u.1) (b := u.2) hu).1)
                · simp at hu; exact .inl (by rw [hu])
              · rcases List.mem_append.1 hu with hu | hu
                · rcases hsure _ (List.of_mem_zip (a := u.1) (b := u.2) hu).2 with h1 | ⟨_, h1⟩ <;> rw [e] at h1 <;> cases h1
                · simp at hu; subst hu; cases e
              · rcases List.mem_append.1 hu with hu | hu
                · rcases hsure _ (List.of_mem_zip (a := u.1) (b := u.2) hu).2 with h1 | ⟨_, h1⟩ <;> rw [e] at h1 <;> cases h1
                · simp at hu; subst hu; cases e
            · cases h
        · cases h
      · cases h
    · cases h
  · rename_i d want hgd
    split at h
    · cases h
    · split at h
      · cases h
      · split at h
        · split at h
          · rename_i cont hcont
            split at h
            · rename_i out hcore
              have htv : ∀ d' w v, tvOf (.opt d want) out.val = .opt d' w v → guardOf ops o = some (some (d', w)) := fun d' w v e => by
                cases hv : out.val with
                | none => rw [hv] at e; cases e
                | some x => rw [hv] at e; simp [tvOf] at e; rw [hgd, e.1, e.2.1]
              split at h
              · simp at h; obtain ⟨_, rfl, rfl⟩ := h
                exact ⟨fun u hu => (by cases hu), htv, fun u hu => (by cases hu), fun u hu => (by cases hu)⟩
              · simp at h; obtain ⟨_, rfl, rfl⟩ := h
                exact ⟨fun u hu => (by simp at hu; exact .inl (by rw [hu])), htv, fun u hu d' w r e => (by simp at hu; subst hu; simp at e; rw [hgd, e.1, e.2.1]), fun u hu => (by simp at hu; subst hu; simp)⟩
              · cases h
            · cases h
          · cases h
        · cases h

theorem applyU_mem : ∀ {us : List (Nat × MRes)} {mem : Nat → MRes} {id : Nat} {m : MRes}, applyU mem us id = m → mem id = m ∨ (id, m) ∈ us
  | [], _, _, _, h => .inl h
  | u :: us, mem, id, m, h => by
    simp only [applyU] at h
    rcases applyU_mem h with h | h
    · by_cases hu : u.1 = id
      · subst hu
        rw [setM_self] at h
        exact .inr (by rw [← h]; exact List.mem_cons_self ..)
      · rw [setM_ne _ _ hu] at h
        exact .inl h
    · exact .inr (List.mem_cons_of_mem _ h)

theorem Inv.step (hnd : nodupB (dsts ops) = true) {listed : Array Bool} {σ σ' : St} {i : Nat} {fp : List Nat} {ps : List Prop} {o : Oper} (ho : ops[i]? = some o) (hin : Inv ops base listed σ) (hi : listed.getD i true = false)
    (hgl : ∀ j w, o.guard = some (j, w) → listed.getD j true = true) (hs : sstep P ctrs ops base i fp σ = some (ps, σ')) : Inv ops base (listed.setIfInBounds i true) σ' ∧ (∀ d, o.dst = some d → NoOptOn σ d) ∧ σ.mem (base + i) = .free := by
  obtain ⟨tv, us, hcomp, _, rfl⟩ := sstep_spec ho hs
  obtain ⟨s1, s2, s3, s4⟩ := scomp_shape hcomp
  have hilt : i < ops.size := (Array.getElem?_eq_some_iff.1 ho).1
  have hfree := hin.free i hilt hi
  have hset : ∀ j, listed.getD j true = true → (listed.setIfInBounds i true).getD j true = true := fun j hj => by
    by_cases hij : i = j
    · subst hij; rw [hi] at hj; cases hj
    · rw [getD_set_ne true hij]; exact hj
  have hg : ∀ d w, guardOf ops o = some (some (d, w)) → ∃ j o', ops[j]? = some o' ∧ o'.dst = some d ∧ (listed.setIfInBounds i true).getD j true = true := fun d w hgo => by
    obtain ⟨j, hj, hd⟩ := guardOf_some hgo
    cases hoj : ops[j]? with
    | none => rw [hoj] at hd; cases hd
    | some o' =>
      rw [hoj] at hd
      exact ⟨j, o', hoj, hd, hset j (hgl j w hj)⟩
  refine ⟨⟨fun t d w v ht => ?_, fun id d w r hid => ?_, fun j hj hun => ?_, hin.nxt⟩, fun d hd => ⟨fun t w v ht => ?_, fun id w r hid => ?_⟩, hfree⟩
  · by_cases hdt : o.dst = some t
    · simp only [hdt, putTmp_self] at ht
      exact hg d w (s2 d w v ht)
    · simp only at ht
      rw [putTmp_ne hdt] at ht
      obtain ⟨j, o', h1, h2, h3⟩ := hin.tmp t d w v ht
      exact ⟨j, o', h1, h2, hset j h3⟩
  · simp only at hid
    rcases applyU_mem hid with hid | hid
    · obtain ⟨j, o', h1, h2, h3⟩ := hin.mem id d w r hid
      exact ⟨j, o', h1, h2, hset j h3⟩
    · exact hg d w (s3 _ hid d w r rfl)
  · have hij : i ≠ j := by
      rintro rfl
      by_cases hsz : i < listed.size
      · simp [hsz] at hun
      · simp at hi
        rw [Array.getElem?_eq_none (by omega)] at hi
        simp at hi
    rw [getD_set_ne true hij] at hun
    have hf := hin.free j hj hun
    simp only
    rw [applyU_ne (fun u hu e => ?_)]
    · exact hf
    · rcases s1 u hu with hu' | hm
      · omega
      · rw [e] at hm
        exact hm hf
  · obtain ⟨j, o', h1, h2, h3⟩ := hin.tmp t d w v ht
    have := dst_inj hnd ho h1 hd h2
    subst this
    rw [hi] at h3
    cases h3
  · obtain ⟨j, o', h1, h2, h3⟩ := hin.mem id d w r hid
    have := dst_inj hnd ho h1 hd h2
    subst this
    rw [hi] at h3
    cases h3

theorem guardsOk_spec (h : guardsOk ops = true) {i j : Nat} {o : Oper} {w : Bool} (ho : ops[i]? = some o) (hg : o.guard = some (j, w)) : j < i ∧ ∃ e ∈ o.after, Region.binds .any e = true ∧ e.on = j := by
  have hi : i < ops.size := (Array.getElem?_eq_some_iff.1 ho).1
  have := List.all_eq_true.1 h i (List.mem_range.2 hi)
  simp only [ho, hg, Bool.and_eq_true, decide_eq_true_eq] at this
  obtain ⟨h1, h2⟩ := this
  rw [Array.any_eq_true'] at h2
  obtain ⟨e, he, h3⟩ := h2
  simp at h3
  exact ⟨h1, e, he, h3.1, h3.2⟩

theorem SAny_sound (hC : ∀ f C, ctrs f = some C → Sound P f C) (hnd : nodupB (dsts ops) = true) (hgs : guardsOk ops = true) {fps : List (List Nat)} {T : St} (hQ : ∀ a w, Rel we T a w → Q .normal a w) :
    ∀ (fuel : Nat) (listed : Array Bool) (σ : St) (a : Act) (w : World), SAny P ctrs ops fps base fuel listed σ T → Inv ops base listed σ → Rel we σ a w → wpAny P .any ops Q fuel listed a w
  | 0, _, _, _, _, h, _, hr => ⟨h.1, hQ _ _ (h.2 ▸ hr)⟩
  | fuel + 1, listed, σ, a, w, h, hin, hr => ⟨fun h0 => hQ _ _ (h.1 h0 ▸ hr), fun i hi => by
      obtain ⟨σ', ⟨ps, hs, hc⟩, hrest⟩ := h.2 i hi
      obtain ⟨hun, o, ho, hall⟩ := mem_ready.1 hi
      obtain ⟨hin', hno, hfree⟩ := hin.step hnd ho hun (fun j w' hg => by
        obtain ⟨_, e, he, hb, hon⟩ := guardsOk_spec hgs ho hg
        have := hall e he hb
        rw [hon] at this
        by_cases hsz : j < listed.size
        · simp [hsz] at this ⊢; exact this
        · simp [Array.getElem?_eq_none (Nat.le_of_not_lt hsz)] at this) hs
      exact step_sound hC ho hr hs hc hno hfree (by have := hin.nxt; have := (Array.getElem?_eq_some_iff.1 ho).1; omega) fun a' w' hr' => SAny_sound hC hnd hgs hQ fuel _ σ' a' w' hrest hin' hr'⟩

theorem seq_sound (hC : ∀ f C, ctrs f = some C → Sound P f C) (hnd : nodupB (dsts ops) = true) (hgs : guardsOk ops = true) {T : St} (hQ : ∀ a w, Rel we T a w → Q .normal a w) :
    ∀ (m k : Nat) (listed : Array Bool) (σ : St) (ps : List Prop) (fps : List (List Nat)) (a : Act) (w : World), listed.size = ops.size → (∀ i, i < ops.size → listed.getD i true = decide (i < k)) → k + m = ops.size →
      srun P ctrs ops base m k σ = some (ps, fps, T) → Conj ps → Inv ops base listed σ → Rel we σ a w → wpOps P ops Q (List.range' k m) a w
  | 0, k, listed, σ, ps, fps, a, w, _, _, _, hr, _, _, hrel => by
    simp only [srun, Option.some.injEq, Prod.mk.injEq] at hr
    exact hQ _ _ (hr.2.2 ▸ hrel)
  | m + 1, k, listed, σ, ps, fps, a, w, hsz, hl, hkm, hr, hc, hin, hrel => by
    have hk : k < ops.size := by omega
    have ho := Array.getElem?_eq_getElem hk
    simp only [srun] at hr
    split at hr
    · cases hr
    · rename_i p σ' hst
      split at hr
      · rename_i q fps' σ'' hrest
        simp only [Option.some.injEq, Prod.mk.injEq] at hr
        obtain ⟨rfl, rfl, rfl⟩ := hr
        obtain ⟨hp, hq⟩ := Conj_append.1 hc
        obtain ⟨hin', hno, hfree⟩ := hin.step hnd ho (by rw [hl k hk]; simp) (fun j w' hg => by
          obtain ⟨hlt, _⟩ := guardsOk_spec hgs ho hg
          rw [hl j (by omega)]; simp [hlt]) hst
        rw [List.range'_succ, wpOps_cons]
        refine step_sound hC ho hrel hst hp hno hfree (by have := hin.nxt; omega) fun a' w' hr' => ?_
        refine seq_sound hC hnd hgs hQ m (k + 1) _ σ' q fps' a' w' (by simpa using hsz) (fun i hi => ?_) (by omega) hrest hq hin' hr'
        by_cases hik : k = i
        · subst hik
          have : k < listed.size := by omega
          simp [this]
        · rw [getD_set_ne true hik, hl i hi]
          simp
          omega
      · cases hr

def closed (σ : St) (n : Nat) : St := { sz := σ.sz, tmps := fun t => closeT (σ.tmps t), next := σ.next + n, mem := fun k => bif Nat.blt k σ.next then closeM (σ.mem k) else .free }

theorem Rel.closed {σ : St} {a : Act} {w : World} (h : Rel we σ a w) (n : Nat) : Rel we (closed σ n) a w := by
  obtain ⟨E, h⟩ := h
  have hmem : ∀ k, (Eng.closed σ n).mem k = closeM (σ.mem k) := fun k => by
    simp only [Eng.closed]
    cases hb : Nat.blt k σ.next with
    | true => rfl
    | false =>
      have : ¬ k < σ.next := fun hlt => by
        have := Nat.blt_eq.mpr hlt
        rw [hb] at this
        cases this
      rw [h.nx k (by omega)]; rfl
  have hl : ∀ k, Live σ.mem k → Live (Eng.closed σ n).mem k := by
    intro k hne
    unfold Live at *
    rw [hmem]
    cases hm : σ.mem k <;> rw [hm] at hne <;> simp [closeM] at hne ⊢
  have hhas : ∀ k r, Has (Eng.closed σ n).mem a.tmps k r → Has σ.mem a.tmps k r := by
    intro k r hh
    unfold Has at *
    rw [hmem] at hh
    cases hm : σ.mem k <;> rw [hm] at hh <;> simp [closeM] at hh ⊢
    exact hh
  refine ⟨E, h.defers, h.len, fun t => ?_, h.below, h.n0, h.f0, h.fz, fun k hk => (by rw [hmem, h.nx k (by simp only [Eng.closed] at hk; omega)]; rfl), fun k r hh => (h.mem k r (hhas k r hh)).ext (Ext.refl _ _) (hhas k r hh).live hl, fun k k' r r' h1 h2 => h.sep k k' r r' (hhas k r h1) (hhas k' r' h2), fun k r hh => h.sepF k r (hhas k r hh)⟩
  have ht := h.tmp t
  simp only [Eng.closed]
  cases htv : σ.tmps t with
  | any => trivial
  | val v => rw [htv] at ht; exact ht.weaken hl
  | opt gt want v => trivial

theorem region_sound (hm : P.follows .mixedOrders = true) (hC : ∀ f C, ctrs f = some C → Sound P f C) {id : Nat} {draw : Bool} {σ σ' : St} {ps : List Prop} {a : Act} {w : World} (hs : sregion P ctrs ops draw σ = some (ps, σ')) (hc : Conj ps) (h : Rel we σ a w)
    (hQ : ∀ a w, Rel we σ' a w → Q .normal a w) : (Code.region id ops draw).wp P Q a w := by
  unfold sregion at hs
  simp only at hs
  split at hs
  · cases hs
  · rename_i p fps σ'' hrun
    split at hs
    · rename_i hok
      simp only [Option.some.injEq, Prod.mk.injEq] at hs
      obtain ⟨rfl, rfl⟩ := hs
      simp only [Bool.and_eq_true, Bool.or_eq_true, Bool.not_eq_true'] at hok
      obtain ⟨⟨hnd, hgs⟩, hord⟩ := hok
      have h0 := h.closed ops.size
      have hl : ∀ i, i < ops.size → (Array.replicate ops.size false).getD i true = decide (i < 0) := fun i hi => by simp [hi]
      have hin : Inv ops σ.next (Array.replicate ops.size false) (closed σ ops.size) := by
        refine ⟨fun t d w v ht => ?_, fun id d w r hid => ?_, fun j hj _ => ?_, Nat.le_refl _⟩
        · simp only [closed] at ht
          cases hx : σ.tmps t <;> rw [hx] at ht <;> cases ht
        · simp only [closed] at hid
          cases hb : Nat.blt id σ.next <;> rw [hb] at hid
          · cases hid
          · simp only [cond_true] at hid
            cases hx : σ.mem id <;> rw [hx] at hid <;> cases hid
        · simp only [closed]
          have : Nat.blt (σ.next + j) σ.next = false := by
            cases hb : Nat.blt (σ.next + j) σ.next with
            | false => rfl
            | true => have := Nat.blt_eq.mp hb; omega
          rw [this]; rfl
      cases draw with
      | false =>
        refine wp_region ?_
        rw [List.range_eq_range']
        exact seq_sound hC hnd hgs hQ ops.size 0 _ _ p fps a w (by simp) hl (by omega) hrun hc hin h0
      | true =>
        have hord : orderOk ops fps σ.next = true := by simpa using hord
        refine wp_region_any hm ?_
        refine SAny_sound hC hnd hgs hQ ops.size _ _ a _ (SAny_of_run hrun hc hord) hin ?_
        obtain ⟨E, hr⟩ := h0
        exact ⟨E, hr.grow ⟨rfl, rfl, rfl, Nat.le_refl _, fun _ _ => rfl⟩⟩
    · cases hs

/-! ### code -/

def Tree.Sat (K : Ex → St → Prop) : Tree → Prop
  | .leaf e σ => K e σ
  | .pre ps t => Conj ps ∧ t.Sat K
  | .ite b t e => (b = true → t.Sat K) ∧ (b = false → e.Sat K)
  | .any ps t e => (Conj ps → t.Sat K) ∧ e.Sat K
  | .fail => False

def Ex.to : Ex → Exit
  | .norm => .normal
  | .ret => .ret
  | .exit id => .exit id

/-- What is known behind a code. -/
def PostK (we : World) (K : Ex → St → Prop) (e : Exit) (a : Act) (w : World) : Prop := ∃ ex σ, e = ex.to ∧ K ex σ ∧ Rel we σ a w

/-- A loop does what its summary says. -/
def LoopOk (P : Program) (T : St → Tree) (body : Code) : Prop :=
  ∀ (we : World) (K : Ex → St → Prop) (σ : St) (a : Act) (w : World), (T σ).Sat K → Rel we σ a w → (Code.loop body).wp P (PostK we K) a w

theorem Tree.Sat.mono {K K' : Ex → St → Prop} (h : ∀ e σ, K e σ → K' e σ) : ∀ {t : Tree}, t.Sat K → t.Sat K'
  | .leaf _ _, ht => h _ _ ht
  | .pre _ _, ht => ⟨ht.1, ht.2.mono h⟩
  | .ite _ _ _, ht => ⟨fun e => (ht.1 e).mono h, fun e => (ht.2 e).mono h⟩
  | .any _ _ _, ht => ⟨fun e => (ht.1 e).mono h, ht.2.mono h⟩
  | .fail, ht => ht

theorem bind_sat {K : Ex → St → Prop} {k : St → Tree} : ∀ {t : Tree}, (t.bind k).Sat K → t.Sat (fun e σ => match e with | .norm => (k σ).Sat K | e => K e σ)
  | .leaf .norm _, h => h
  | .leaf .ret _, h => h
  | .leaf (.exit _) _, h => h
  | .pre _ _, h => ⟨h.1, bind_sat h.2⟩
  | .ite _ _ _, h => ⟨fun e => bind_sat (h.1 e), fun e => bind_sat (h.2 e)⟩
  | .any _ _ _, h => ⟨fun e => bind_sat (h.1 e), bind_sat h.2⟩
  | .fail, h => h

theorem inBlock_sat {K : Ex → St → Prop} {id : Nat} : ∀ {t : Tree}, (t.inBlock id).Sat K → t.Sat (fun e σ => match e with | .exit i => K (if i = id then .norm else .exit i) σ | e => K e σ)
  | .leaf .norm _, h => h
  | .leaf .ret _, h => h
  | .leaf (.exit _) _, h => h
  | .pre _ _, h => ⟨h.1, inBlock_sat h.2⟩
  | .ite _ _ _, h => ⟨fun e => inBlock_sat (h.1 e), fun e => inBlock_sat (h.2 e)⟩
  | .any _ _ _, h => ⟨fun e => inBlock_sat (h.1 e), inBlock_sat h.2⟩
  | .fail, h => h

theorem preT_sat {K : Ex → St → Prop} {ps : List Prop} {t : Tree} (h : (preT ps t).Sat K) : Conj ps ∧ t.Sat K := by
  cases ps with
  | nil => exact ⟨trivial, h⟩
  | cons p ps => exact h

theorem sexec_sound (hm : P.follows .mixedOrders = true) (hC : ∀ f C, ctrs f = some C → Sound P f C) {lps : Nat → St → Tree} : ∀ (c : Code) (_ : ∀ b ∈ loopsOf c, LoopOk P (lps (firstRegion b)) b) (K : Ex → St → Prop) (σ : St) (a : Act) (w : World),
    (sexec P ctrs lps c σ).Sat K → Rel we σ a w → c.wp P (PostK we K) a w
  | .skip, _, K, σ, a, w, h, hr => wp_skip ⟨.norm, σ, rfl, h, hr⟩
  | .region id ops draw, _, K, σ, a, w, h, hr => by
    simp only [sexec] at h
    split at h
    · rename_i p σ' hs
      obtain ⟨h1, h2⟩ := preT_sat h
      exact region_sound hm hC hs h1 hr fun a' w' hr' => ⟨.norm, σ', rfl, h2, hr'⟩
    · exact h.elim
  | .seq x y, hL, K, σ, a, w, h, hr => by
    refine wp_seq ?_
    have h1 := sexec_sound hm hC x (fun b hb => hL b (List.mem_append_left _ hb)) _ σ a w (bind_sat h) hr
    refine wp_mono h1 fun e a' w' he => ?_
    obtain ⟨ex, σ', rfl, hk, hr'⟩ := he
    cases ex with
    | norm => exact sexec_sound hm hC y (fun b hb => hL b (List.mem_append_right _ hb)) K σ' a' w' hk hr'
    | ret => exact ⟨.ret, σ', rfl, hk, hr'⟩
    | exit i => exact ⟨.exit i, σ', rfl, hk, hr'⟩
  | .cond c x y, hL, K, σ, a, w, h, hr => by
    simp only [sexec] at h
    split at h
    · rename_i b hb
      obtain ⟨E, hE⟩ := hr
      have hv := (rdOp_sound hE (gs := []) (fun g hg => by cases hg) hb).1
      refine wp_cond_split (t := b) hv (fun e => ?_) (fun e => ?_)
      · exact sexec_sound hm hC x (fun b hb => hL b (List.mem_append_left _ hb)) K σ a w (h.1 e) ⟨E, hE⟩
      · exact sexec_sound hm hC y (fun b hb => hL b (List.mem_append_right _ hb)) K σ a w (h.2 e) ⟨E, hE⟩
    · rename_i m hb
      obtain ⟨E, hE⟩ := hr
      obtain ⟨b, hv, hm0⟩ := (rdOp_sound hE (gs := []) (fun g hg => by cases hg) hb).1
      refine wp_cond_split (t := b) hv (fun e => ?_) (fun e => ?_)
      · exact sexec_sound hm hC x (fun b hb => hL b (List.mem_append_left _ hb)) K σ a w (h.1 ⟨hm0 e, trivial⟩) ⟨E, hE⟩
      · exact sexec_sound hm hC y (fun b hb => hL b (List.mem_append_right _ hb)) K σ a w h.2 ⟨E, hE⟩
    · exact h.elim
  | .block id c, hL, K, σ, a, w, h, hr => by
    refine wp_block ?_
    have h1 := sexec_sound hm hC c hL _ σ a w (inBlock_sat h) hr
    refine wp_mono h1 fun e a' w' he => ?_
    obtain ⟨ex, σ', rfl, hk, hr'⟩ := he
    cases ex with
    | norm => exact ⟨.norm, σ', rfl, hk, hr'⟩
    | ret => exact ⟨.ret, σ', rfl, hk, hr'⟩
    | exit i =>
      simp only at hk
      simp only [Ex.to, Exit.inBlock]
      split
      · rename_i hi
        rw [if_pos hi] at hk
        exact ⟨.norm, σ', rfl, hk, hr'⟩
      · rename_i hi
        rw [if_neg hi] at hk
        exact ⟨.exit i, σ', rfl, hk, hr'⟩
  | .loop c, hL, K, σ, a, w, h, hr => hL c (by simp [loopsOf]) we K σ a w h hr
  | .exit id, _, K, σ, a, w, h, hr => wp_exit ⟨.exit id, σ, rfl, h, hr⟩
  | .ret, _, K, σ, a, w, h, hr => wp_ret ⟨.ret, σ, rfl, h, hr⟩
  | .rangeFunc _ _ _ _, _, _, _, _, _, h, _ => h.elim
  | .scope _, _, _, _, _, _, h, _ => h.elim
  | .label _, _, _, _, _, _, h, _ => h.elim
  | .goto _, _, _, _, _, _, h, _ => h.elim
  | .refuse _, _, _, _, _, _, h, _ => h.elim

/-! ### results -/

def resultOf (tmps : Array Value) : ResultVar → Sem Value
  | .tmp t => pure (tmps.getD t undef)
  | .cell c t => do loadVar t (← asAddr (tmps.getD c undef))

theorem resOf_sound {E : Env} {σ : St} {a : Act} {w : World} (h : RelE we E σ a w) {r : ResultVar} {v : FV} (hv : resOf P σ r = some v) : ∃ x, (resultOf a.tmps r).run P w = .ok x w ∧ FR E v x := by
  cases r with
  | tmp t =>
    simp only [resOf] at hv
    have htt := h.tmp t
    split at hv
    · rename_i u ht
      simp at hv; subst hv
      rw [ht] at htt
      exact ⟨_, rfl, htt.1⟩
    · cases hv
  | cell c T =>
    simp only [resOf] at hv
    have htt := h.tmp c
    split at hv
    · rename_i id off ht
      split at hv
      · rename_i T' cs hmem
        rw [ht] at htt
        have h1 : a.tmps.getD c undef = .pointer (some ⟨E.β id, off, none⟩) := htt.1
        obtain ⟨_, ⟨xs, hb, hcs⟩, _⟩ := h.mem id _ (.inl hmem)
        obtain ⟨x, hl, hx⟩ := load_sound (P := P) (E := E) (w := w) hv (a := ⟨E.β id, off, none⟩) fun j c hj => by
          obtain ⟨y, h3, h4⟩ := hcs.get _ c hj
          refine ⟨y, ?_, h4⟩
          rw [add_lit, cell_of_blk hb]
          simpa using h3
        refine ⟨x, ?_, hx⟩
        simp only [resultOf, h1, Sem.run_bind, asAddr, Sem.run_pure, Result.andThen_ok, hl]
      · cases hv
    · cases hv

/-- A row of the call's own, handed back. -/
theorem own_new {E : Env} {σ : St} {a : Act} {w : World} (h : RelE we E σ a w) {id : Nat} {e : TypeId} {m : SL} (hm : σ.mem id = .val (.row e m)) (hf : m.k.flat = true) {x : Value} (hx : CR E (.own id) x) : CR (Env.new we w) (.slc true m) x := by
  obtain ⟨xs, hown, hrow⟩ := h.mem id _ (.inl hm)
  have hx : x = E.γ id := hx.1
  rcases hown.2 with ⟨h1, h2⟩ | ⟨g, cap, cur, h1, hb, hg, hnc, hcm, hcs, htk⟩
  · exact .inl ⟨by rw [hx, h1], h2⟩
  · refine .inr ⟨⟨g, 0, none⟩, cap, by rw [hx, h1], ⟨hnc, Nat.le_trans hnc hcm⟩, fun i hi => ⟨⟨⟨hb, heap_lt hg⟩, hb⟩, fun j c hj => ?_⟩⟩
    obtain ⟨y, h3, h4⟩ := hrow i hi j c hj
    refine ⟨y, ?_, CR_flat (flat_mem hf hj) h4⟩
    show w.cell? _ = _
    rw [add_lit, cell_of_blk hg]
    have hbb : (i + 1) * m.sz ≤ m.len * m.sz := Nat.mul_le_mul_right _ hi
    rw [Nat.add_mul, Nat.one_mul] at hbb
    have := SL.at_lt hj
    rw [← htk, List.getElem?_take, if_pos (by omega)] at h3
    simpa using h3

theorem outC_sound {E : Env} {σ : St} {a : Act} {w : World} (h : RelE we E σ a w) {T : TypeId} {c c' : Cell} {x : Value} (hx : CR E c x) (hc : outC P σ.mem T c = some c') : CR (Env.new we w) c' x := by
  unfold outC at hc
  split at hc
  · simp at hc; subst hc; exact hx
  · simp at hc; subst hc; exact hx
  · rename_i nw m
    split at hc
    · simp at hc; subst hc
      rcases hx with hx | ⟨ad, cap, h1, hml, h2⟩
      · exact .inl hx
      · refine .inr ⟨ad, cap, h1, hml, fun i hi => ?_⟩
        obtain ⟨h3, h4⟩ := h2 i hi
        have hn : we.heap.size ≤ ad.block := by rw [← h.n0]; exact h3.2
        refine ⟨⟨⟨hn, (h.fz _ h3.1).1⟩, hn⟩, fun j c hj => ?_⟩
        obtain ⟨y, h5, h6⟩ := h4 j c hj
        refine ⟨y, ?_, CRd_base 3 (E := E.lim true) (E' := (Env.new we w).lim true) (fun b hb => ?_) (SL.at_base hj) h6⟩
        · rw [← h5]
          refine World.cell?_of_block ?_
          rw [add_block]; exact (h.fz _ h3.1).2
        · have hn' : we.heap.size ≤ b := by rw [← h.n0]; exact hb.2
          exact ⟨⟨⟨hn', (h.fz _ hb.1).1⟩, hn'⟩, (h.fz _ hb.1).2⟩
    · simp at hc; subst hc; exact oneCell_of hx
  · simp at hc; subst hc; exact hx
  · rename_i id
    split at hc
    · rename_i e m hm
      split at hc
      · rename_i hf
        simp at hc; subst hc
        exact own_new h hm hf hx
      · cases hc
    · cases hc
  · rename_i v
    have hraw : some (Cell.raw v) = some c' → CR (Env.new we w) c' x := fun e => by simp at e; subst e; exact hx
    split at hc
    · rename_i hn
      split at hc
      · split at hc
        · simp at hc; subst hc
          exact .inl ⟨hx.1.trans (nilV_eq hn), rfl⟩
        · exact hraw hc
      · exact hraw hc
    · exact hraw hc
  · cases hc

theorem outCs_sound {E : Env} {σ : St} {a : Act} {w : World} (h : RelE we E σ a w) : ∀ {ts : List TypeId} {cs cs' : List Cell} {xs : List Value}, CsR E cs xs → outCs P σ.mem ts cs = some cs' → CsR (Env.new we w) cs' xs
  | [], [], cs', xs, hx, hc => by
    simp only [outCs, Option.some.injEq] at hc
    subst hc
    exact ⟨hx.len, fun j c hj => by simp at hj⟩
  | t :: ts, c :: cs, cs', xs, hx, hc => by
    simp only [outCs] at hc
    split at hc
    · rename_i c1 cs1 h1 h2
      simp at hc; subst hc
      cases xs with
      | nil => have := hx.len; simp at this
      | cons x xs =>
        obtain ⟨y, e1, e2⟩ := hx.get 0 c rfl
        simp at e1; subst e1
        exact .cons (outC_sound h e2 h1) (outCs_sound h (xs := xs) ⟨by have := hx.len; simpa using this, fun j d hj => hx.get (j + 1) d (by simpa using hj)⟩ h2)
    · cases hc
  | [], _ :: _, _, _, _, hc => by cases hc
  | _ :: _, [], _, _, _, hc => by cases hc

theorem outF_sound {E : Env} {σ : St} {a : Act} {w : World} (h : RelE we E σ a w) {T : TypeId} {v v' : FV} {x : Value} (hx : FR E v x) (hc : outF P σ.mem T v = some v') : FR (Env.new we w) v' x := by
  cases v with
  | one c =>
    simp only [outF, Option.map_eq_some_iff] at hc
    obtain ⟨c', h1, rfl⟩ := hc
    exact outC_sound h hx h1
  | agg cs =>
    simp only [outF, Option.map_eq_some_iff] at hc
    obtain ⟨cs', h1, rfl⟩ := hc
    obtain ⟨xs, e1, e2⟩ := hx
    exact ⟨xs, e1, outCs_sound h e2 h1⟩

theorem resAll_sound {E : Env} {σ : St} {a : Act} {w : World} (h : RelE we E σ a w) : ∀ {rs : List ResultVar} {Ts : List TypeId} {vs : List FV}, resAll P σ rs Ts = some vs →
    ∃ xs : List Value, ((rs.mapM (resultOf a.tmps)).run P w) = .ok xs w ∧ xs.length = vs.length ∧ ∀ (j : Nat) (v : FV), vs[j]? = some v → ∃ y, xs[j]? = some y ∧ FR (Env.new we w) v y
  | [], [], vs, hv => by
    simp only [resAll, Option.some.injEq] at hv
    subst hv
    exact ⟨[], rfl, rfl, fun j v hj => by simp at hj⟩
  | r :: rs, T :: Ts, vs, hv => by
    simp only [resAll] at hv
    split at hv
    · rename_i u us h1 h2
      split at hv
      · rename_i u' hu
        simp at hv; subst hv
        obtain ⟨x, e1, g1⟩ := resOf_sound h h1
        obtain ⟨xs, e2, e3, g2⟩ := resAll_sound h h2
        refine ⟨x :: xs, ?_, by simp [e3], fun j v hj => ?_⟩
        · rw [List.mapM_cons]
          simp only [Sem.run_bind, e1, e2, Result.andThen_ok, Sem.run_pure]
        · cases j with
          | zero => simp at hj; subst hj; exact ⟨x, rfl, outF_sound h g1 hu⟩
          | succ j => exact g2 j v (by simpa using hj)
      · cases hv
    · cases hv
  | [], _ :: _, _, hv => by cases hv
  | _ :: _, [], _, hv => by cases hv

theorem ResR_of {w w' : World} {r : PV} {x : Value} (hn : ∀ e m, r ≠ .fv (.one (.fresh e m))) (h : PR (Env.new w w') r x) : ResR w w' r x := by
  unfold ResR
  split
  · rename_i e m
    exact absurd rfl (hn e m)
  · exact h

theorem results_eq {fn : Func} {tmps : Array Value} {w : World} {xs : List Value} (h : ((fn.results.toList.mapM (resultOf tmps)).run P w) = .ok xs w) : (results fn tmps).run P w = .ok (if h : xs.toArray.size = 1 then xs.toArray[0] else .tuple xs.toArray) w := by
  have hdef : results fn tmps = (do
      let vs ← fn.results.mapM (resultOf tmps)
      pure (if h : vs.size = 1 then vs[0] else .tuple vs)) := by
    unfold results
    congr 2
  rw [hdef, Array.mapM_eq_mapM_toList]
  simp only [Sem.run_bind, Sem.run_map]
  rw [h]
  rfl

theorem retV_sound {E : Env} {σ : St} {a : Act} {w : World} (h : RelE we E σ a w) {fn : Func} {v : PV} (hv : retV P fn σ = some v) : ∃ x, (results fn a.tmps).run P w = .ok x w ∧ ResR we w v x := by
  unfold retV at hv
  split at hv
  · rename_i u hfr
    simp at hv; subst hv
    unfold freshV at hfr
    split at hfr
    · rename_i r T hrs hTs
      have hone : ∀ {c : Cell}, resOf P σ r = some (.one c) → ∃ x, (results fn a.tmps).run P w = .ok x w ∧ CR E c x := fun hr => by
        obtain ⟨x, e1, g1⟩ := resOf_sound h hr
        refine ⟨x, ?_, g1⟩
        have h2 : ((fn.results.toList.mapM (resultOf a.tmps)).run P w) = .ok [x] w := by
          rw [hrs, List.mapM_cons]
          simp only [Sem.run_bind, e1, Result.andThen_ok, List.mapM_nil, Sem.run_pure]
        rw [results_eq h2]
        simp
      split at hfr
      · rename_i id he hr
        split at hfr
        · rename_i e m hm
          split at hfr
          · rename_i hf
            simp at hfr; subst hfr
            obtain ⟨x, e1, g1⟩ := hone hr
            obtain ⟨xs, hown, hrow⟩ := h.mem id _ (.inl hm)
            have hx : x = E.γ id := g1.1
            exact ⟨x, e1, xs, by rw [hx]; exact hown, RowR_flat hf hrow⟩
          · cases hfr
        · cases hfr
      · rename_i e v he hr
        split at hfr
        · rename_i hn
          split at hfr
          · rename_i k hk
            split at hfr
            · simp at hfr; subst hfr
              obtain ⟨x, e1, g1⟩ := hone hr
              refine ⟨x, e1, [], ?_, RowR_nil k⟩
              rw [g1.1, nilV_eq hn]
              exact World.ownsRow_nil _ _ _ _
            · cases hfr
          · cases hfr
        · cases hfr
      · cases hfr
    · cases hfr
  · split at hv
    · rename_i u hvs
      simp at hv; subst hv
      obtain ⟨xs, e1, e2, g1⟩ := resAll_sound h hvs
      obtain ⟨x, rfl⟩ := List.length_eq_one_iff.1 (by simpa using e2)
      obtain ⟨y, h3, h4⟩ := g1 0 u rfl
      simp at h3; subst h3
      refine ⟨x, by rw [results_eq e1]; simp, ResR_of (fun e m hh => ?_) h4⟩
      cases hh
      exact h4.elim
    · rename_i l hne hvs
      simp at hv; subst hv
      obtain ⟨xs, e1, e2, g1⟩ := resAll_sound h hvs
      have hlen : ¬ xs.toArray.size = 1 := by
        simp
        intro h1
        rw [e2] at h1
        obtain ⟨x, rfl⟩ := List.length_eq_one_iff.1 h1
        exact hne x rfl
      exact ⟨_, by rw [results_eq e1, dif_neg hlen], ResR_of (fun e m hh => by cases hh) ⟨xs, rfl, e2, g1⟩⟩
    · cases hv

/-- The leaves of a tree with a result. -/
def LeafOk (P : Program) (fn : Func) (r : PV) (e : Ex) (σ : St) : Prop :=
  (e = .norm ∨ e = .ret) ∧ ∃ u, retV P fn σ = some u ∧ ∀ w w' x, ResR w w' u x → ResR w w' r x

theorem Conj_map {b : Bool} {x : Bool} (hb : b = x) : ∀ {l : List Prop}, Conj (l.map fun p => b = x → p) → Conj l
  | [], _ => trivial
  | _ :: _, h => ⟨h.1 hb, Conj_map hb h.2⟩

theorem Conj_mapP {x : Prop} (hx : x) : ∀ {l : List Prop}, Conj (l.map fun p => x → p) → Conj l
  | [], _ => trivial
  | _ :: _, h => ⟨h.1 hx, Conj_mapP hx h.2⟩

theorem condV_res {b : Bool} {x y c : PV} (h : condV b x y = some c) {w w' : World} {u : Value} (h1 : b = true → ResR w w' x u) (h2 : b = false → ResR w w' y u) : ResR w w' c u := by
  by_cases hx : ∃ e m, x = .fv (.one (.fresh e m))
  · obtain ⟨e, m, rfl⟩ := hx
    cases y with
    | tup l => cases h
    | clo g l => cases h
    | isn g => cases h
    | fv y =>
      cases y with
      | agg cs => cases h
      | one y =>
        simp only [condV, condF, Option.map_eq_some_iff] at h
        obtain ⟨d, ⟨d', hd, rfl⟩, rfl⟩ := h
        cases y with
        | fresh e' m' =>
          simp only [condC] at hd
          split at hd
          · rename_i he
            subst he
            split at hd
            · rename_i z hz
              simp at hd; subst hd
              unfold SL.sel at hz
              split at hz
              · rename_i l hl
                have hm := SL.as_eq hl
                simp at hz; subst hz
                cases b with
                | true => exact h1 rfl
                | false =>
                  have := h2 rfl
                  rw [hm] at this
                  exact this
              · cases hz
            · cases hd
          · cases hd
        | _ => simp only [condC] at hd; cases hd
  · by_cases hy : ∃ e m, y = .fv (.one (.fresh e m))
    · obtain ⟨e, m, rfl⟩ := hy
      cases x with
      | tup l => cases h
      | clo g l => cases h
      | isn g => cases h
      | fv x =>
        cases x with
        | agg cs => cases h
        | one x =>
          simp only [condV, condF, Option.map_eq_some_iff] at h
          obtain ⟨d, ⟨d', hd, rfl⟩, rfl⟩ := h
          cases x with
          | fresh e' m' => exact absurd ⟨e', m', rfl⟩ hx
          | _ => simp only [condC] at hd; cases hd
    · have hp : ∀ {v : PV}, (¬ ∃ e m, v = .fv (.one (.fresh e m))) → ResR w w' v u → PR (Env.new w w') v u := fun hv hr => by
        unfold ResR at hr
        split at hr
        · exact absurd ⟨_, _, rfl⟩ hv
        · exact hr
      refine ResR_of (fun e m hc => ?_) (condV_rel h (fun e => hp hx (h1 e)) (fun e => hp hy (h2 e)))
      subst hc
      have := condV_rel h (fun e => hp hx (h1 e)) (fun e => hp hy (h2 e))
      exact this.elim

theorem treeRes_sound {fn : Func} : ∀ {t : Tree} {ps : List Prop} {r : PV}, treeRes P fn t = some (ps, r) → Conj ps → t.Sat (LeafOk P fn r)
  | .leaf .norm σ, ps, r, h, _ => by
    simp only [treeRes] at h
    split at h
    · rename_i v hv
      simp at h; obtain ⟨_, rfl⟩ := h
      exact ⟨.inl rfl, v, hv, fun _ _ _ hg => hg⟩
    · cases h
  | .leaf .ret σ, ps, r, h, _ => by
    simp only [treeRes] at h
    split at h
    · rename_i v hv
      simp at h; obtain ⟨_, rfl⟩ := h
      exact ⟨.inr rfl, v, hv, fun _ _ _ hg => hg⟩
    · cases h
  | .leaf (.exit _) _, _, _, h, _ => by cases h
  | .pre qs t, ps, r, h, hc => by
    simp only [treeRes] at h
    split at h
    · rename_i rs v hv
      simp at h; obtain ⟨rfl, rfl⟩ := h
      obtain ⟨h1, h2⟩ := Conj_append.1 hc
      exact ⟨h1, treeRes_sound hv h2⟩
    · cases h
  | .ite b t e, ps, r, h, hc => by
    simp only [treeRes] at h
    split at h
    · rename_i p v q u h1 h2
      split at h
      · rename_i z hz
        simp at h; obtain ⟨rfl, rfl⟩ := h
        obtain ⟨c1, c2⟩ := Conj_append.1 hc
        refine ⟨fun hb => (treeRes_sound h1 (Conj_map hb c1)).mono fun ex σ hl => ?_, fun hb => (treeRes_sound h2 (Conj_map hb c2)).mono fun ex σ hl => ?_⟩
        · obtain ⟨he, y, hy, hg⟩ := hl
          exact ⟨he, y, hy, fun w w' x hx => condV_res hz (fun _ => hg w w' x hx) (fun hb' => by rw [hb] at hb'; cases hb')⟩
        · obtain ⟨he, y, hy, hg⟩ := hl
          exact ⟨he, y, hy, fun w w' x hx => condV_res hz (fun hb' => by rw [hb] at hb'; cases hb') (fun _ => hg w w' x hx)⟩
      · cases h
    · cases h
  | .any qs t e, ps, r, h, hc => by
    simp only [treeRes] at h
    split at h
    · rename_i p v q u h1 h2
      simp at h; obtain ⟨rfl, rfl⟩ := h
      obtain ⟨c1, c2⟩ := Conj_append.1 hc
      refine ⟨fun hq => ?_, treeRes_sound h2 c2.2⟩
      rw [← c2.1 hq]
      exact treeRes_sound h1 (Conj_mapP hq c1)
    · cases h
  | .fail, _, _, h, _ => by cases h

theorem start_rel {fn : Func} {args : List PV} {xs : List Value} (hg : PsR (Env.call we) (fun _ => .free) args xs) : Rel we (start fn args) { tmps := xs.toArray ++ Array.replicate (fn.ntmps - xs.toArray.size) undef, defers := [] } we := by
  refine ⟨Env.call we, rfl, by simp [start, hg.len], fun t => ?_, Below.refl _ _, rfl, fun b hb => hb, fun b hb => ⟨hb, rfl⟩, fun _ _ => rfl, fun id r hh => ?_, fun id id' r r' hh => ?_, fun id r hh => ?_⟩
  · simp only [start]
    cases hx : args[t]? with
    | none => trivial
    | some v =>
      obtain ⟨⟨y, h1, h2⟩, h3⟩ := hg.get t v hx
      have hlt : t < xs.length := (List.getElem?_eq_some_iff.1 h1).1
      have : (xs.toArray ++ Array.replicate (fn.ntmps - xs.toArray.size) undef).getD t undef = y := by
        rw [Array.getD_eq_getD_getElem?, Array.getElem?_append_left (by simpa using hlt)]
        simp [h1]
      simp only
      rw [this]
      exact ⟨h2, h3⟩
  · rcases hh with hh | ⟨_, _, hh, _⟩ <;> simp [start] at hh
  · rcases hh with hh | ⟨_, _, hh, _⟩ <;> simp [start] at hh
  · rcases hh with hh | ⟨_, _, hh, _⟩ <;> simp [start] at hh

/-- **A function is what its symbolic run says.** -/
theorem fn_sound (hm : P.follows .mixedOrders = true) (hC : ∀ f C, ctrs f = some C → Sound P f C) {lps : Nat → St → Tree} {f : FuncId} {fn : Func} {c : Code} (hf : P.funcs[f]? = some fn) (hb : fn.body = some c) (hcall : callable P f = true)
    (hL : ∀ b ∈ loopsOf c, LoopOk P (lps (firstRegion b)) b) : Sound P f (symFn P ctrs lps f) where
  call := hcall
  runs := by
    intro args ps r hs hc we xs hg
    have hres : treeRes P fn (sexec P ctrs lps c (start fn args)) = some (ps, r) := by
      simp only [symFn, hf, hb] at hs
      split at hs
      · rename_i hres
        simp only [Option.some.injEq, Prod.mk.injEq] at hs
        obtain ⟨rfl, rfl⟩ := hs
        exact hres
      · rename_i qs v _ hres
        split at hs
        · simp only [Option.some.injEq, Prod.mk.injEq] at hs
          obtain ⟨rfl, rfl⟩ := hs
          exact hres
        · cases hs
      · cases hs
    refine calls_of_wp hf hb ?_
    have h1 := sexec_sound hm hC c hL _ _ _ _ (treeRes_sound hres hc) (start_rel (fn := fn) hg)
    refine wp_mono h1 fun e a w he => ?_
    obtain ⟨ex, σ', rfl, ⟨hex, u, hu, hgd⟩, E', hr⟩ := he
    obtain ⟨x, hres', hx⟩ := retV_sound hr hu
    have hfin : a.defers = [] ∧ ∃ v, (results fn a.tmps).run P w = .ok v w ∧ ∃ x, Ending.returned v = .returned x ∧ Below we.heap.size we w ∧ ResR we w r x :=
      ⟨hr.defers, x, hres', x, rfl, hr.below, hgd _ _ _ hx⟩
    rcases hex with rfl | rfl
    · exact hfin
    · exact hfin
/-- A contract of one's own, out of a proved one. -/
theorem Sound.of {f : FuncId} {C C' : Contract} (h : Sound P f C) (hc : ∀ args ps r, C' args = some (ps, r) → Conj ps → ∃ qs, C args = some (qs, r) ∧ Conj qs) : Sound P f C' where
  call := h.call
  runs := fun args ps r h1 h2 w xs hg => let ⟨qs, h3, h4⟩ := hc args ps r h1 h2; h.runs args qs r h3 h4 w xs hg

/-- A contract, out of the symbolic run. -/
theorem contract (hm : P.follows .mixedOrders = true) (hC : ∀ f C, ctrs f = some C → Sound P f C) {lps : Nat → St → Tree} {f : FuncId} {fn : Func} (hf : P.funcs[f]? = some fn) (hb : fn.body.isSome = true) (hcall : callable P f = true)
    (hL : ∀ b ∈ loopsOf (fn.body.getD .skip), LoopOk P (lps (firstRegion b)) b) {C : Contract}
    (hc : ∀ args ps r, C args = some (ps, r) → Conj ps → ∃ qs, symFn P ctrs lps f args = some (qs, r) ∧ Conj qs) : Sound P f C := by
  obtain ⟨c, hc'⟩ := Option.isSome_iff_exists.1 hb
  rw [hc'] at hL
  exact (fn_sound hm hC hf hc' hcall hL).of hc

theorem noLoops {lps : Nat → St → Tree} {c : Code} (h : loopsOf c = []) : ∀ b ∈ loopsOf c, LoopOk P (lps (firstRegion b)) b := by
  rw [h]; intro b hb; cases hb

end

/-- A table of contracts. -/
def tbl (l : List (FuncId × Contract)) (f : FuncId) : Option Contract :=
  match l with
  | [] => none
  | (g, C) :: rest => bif Nat.beq f g then some C else tbl rest f

inductive AllSound (P : Program) : List (FuncId × Contract) → Prop
  | nil : AllSound P []
  | cons {f : FuncId} {C : Contract} {l : List (FuncId × Contract)} : Sound P f C → AllSound P l → AllSound P ((f, C) :: l)

theorem AllSound.tbl {P : Program} : ∀ {l : List (FuncId × Contract)}, AllSound P l → ∀ f C, Eng.tbl l f = some C → Sound P f C
  | _, .nil, f, C, h => by cases h
  | _, .cons (f := g) (C := D) h1 h2, f, C, h => by
    simp only [Eng.tbl] at h
    cases hb : Nat.beq f g with
    | true =>
      rw [hb] at h
      have := Nat.eq_of_beq_eq_true hb
      simp at h
      rw [this, ← h]; exact h1
    | false =>
      rw [hb] at h
      exact h2.tbl f C h

end Go.Eng

/- THE ENGINE, PART 4: each operation does what the symbolic step says. -/
import Derived.Test.YtlplaoiapleogaaEngSem
namespace Go.Eng
open Go.RowKit

/-- The guards in 'gs' hold. -/
def Holds (a : Act) (gs : List (Nat × Bool)) : Prop := ∀ g ∈ gs, a.tmps.getD g.1 undef = .bool g.2

theorem ofVal_den (E : Env) (v : Value) : (ofVal v).den E = v := by cases v <;> rfl
theorem ofVal_good (E : Env) (B : Base) (mem : Nat → MRes) {v : Value} (h : v.oneCell' = true) : Good E B mem (ofVal v) := by
  cases v <;> first | exact ⟨trivial, trivial⟩ | exact ⟨h, trivial⟩

theorem map_ofVal_den (E : Env) (l : List Value) : (l.map ofVal).map (Cell.den E) = l := by
  rw [List.map_map]
  conv => rhs; rw [← List.map_id l]
  exact List.map_congr_left fun v _ => ofVal_den E v

theorem ofConst_sound (E : Env) (B : Base) (mem : Nat → MRes) {v : Value} (h : constOk v = true) : v = (ofConst v).den E ∧ GoodV E B mem (ofConst v) := by
  have one : ∀ u : Value, u.oneCell' = true → u = (PV.fv (.one (ofVal u))).den E ∧ GoodV E B mem (.fv (.one (ofVal u))) := fun u hu =>
    ⟨(ofVal_den E u).symm, fun c hc => by
      simp only [PV.cells, FV.cells, List.mem_singleton] at hc
      subst hc
      exact ofVal_good E B mem hu⟩
  cases v with
  | agg cs =>
    refine ⟨?_, fun c hc => ?_⟩
    · simp only [ofConst, PV.den, FV.den, map_ofVal_den, Array.toArray_toList]
    · simp only [ofConst, PV.cells, FV.cells, List.mem_map] at hc
      obtain ⟨u, hu, rfl⟩ := hc
      exact ofVal_good E B mem (Array.all_eq_true'.1 h u (by simpa using hu))
  | tuple vs => cases h
  | _ => exact one _ rfl

theorem rdOp_sound {B : Base} {E : Env} {σ : St} {a : Act} {w : World} (h : RelE B E σ a w) {gs : List (Nat × Bool)} (hg : Holds a gs) {x : Operand} {v : PV} (hx : rdOp σ.tmps gs x = some v) :
    a.eval x = v.den E ∧ GoodV E B σ.mem v := by
  cases x with
  | tmp t =>
    simp only [rdOp] at hx
    have ht := h.tmp t
    split at hx
    · rename_i u hu
      simp at hx; subst hx
      rw [hu] at ht
      exact ht
    · rename_i gt want u hu
      rw [hu] at ht
      split at hx
      · rename_i hany
        simp at hx; subst hx
        refine ht.1 ?_
        obtain ⟨g, hgm, hge⟩ := List.any_eq_true.1 hany
        simp at hge
        have := hg g hgm
        rw [hge.1, hge.2] at this
        exact this
      · cases hx
    · cases hx
  | const u =>
    simp only [rdOp] at hx
    split at hx
    · rename_i hc
      simp at hx; subst hx
      exact ofConst_sound E B σ.mem hc
    · cases hx
  | func f =>
    simp only [rdOp, Option.some.injEq] at hx
    subst hx
    refine ⟨rfl, fun c hc => ?_⟩
    simp only [PV.cells, FV.cells, List.mem_singleton] at hc
    subst hc
    exact ⟨rfl, trivial⟩
  | global g => cases hx

theorem mapOps_sound {B : Base} {E : Env} {σ : St} {a : Act} {w : World} (h : RelE B E σ a w) {gs : List (Nat × Bool)} (hg : Holds a gs) : ∀ {l : List Operand} {vs : List PV}, mapOps (rdOp σ.tmps gs) l = some vs →
    l.map a.eval = vs.map (PV.den E) ∧ ∀ v ∈ vs, GoodV E B σ.mem v
  | [], vs, hm => by
    simp only [mapOps, Option.some.injEq] at hm
    subst hm
    exact ⟨rfl, fun v hv => by cases hv⟩
  | x :: l, vs, hm => by
    simp only [mapOps] at hm
    split at hm
    · rename_i v us hx hl
      simp at hm; subst hm
      obtain ⟨h1, h2⟩ := rdOp_sound h hg hx
      obtain ⟨h3, h4⟩ := mapOps_sound h hg hl
      refine ⟨by simp [h1, h3], fun u hu => ?_⟩
      rcases List.mem_cons.1 hu with rfl | hu
      · exact h2
      · exact h4 u hu
    · cases hm

/-- What each way of an operation's step comes to. -/
def COK (P : Program) (B : Base) (E : Env) (mem : Nat → MRes) (a : Act) (w : World) (o : Oper) (self : Nat) (ids : List Nat) (cont : List Res) (out : Out) : Prop :=
  (∃ v, out.val = some v ∧ out.new = none ∧ out.wr = none ∧ GoodV E B mem v ∧
    ((execOp a.eval o).run P w = .ok (.value (v.den E)) w ∨
      ∃ f args, (execOp a.eval o).run P w = .ok (.enter f args) w ∧ Calls P f args w fun e w' => e = .returned (v.den E) ∧ Below w.heap.size w w')) ∨
  (∃ T cs, out.val = some (.fv (.one (.ref self 0))) ∧ out.new = some (.blk T cs) ∧ out.wr = none ∧ (∀ c ∈ cs, Good E B mem c) ∧
    (execOp a.eval o).run P w = .ok (.value (.pointer (some ⟨w.heap.size, 0, none⟩))) (w.alloc (.cells (cs.map (Cell.den E)).toArray T))) ∨
  (∃ id T cs cs', ids = [id] ∧ cont = [.blk T cs] ∧ out.val = none ∧ out.new = none ∧ out.wr = some [.blk T cs'] ∧ (∀ c ∈ cs', Good E B mem c) ∧
    (execOp a.eval o).run P w = .ok .skip (w.setRow (E.β id) (cs'.map (Cell.den E)).toArray))

theorem COK.pure {P : Program} {B : Base} {E : Env} {mem : Nat → MRes} {a : Act} {w : World} {o : Oper} {self : Nat} {ids : List Nat} {cont : List Res} {v : PV} {ps : List Prop} (hg : GoodV E B mem v)
    (hr : (execOp a.eval o).run P w = .ok (.value (v.den E)) w) : COK P B E mem a w o self ids cont { need := ps, val := some v } := .inl ⟨v, rfl, rfl, rfl, hg, .inl hr⟩

theorem goodV_one {E : Env} {B : Base} {mem : Nat → MRes} {c : Cell} (h : Good E B mem c) : GoodV E B mem (.fv (.one c)) := fun x hx => by
  simp only [PV.cells, FV.cells, List.mem_singleton] at hx
  subst hx
  exact h

theorem good_int {E : Env} {B : Base} {mem : Nat → MRes} {k : IntKind} {n : Int} : Good E B mem (.int k n) := ⟨trivial, trivial⟩
theorem good_bool {E : Env} {B : Base} {mem : Nat → MRes} {b : Bool} : Good E B mem (.bool b) := ⟨trivial, trivial⟩

/-! ### choice -/

theorem condC_sound {E : Env} {B : Base} {mem : Nat → MRes} {b : Bool} {x y c : Cell} (h : condC b x y = some c) (hx : b = true → Good E B mem x) (hy : b = false → Good E B mem y) :
    c.den E = (if b then x.den E else y.den E) ∧ Good E B mem c := by
  unfold condC at h
  split at h
  · split at h
    · rename_i hk
      simp at h; subst h; subst hk
      exact ⟨by cases b <;> rfl, trivial, trivial⟩
    · cases h
  · simp at h; subst h
    exact ⟨by cases b <;> rfl, trivial, trivial⟩
  · split at h
    · rename_i hk
      simp at h; subst h
      obtain ⟨rfl, rfl⟩ := hk
      exact ⟨by cases b <;> rfl, by cases b <;> first | exact hx rfl | exact hy rfl⟩
    · cases h
  · split at h
    · rename_i hk
      simp at h; subst h; subst hk
      exact ⟨by cases b <;> rfl, by cases b <;> first | exact hx rfl | exact hy rfl⟩
    · cases h
  · cases h

theorem condCs_sound {E : Env} {B : Base} {mem : Nat → MRes} {b : Bool} : ∀ {x y c : List Cell}, condCs b x y = some c → (b = true → ∀ u ∈ x, Good E B mem u) → (b = false → ∀ u ∈ y, Good E B mem u) →
    c.map (Cell.den E) = (if b then x.map (Cell.den E) else y.map (Cell.den E)) ∧ ∀ u ∈ c, Good E B mem u
  | [], [], c, h, _, _ => by
    simp only [condCs, Option.some.injEq] at h
    subst h
    exact ⟨by cases b <;> rfl, fun u hu => by cases hu⟩
  | x :: xs, y :: ys, c, h, hx, hy => by
    simp only [condCs] at h
    split at h
    · rename_i u us h1 h2
      simp at h; subst h
      obtain ⟨e1, g1⟩ := condC_sound (E := E) h1 (fun e => hx e x (List.mem_cons_self ..)) (fun e => hy e y (List.mem_cons_self ..))
      obtain ⟨e2, g2⟩ := condCs_sound (E := E) h2 (fun e v hv => hx e v (List.mem_cons_of_mem _ hv)) (fun e v hv => hy e v (List.mem_cons_of_mem _ hv))
      refine ⟨by cases b <;> simp [e1, e2], fun v hv => ?_⟩
      rcases List.mem_cons.1 hv with rfl | hv
      · exact g1
      · exact g2 v hv
    · cases h
  | [], _ :: _, _, h, _, _ => by cases h
  | _ :: _, [], _, h, _, _ => by cases h

theorem condF_sound {E : Env} {B : Base} {mem : Nat → MRes} {b : Bool} {x y c : FV} (h : condF b x y = some c) (hx : b = true → ∀ u ∈ x.cells, Good E B mem u) (hy : b = false → ∀ u ∈ y.cells, Good E B mem u) :
    c.den E = (if b then x.den E else y.den E) ∧ ∀ u ∈ c.cells, Good E B mem u := by
  unfold condF at h
  split at h
  · rename_i x y
    cases hc : condC b x y with
    | none => rw [hc] at h; cases h
    | some z =>
      rw [hc] at h; simp at h; subst h
      obtain ⟨e1, g1⟩ := condC_sound (E := E) (B := B) (mem := mem) hc (fun e => hx e x (by simp [FV.cells])) (fun e => hy e y (by simp [FV.cells]))
      exact ⟨e1, fun u hu => by simp [FV.cells] at hu; subst hu; exact g1⟩
  · rename_i x y
    cases hc : condCs b x y with
    | none => rw [hc] at h; cases h
    | some z =>
      rw [hc] at h; simp at h; subst h
      obtain ⟨e1, g1⟩ := condCs_sound (E := E) (B := B) (mem := mem) hc hx hy
      exact ⟨by simp only [FV.den, e1]; cases b <;> rfl, g1⟩
  · cases h

theorem condFs_sound {E : Env} {B : Base} {mem : Nat → MRes} {b : Bool} : ∀ {x y c : List FV}, condFs b x y = some c → (b = true → ∀ u ∈ x.flatMap FV.cells, Good E B mem u) → (b = false → ∀ u ∈ y.flatMap FV.cells, Good E B mem u) →
    c.map (FV.den E) = (if b then x.map (FV.den E) else y.map (FV.den E)) ∧ ∀ u ∈ c.flatMap FV.cells, Good E B mem u
  | [], [], c, h, _, _ => by
    simp only [condFs, Option.some.injEq] at h
    subst h
    exact ⟨by cases b <;> rfl, fun u hu => by cases hu⟩
  | x :: xs, y :: ys, c, h, hx, hy => by
    simp only [condFs] at h
    split at h
    · rename_i u us h1 h2
      simp at h; subst h
      obtain ⟨e1, g1⟩ := condF_sound (E := E) (B := B) (mem := mem) h1 (fun e v hv => hx e v (by simp [hv])) (fun e v hv => hy e v (by simp [hv]))
      obtain ⟨e2, g2⟩ := condFs_sound (E := E) (B := B) (mem := mem) h2 (fun e v hv => hx e v (by simp only [List.flatMap_cons, List.mem_append]; exact .inr hv)) (fun e v hv => hy e v (by simp only [List.flatMap_cons, List.mem_append]; exact .inr hv))
      refine ⟨by cases b <;> simp [e1, e2], fun v hv => ?_⟩
      simp only [List.flatMap_cons, List.mem_append] at hv
      rcases hv with hv | hv
      · exact g1 v hv
      · exact g2 v hv
    · cases h
  | [], _ :: _, _, h, _, _ => by cases h
  | _ :: _, [], _, h, _, _ => by cases h

theorem condV_sound {E : Env} {B : Base} {mem : Nat → MRes} {b : Bool} {x y c : PV} (h : condV b x y = some c) (hx : b = true → GoodV E B mem x) (hy : b = false → GoodV E B mem y) :
    c.den E = (if b then x.den E else y.den E) ∧ GoodV E B mem c := by
  unfold condV at h
  split at h
  · rename_i x y
    cases hc : condF b x y with
    | none => rw [hc] at h; cases h
    | some z => rw [hc] at h; simp at h; subst h; exact condF_sound hc hx hy
  · rename_i x y
    cases hc : condFs b x y with
    | none => rw [hc] at h; cases h
    | some z =>
      rw [hc] at h; simp at h; subst h
      obtain ⟨e1, g1⟩ := condFs_sound (E := E) (B := B) (mem := mem) hc hx hy
      exact ⟨by simp only [PV.den, e1]; cases b <;> rfl, g1⟩
  · cases h

/-! ### parts of aggregates -/

theorem run_isAgg (P : Program) (t : TypeId) (w : World) {d : TypeDesc} (h : P.underlying t = some d) : (isAgg t).run P w = .ok (isAggT P t) w := by
  unfold isAgg isAggT
  simp only [Sem.run_bind, run_underlying h, Result.andThen_ok, h]
  cases d <;> rfl

theorem info_of_cells {P : Program} {t : TypeId} (h : P.cellsOf t ≠ 0) : ∃ i, P.info? t = some i ∧ i.size = P.cellsOf t := by
  unfold Program.cellsOf at *
  cases hi : P.info? t with
  | none => rw [hi] at h; simp at h
  | some i => exact ⟨i, rfl, by simp⟩

theorem run_sizeOf {P : Program} {t : TypeId} {i : TypeInfo} (h : P.info? t = some i) (w : World) : (sizeOf t).run P w = .ok (P.cellsOf t) w := by
  simp [sizeOf, typeInfo, h, Program.cellsOf]

theorem Addr.add_add (a : Addr) (m n : Nat) : (a.add m).add n = a.add (m + n) := by
  unfold Addr.add
  by_cases hm : m = 0
  · subst hm; simp
  · by_cases hn : n = 0
    · subst hn; simp
    · simp [hm, hn, Nat.add_assoc]

theorem partOf_cells {P : Program} {t : TypeId} {cs : List Cell} {off : Nat} {v : FV} (h : partOf P t cs off = some v) : ∀ c ∈ v.cells, c ∈ cs := by
  unfold partOf at h
  split at h
  · split at h
    · split at h
      · simp at h; subst h
        intro c hc
        exact List.mem_of_mem_drop (List.mem_of_mem_take hc)
      · cases h
    · split at h
      · rename_i c hc
        simp at h; subst h
        intro u hu
        simp [FV.cells] at hu
        subst hu
        exact List.mem_of_getElem? hc
      · cases h
  · cases h

theorem load_sound {P : Program} {E : Env} {w : World} {t : TypeId} {cs : List Cell} {off : Nat} {v : FV} (h : partOf P t cs off = some v) {a : Addr}
    (hc : ∀ j c, cs[off + j]? = some c → w.cell? (a.add j) = some (c.den E)) : (loadVar t a).run P w = .ok (v.den E) w := by
  unfold partOf at h
  split at h
  · rename_i d i hd hi
    unfold loadVar
    simp only [Sem.run_bind, run_isAgg P t w hd, Result.andThen_ok]
    split at h
    · rename_i ha
      split at h
      · rename_i hle
        simp at h; subst h
        simp only [ha, if_true, Sem.run_bind, sizeOf, typeInfo, run_program, Result.andThen_ok, hi, Sem.run_pure]
        have hlen : (((cs.drop off).take i.size).map (Cell.den E)).length = i.size := by simp; omega
        have hl := run_loadCells_list (P := P) w a (((cs.drop off).take i.size).map (Cell.den E)) (fun j u hu => by
          rw [List.getElem?_map] at hu
          cases hx : ((cs.drop off).take i.size)[j]? with
          | none => rw [hx] at hu; cases hu
          | some c =>
            rw [hx] at hu
            simp at hu; subst hu
            refine hc j c ?_
            rw [List.getElem?_take] at hx
            split at hx
            · simpa using hx
            · cases hx)
        rw [hlen] at hl
        rw [hl]
        rfl
      · cases h
    · rename_i ha
      split at h
      · rename_i c hcc
        simp at h; subst h
        have h0 := hc 0 c (by simpa using hcc)
        have ha' : isAggT P t = false := by simpa using ha
        have h1 : w.cell? a = some (c.den E) := by simpa [Addr.add] using h0
        simp only [ha', Bool.false_eq_true, if_false, run_load, h1]
        rfl
      · cases h
  · cases h

theorem part_sound {P : Program} {E : Env} {w : World} {t : TypeId} {cs : List Cell} {off : Nat} {v : FV} (h : partOf P t cs off = some v) :
    (part t (cs.map (Cell.den E)).toArray off).run P w = .ok (v.den E) w := by
  unfold partOf at h
  split at h
  · rename_i d i hd hi
    unfold part
    simp only [Sem.run_bind, run_isAgg P t w hd, Result.andThen_ok]
    split at h
    · rename_i ha
      split at h
      · rename_i hle
        simp at h; subst h
        simp only [ha, if_true, Sem.run_bind, sizeOf, typeInfo, run_program, Result.andThen_ok, hi, Sem.run_pure, FV.den]
        congr 2
        apply Array.ext'
        simp [List.map_take, List.map_drop]
      · cases h
    · rename_i ha
      split at h
      · rename_i c hcc
        simp at h; subst h
        have ha' : isAggT P t = false := by simpa using ha
        simp [ha', hcc, FV.den]
      · cases h
  · cases h

theorem cell_of_blk {w : World} {b : Nat} {cs : Array Value} {T : TypeId} {fr : Nat × Nat} (h : w.heap[b]? = some (.cells cs T fr)) (o : Nat) : w.cell? ⟨b, o, none⟩ = cs[o]? := by
  simp [World.cell?, h]

theorem fieldsOf_spec {P : Program} {t : TypeId} {fs : Array Field} (h : fieldsOf P t = some fs) : P.underlying t = some (.struct fs) := by
  unfold fieldsOf at h
  split at h
  · rename_i fs' hu
    simp at h; subst h; exact hu
  · cases h

theorem arrOf_spec {P : Program} {t : TypeId} {x : Nat × TypeId} (h : arrOf P t = some x) : P.underlying t = some (.array x.1 x.2) := by
  unfold arrOf at h
  split at h
  · rename_i n e hu
    simp at h; subst h; exact hu
  · cases h

theorem run_fieldPlace {P : Program} {f : Field} {i : TypeInfo} (hi : P.info? f.type = some i) (h0 : i.size ≠ 0) (a : Addr) (w : World) : (fieldPlace a f).run P w = .ok (a.add f.offset) w := by
  simp [fieldPlace, sizeOf, typeInfo, hi, h0]

theorem slcAt_add {v : Value} {m n : Nat} {a : Addr} {len cap : Nat} (h : v = .slice (some a) len cap) : slcAt v (m + n) = .pointer (some ((a.add m).add n)) := by
  subst h
  simp [slcAt, Addr.add_add]

theorem contOf_one {gs : List (Nat × Bool)} {mem : Nat → MRes} {a : Act} (hg : Holds a gs) {id : Nat} {cont : List Res} (h : contOf gs mem [id] = some cont) : ∃ r, cont = [r] ∧ Has mem a.tmps id r := by
  simp only [contOf] at h
  split at h
  · rename_i r l hm hl
    simp at hl h; subst hl; subst h
    exact ⟨r, rfl, .inl hm⟩
  · rename_i gt want r l hm hl
    split at h
    · rename_i hany
      simp at hl h; subst hl; subst h
      refine ⟨r, rfl, .inr ⟨gt, want, hm, ?_⟩⟩
      obtain ⟨g, hgm, hge⟩ := List.any_eq_true.1 hany
      simp at hge
      have := hg g hgm
      rw [hge.1, hge.2] at this
      exact this
    · cases h
  · cases h

section
variable {P : Program} {ctrs : FuncId → Option Contract} {B : Base} {E : Env} {σ : St} {a : Act} {w : World} {o : Oper} {gs : List (Nat × Bool)} {self : Nat} {ids : List Nat} {cont : List Res} {out : Out}

theorem core_move (h : RelE B E σ a w) (hg : Holds a gs) {x : Operand} (ho : o.op = .move x ∨ o.op = .assign x) (hc : pureOut (rdOp σ.tmps gs x) = some out) : COK P B E σ.mem a w o self ids cont out := by
  cases hx : rdOp σ.tmps gs x with
  | none => rw [hx] at hc; cases hc
  | some v =>
    rw [hx] at hc
    simp only [pureOut, Option.some.injEq] at hc
    subst hc
    obtain ⟨h1, h2⟩ := rdOp_sound h hg hx
    refine COK.pure h2 ?_
    rcases ho with ho | ho <;> simp [execOp, ho, h1]

theorem core_pick (h : RelE B E σ a w) (hg : Holds a gs) {c x y : Operand} (ho : o.op = .pick c x y) (hc : core P ctrs o (rdOp σ.tmps) gs self ids cont = some out) : COK P B E σ.mem a w o self ids cont out := by
  simp only [core, ho] at hc
  split at hc
  · rename_i bc hbc
    obtain ⟨h1, _⟩ := rdOp_sound h hg hbc
    split at hc
    · rename_i t
      split at hc
      · rename_i va vb ha hb
        cases hv : condV bc va vb with
        | none => rw [hv] at hc; cases hc
        | some v =>
          rw [hv] at hc
          simp only [pureOut, Option.some.injEq] at hc
          subst hc
          have hta : bc = true → Holds a ((t, true) :: gs) := fun e g hgm => by
            rcases List.mem_cons.1 hgm with rfl | hgm
            · subst e; exact h1
            · exact hg g hgm
          have htb : bc = false → Holds a ((t, false) :: gs) := fun e g hgm => by
            rcases List.mem_cons.1 hgm with rfl | hgm
            · subst e; exact h1
            · exact hg g hgm
          obtain ⟨e1, g1⟩ := condV_sound (E := E) (B := B) (mem := σ.mem) hv (fun e => (rdOp_sound h (hta e) ha).2) (fun e => (rdOp_sound h (htb e) hb).2)
          refine COK.pure g1 ?_
          have hcb : a.eval (.tmp t) = .bool bc := h1
          cases bc with
          | true =>
            have hxa := (rdOp_sound h (hta rfl) ha).1
            simp [execOp, ho, hcb, asBool, hxa, e1]
          | false =>
            have hxb := (rdOp_sound h (htb rfl) hb).1
            simp [execOp, ho, hcb, asBool, hxb, e1]
      · cases hc
    · cases hc
  · cases hc

theorem core_alloc {T : TypeId} (ho : o.op = .alloc T) (hc : core P ctrs o (rdOp σ.tmps) gs self ids cont = some out) : COK P B E σ.mem a w o self ids cont out := by
  simp only [core, ho] at hc
  split at hc
  · rename_i i hi
    split at hc
    · rename_i z hz
      split at hc
      · rename_i hone
        simp at hc; subst hc
        refine .inr (.inl ⟨T, _, rfl, rfl, rfl, fun c hcm => ?_, ?_⟩)
        · simp only [List.mem_map] at hcm
          obtain ⟨u, hu, rfl⟩ := hcm
          exact ofVal_good E B σ.mem (Array.all_eq_true'.1 hone u (by simpa using hu))
        · rw [map_ofVal_den, Array.toArray_toList]
          simp [execOp, ho, Instr.alloc, zeroValue, typeInfo, hi, hz, newVar, newRow]
      · cases hc
    · cases hc
  · cases hc

theorem cells_one {v : Value} (h : v.oneCell' = true) : v.cells = #[v] := by cases v <;> first | rfl | cases h

theorem FV.den_cells {E : Env} {B : Base} {mem : Nat → MRes} {v : FV} (h : ∀ c ∈ v.cells, Good E B mem c) : (v.den E).cells = (v.cells.map (Cell.den E)).toArray := by
  cases v with
  | one c => exact cells_one (oneCell_den (h c (by simp [FV.cells])).1)
  | agg cs => rfl

theorem core_box (h : RelE B E σ a w) (hg : Holds a gs) {T : TypeId} {x : Operand} (ho : o.op = .box T x) (hc : core P ctrs o (rdOp σ.tmps) gs self ids cont = some out) : COK P B E σ.mem a w o self ids cont out := by
  simp only [core, ho] at hc
  split at hc
  · rename_i v hv
    simp at hc; subst hc
    obtain ⟨h1, h2⟩ := rdOp_sound h hg hv
    refine .inr (.inl ⟨T, _, rfl, rfl, rfl, h2, ?_⟩)
    have h3 : (v.den E).cells = _ := FV.den_cells (B := B) (mem := σ.mem) h2
    simp [execOp, ho, Instr.box, newVar, newRow, h1, PV.den, h3]
  · cases hc

theorem core_load (h : RelE B E σ a w) (hg : Holds a gs) {T : TypeId} {x : Operand} (ho : o.op = .load T x) (hp : plan o (rdOp σ.tmps gs) = ids) (hct : contOf gs σ.mem ids = some cont)
    (hc : core P ctrs o (rdOp σ.tmps) gs self ids cont = some out) (hn : Conj out.need) : COK P B E σ.mem a w o self ids cont out := by
  simp only [core, ho] at hc
  split at hc
  · rename_i id off T' cs hx
    obtain ⟨h1, h2⟩ := rdOp_sound h hg hx
    have hid : ids = [id] := by rw [← hp]; simp [plan, ho, hx]
    subst hid
    obtain ⟨r, hr, hh⟩ := contOf_one hg hct
    simp at hr; subst hr
    obtain ⟨_, hb, hgood⟩ := h.mem id _ hh
    split at hc
    · rename_i v hv
      simp only [pureOut, Option.some.injEq] at hc
      subst hc
      refine COK.pure (fun c hcm => hgood c (partOf_cells hv c hcm)) ?_
      have hl := load_sound (P := P) (E := E) (w := w) hv (a := ⟨E.β id, off, none⟩) fun j c hj => by
        rw [Addr.add_lit, cell_of_blk hb]
        simp [hj]
      simp [execOp, ho, h1, PV.den, FV.den, Cell.den, Instr.loadAt, Instr.sureAddr, hl]
    · cases hc
  · rename_i hd sz i off get hx
    obtain ⟨h1, h2⟩ := rdOp_sound h hg hx
    obtain ⟨ad, len, cap, hv, hcs⟩ := (h2 (.rp hd sz i off get) (by simp [PV.cells, FV.cells])).1
    split at hc
    · rename_i v hpv
      simp only [pureOut, Option.some.injEq] at hc
      subst hc
      have hget : ∀ c ∈ (List.range sz).map get, ∃ j, j < sz ∧ c = get j := fun c hcm => by
        simp only [List.mem_map, List.mem_range] at hcm
        obtain ⟨j, hj, rfl⟩ := hcm
        exact ⟨j, hj, rfl⟩
      refine COK.pure (fun c hcm => ?_) ?_
      · obtain ⟨j, hj, rfl⟩ := hget c (partOf_cells hpv c hcm)
        exact (ok0_good (hcs j hj).2 E σ.mem).2
      · have hl := load_sound (P := P) (E := E) (w := w) hpv (a := (ad.add (i * sz)).add off) fun j c hj => by
          have hjs : off + j < sz := by
            have := (List.getElem?_eq_some_iff.1 hj).1
            simpa using this
          have hcj : c = get (off + j) := by simpa [hjs] using hj.symm
          rw [Addr.add_add, Addr.add_add]
          subst hcj
          rw [(ok0_good (hcs _ hjs).2 E σ.mem).1]
          exact cell?_below h.below (B.cell_we (hcs _ hjs).1)
        have hsl := slcAt_add (m := i * sz) (n := off) hv
        simp [execOp, ho, h1, PV.den, FV.den, Cell.den, hsl, Instr.loadAt, Instr.sureAddr, hl]
    · cases hc
  · rename_i id sz i off e sz' n get hx
    obtain ⟨h1, h2⟩ := rdOp_sound h hg hx
    have hid : ids = [id] := by rw [← hp]; simp [plan, ho, hx]
    subst hid
    obtain ⟨r, hr, hh⟩ := contOf_one hg hct
    simp at hr; subst hr
    obtain ⟨hrow, hok⟩ := h.mem id _ hh
    split at hc
    · rename_i hsz
      subst hsz
      split at hc
      · rename_i v hpv
        simp only [Option.some.injEq] at hc
        subst hc
        have hin : i < n := hn.1
        rcases hrow with ⟨_, h0⟩ | ⟨g, cap, cur, hv, _, hgg, _, _, _, hcur⟩
        · omega
        have hget : ∀ c ∈ (List.range sz).map (get i), ∃ j, j < sz ∧ c = get i j := fun c hcm => by
          simp only [List.mem_map, List.mem_range] at hcm
          obtain ⟨j, hj, rfl⟩ := hcm
          exact ⟨j, hj, rfl⟩
        refine COK.pure (fun c hcm => ?_) ?_
        · obtain ⟨j, hj, rfl⟩ := hget c (partOf_cells hpv c hcm)
          exact (ok0_good (hok i j hin hj) E σ.mem).2
        · have hl := load_sound (P := P) (E := E) (w := w) hpv (a := ((⟨g, 0, none⟩ : Addr).add (i * sz)).add off) fun j c hj => by
            have hjs : off + j < sz := by
              have := (List.getElem?_eq_some_iff.1 hj).1
              simpa using this
            have hcj : c = get i (off + j) := by simpa [hjs] using hj.symm
            subst hcj
            rw [(ok0_good (hok i _ hin hjs) E σ.mem).1, Addr.add_add, Addr.add_add, Addr.add_lit, cell_of_blk hgg]
            have := hcur i (off + j) hin hjs
            simpa [Nat.add_assoc] using this
          have hsl := slcAt_add (m := i * sz) (n := off) hv
          simp [execOp, ho, h1, PV.den, FV.den, Cell.den, hsl, Instr.loadAt, Instr.sureAddr, hl]
      · cases hc
    · cases hc
  · cases hc

theorem core_store (h : RelE B E σ a w) (hg : Holds a gs) {T : TypeId} {x v : Operand} (ho : o.op = .store T x v) (hp : plan o (rdOp σ.tmps gs) = ids) (hct : contOf gs σ.mem ids = some cont)
    (hc : core P ctrs o (rdOp σ.tmps) gs self ids cont = some out) : COK P B E σ.mem a w o self ids cont out := by
  simp only [core, ho] at hc
  split at hc
  · rename_i id off u T' cs i hx hv hi
    obtain ⟨h1, _⟩ := rdOp_sound h hg hx
    obtain ⟨h3, h4⟩ := rdOp_sound h hg hv
    have hid : ids = [id] := by rw [← hp]; simp [plan, ho, hx]
    subst hid
    obtain ⟨r, hr, hh⟩ := contOf_one hg hct
    simp at hr; subst hr
    obtain ⟨_, hb, hgood⟩ := h.mem id _ hh
    split at hc
    · rename_i hlen
      simp at hc; subst hc
      refine .inr (.inr ⟨id, T', cs, _, rfl, rfl, rfl, rfl, rfl, fun c hcm => ?_, ?_⟩)
      · simp only [splice, List.mem_append] at hcm
        rcases hcm with (hcm | hcm) | hcm
        · exact hgood c (List.mem_of_mem_take hcm)
        · exact h4 c hcm
        · exact hgood c (List.mem_of_mem_drop hcm)
      · have h5 : (u.den E).cells = _ := FV.den_cells (B := B) (mem := σ.mem) h4
        have hst := run_storeCells_at P (E.β id) off T' (u.cells.map (Cell.den E)) 0 _ w hb (by simp; omega) (fun y hy => by
          simp only [List.mem_map] at hy
          obtain ⟨c, hcm, rfl⟩ := hy
          exact oneCell_den (h4 c hcm).1)
        simp only [Nat.add_zero] at hst
        have hfin : (List.map (Cell.den E) (splice cs off u.cells)).toArray = ((List.map (Cell.den E) cs).toArray.toList.take off ++ List.map (Cell.den E) u.cells ++ (List.map (Cell.den E) cs).toArray.toList.drop (off + (List.map (Cell.den E) u.cells).length)).toArray := by
          simp [splice]
        rw [hfin]
        have e1 : a.eval x = .pointer (some ⟨E.β id, off, none⟩) := h1
        have e2 : a.eval v = u.den E := h3
        simp [execOp, ho, e1, e2, Instr.storeAt, Instr.sureAddr, storeVar, sizeOf, typeInfo, hi, hlen.1, h5, hst]
    · cases hc
  · cases hc

theorem core_nilCheck (h : RelE B E σ a w) (hg : Holds a gs) {x : Operand} (ho : o.op = .nilCheck x) (hc : core P ctrs o (rdOp σ.tmps) gs self ids cont = some out) : COK P B E σ.mem a w o self ids cont out := by
  simp only [core, ho] at hc
  split at hc
  · rename_i id off hx
    simp only [one, pureOut, Option.some.injEq] at hc
    subst hc
    obtain ⟨h1, h2⟩ := rdOp_sound h hg hx
    refine COK.pure h2 ?_
    simp [execOp, ho, h1, PV.den, FV.den, Cell.den]
  · cases hc

theorem core_unOp (h : RelE B E σ a w) (hg : Holds a gs) {op : UnOp} {T : TypeId} {x : Operand} (ho : o.op = .unOp op T x) (hc : core P ctrs o (rdOp σ.tmps) gs self ids cont = some out) : COK P B E σ.mem a w o self ids cont out := by
  simp only [core, ho] at hc
  split at hc
  · rename_i k n hx
    simp only [one, pureOut, Option.some.injEq] at hc
    subst hc
    obtain ⟨h1, _⟩ := rdOp_sound h hg hx
    refine COK.pure (goodV_one good_int) ?_
    simp [execOp, ho, h1, PV.den, FV.den, Cell.den, Op.unary, Op.intArith]
  · rename_i b hx
    simp only [one, pureOut, Option.some.injEq] at hc
    subst hc
    obtain ⟨h1, _⟩ := rdOp_sound h hg hx
    refine COK.pure (goodV_one good_bool) ?_
    simp [execOp, ho, h1, PV.den, FV.den, Cell.den, Op.unary]
  · cases hc

theorem core_convert (h : RelE B E σ a w) (hg : Holds a gs) {src dst : TypeId} {x : Operand} (ho : o.op = .convert src dst x) (hc : core P ctrs o (rdOp σ.tmps) gs self ids cont = some out) : COK P B E σ.mem a w o self ids cont out := by
  simp only [core, ho] at hc
  split at hc
  · rename_i d k k' n hs hd hx
    simp only [one, pureOut, Option.some.injEq] at hc
    subst hc
    obtain ⟨h1, _⟩ := rdOp_sound h hg hx
    refine COK.pure (goodV_one good_int) ?_
    have e1 : a.eval x = .int k' n := h1
    simp [execOp, ho, e1, convert, run_underlying hs, run_underlying hd, Conv.intToInt, PV.den, FV.den, Cell.den]
  · cases hc

theorem core_fieldAddr (h : RelE B E σ a w) (hg : Holds a gs) {S : TypeId} {x : Operand} {f : Nat} (ho : o.op = .fieldAddr S x f) (hc : core P ctrs o (rdOp σ.tmps) gs self ids cont = some out) : COK P B E σ.mem a w o self ids cont out := by
  simp only [core, ho] at hc
  split at hc
  · rename_i fs hfs
    have hu := fieldsOf_spec hfs
    split at hc
    · rename_i fd hfd
      split at hc
      · cases hc
      · rename_i hne
        obtain ⟨i, hi, hsz⟩ := info_of_cells hne
        have hpl := fun ad => run_fieldPlace hi (by omega) ad w
        split at hc
        · rename_i id off hx
          simp only [one, pureOut, Option.some.injEq] at hc
          subst hc
          obtain ⟨h1, h2⟩ := rdOp_sound h hg hx
          have e1 : a.eval x = .pointer (some ⟨E.β id, off, none⟩) := h1
          refine COK.pure (goodV_one ⟨trivial, (h2 (.ref id off) (by simp [PV.cells, FV.cells])).2⟩) ?_
          simp [execOp, ho, e1, Instr.fieldAt, run_underlying hu, hfd, Instr.sureAddr, hpl, Addr.add_lit, PV.den, FV.den, Cell.den]
        · rename_i hd sz j off get hx
          simp only [one, pureOut, Option.some.injEq] at hc
          subst hc
          obtain ⟨h1, h2⟩ := rdOp_sound h hg hx
          have hgd := (h2 (.rp hd sz j off get) (by simp [PV.cells, FV.cells]))
          refine COK.pure (goodV_one ⟨hgd.1, trivial⟩) ?_
          obtain ⟨ad, len, cap, hv, _⟩ := hgd.1
          have e1 : a.eval x = .pointer (some (ad.add (j * sz + off))) := by rw [h1]; simp [PV.den, FV.den, Cell.den, hv, slcAt]
          simp [execOp, ho, e1, Instr.fieldAt, run_underlying hu, hfd, Instr.sureAddr, hpl, PV.den, FV.den, Cell.den, hv, slcAt, Addr.add_add, Nat.add_assoc]
        · rename_i id sz j off hx
          simp only [one, pureOut, Option.some.injEq] at hc
          subst hc
          obtain ⟨h1, h2⟩ := rdOp_sound h hg hx
          have hgd := (h2 (.orp id sz j off) (by simp [PV.cells, FV.cells]))
          have hok : (slcAt (E.γ id) (j * sz + off)).oneCell' = true := hgd.1
          cases hv : E.γ id with
          | slice ad len cap =>
            cases ad with
            | none => rw [hv] at hok; simp [slcAt, undef, Value.oneCell'] at hok
            | some ad =>
              refine COK.pure (goodV_one ⟨?_, hgd.2⟩) ?_
              · simp only [Cell.ok, hv, slcAt, Value.oneCell']
              · have e1 : a.eval x = .pointer (some (ad.add (j * sz + off))) := by rw [h1]; simp [PV.den, FV.den, Cell.den, hv, slcAt]
                simp [execOp, ho, e1, Instr.fieldAt, run_underlying hu, hfd, Instr.sureAddr, hpl, PV.den, FV.den, Cell.den, hv, slcAt, Addr.add_add, Nat.add_assoc]
          | _ => rw [hv] at hok; simp [slcAt, undef, Value.oneCell'] at hok
        · cases hc
    · cases hc
  · cases hc

theorem core_field (h : RelE B E σ a w) (hg : Holds a gs) {T : TypeId} {x : Operand} {f : Nat} (ho : o.op = .field T x f) (hc : core P ctrs o (rdOp σ.tmps) gs self ids cont = some out) : COK P B E σ.mem a w o self ids cont out := by
  simp only [core, ho] at hc
  split at hc
  · rename_i fs cs hfs hx
    have hu := fieldsOf_spec hfs
    obtain ⟨h1, h2⟩ := rdOp_sound h hg hx
    split at hc
    · rename_i fd hfd
      split at hc
      · rename_i v hv
        simp only [pureOut, Option.some.injEq] at hc
        subst hc
        refine COK.pure (fun c hcm => h2 c (partOf_cells hv c hcm)) ?_
        have hp := part_sound (P := P) (E := E) (w := w) hv
        have e1 : a.eval x = .agg (cs.map (Cell.den E)).toArray := h1
        simp [execOp, ho, e1, Instr.field, run_underlying hu, hfd, asAgg, hp, PV.den]
      · cases hc
    · cases hc
  · cases hc

theorem core_extract (h : RelE B E σ a w) (hg : Holds a gs) {x : Operand} {k : Nat} (ho : o.op = .extract x k) (hc : core P ctrs o (rdOp σ.tmps) gs self ids cont = some out) : COK P B E σ.mem a w o self ids cont out := by
  simp only [core, ho] at hc
  split at hc
  · rename_i l hx
    obtain ⟨h1, h2⟩ := rdOp_sound h hg hx
    split at hc
    · rename_i v hv
      simp only [pureOut, Option.some.injEq] at hc
      subst hc
      refine COK.pure (fun c hcm => h2 c ?_) ?_
      · simp only [PV.cells, List.mem_flatMap]
        exact ⟨v, List.mem_of_getElem? hv, hcm⟩
      · have e1 : a.eval x = .tuple (l.map (FV.den E)).toArray := h1
        simp [execOp, ho, e1, Instr.extract, hv, PV.den]
    · cases hc
  · cases hc

theorem idxNeed_sound {i : Int} {n : Nat} (h : Conj (idxNeed i n)) : 0 ≤ i ∧ i < n := by
  unfold idxNeed at h
  split at h
  · rename_i hd; exact of_decide_eq_true hd
  · exact h.1.elim

theorem core_indexAddr (h : RelE B E σ a w) (hg : Holds a gs) {T : TypeId} {x ix : Operand} (ho : o.op = .indexAddr T x ix) (hp : plan o (rdOp σ.tmps gs) = ids) (hct : contOf gs σ.mem ids = some cont)
    (hc : core P ctrs o (rdOp σ.tmps) gs self ids cont = some out) (hn : Conj out.need) : COK P B E σ.mem a w o self ids cont out := by
  simp only [core, ho] at hc
  split at hc
  · rename_i n e id off k i hu hx hi
    split at hc
    · rename_i hinf
      simp at hc; subst hc
      obtain ⟨h1, h2⟩ := rdOp_sound h hg hx
      obtain ⟨h3, _⟩ := rdOp_sound h hg hi
      have e1 : a.eval x = .pointer (some ⟨E.β id, off, none⟩) := h1
      have e2 : a.eval ix = .int k i := h3
      obtain ⟨hi0, hin⟩ := idxNeed_sound hn
      obtain ⟨inf, hinf⟩ := Option.isSome_iff_exists.1 hinf
      refine COK.pure (goodV_one ⟨trivial, (h2 (.ref id off) (by simp [PV.cells, FV.cells])).2⟩) ?_
      simp [execOp, ho, e1, e2, Instr.indexAt, asIntOf, run_underlying hu, Instr.sureAddr, hi0, hin, run_sizeOf hinf, Addr.add_lit, PV.den, FV.den, Cell.den]
    · cases hc
  · rename_i e hd sz n get k i hu hx hi
    split at hc
    · rename_i hinf
      obtain ⟨rfl, hinf⟩ := hinf
      simp at hc; subst hc
      obtain ⟨h1, h2⟩ := rdOp_sound h hg hx
      obtain ⟨h3, _⟩ := rdOp_sound h hg hi
      have e2 : a.eval ix = .int k i := h3
      obtain ⟨hi0, hin⟩ := hn.1
      obtain ⟨inf, hinf⟩ := Option.isSome_iff_exists.1 hinf
      have hok := (h2 (.slc hd (P.cellsOf e) n get) (by simp [PV.cells, FV.cells])).1
      rcases hok with ⟨_, h0⟩ | ⟨ad, cap, hv, hcs⟩
      · omega
      · have e1 : a.eval x = .slice (some ad) n cap := h1.trans hv
        refine COK.pure (goodV_one ⟨⟨ad, n, cap, hv, fun j hj => hcs i.toNat j (by omega) hj⟩, trivial⟩) ?_
        simp [execOp, ho, e1, e2, Instr.indexAt, asIntOf, run_underlying hu, hi0, hin, run_sizeOf hinf, PV.den, FV.den, Cell.den, hv, slcAt]
    · cases hc
  · rename_i e id k i hu hx hi
    split at hc
    · rename_i e' sz n get
      split at hc
      · rename_i hinf
        obtain ⟨rfl, hinf⟩ := hinf
        simp at hc; subst hc
        obtain ⟨h1, h2⟩ := rdOp_sound h hg hx
        obtain ⟨h3, _⟩ := rdOp_sound h hg hi
        have e2 : a.eval ix = .int k i := h3
        obtain ⟨hi0, hin⟩ := hn.1
        obtain ⟨inf, hinf⟩ := Option.isSome_iff_exists.1 hinf
        have hid : ids = [id] := by rw [← hp]; simp [plan, ho, hx]
        subst hid
        obtain ⟨r, hr, hh⟩ := contOf_one hg hct
        simp at hr; subst hr
        obtain ⟨hrow, _⟩ := h.mem id _ hh
        rcases hrow with ⟨_, h0⟩ | ⟨g, cap, cur, hv, _⟩
        · omega
        · have e1 : a.eval x = .slice (some ⟨g, 0, none⟩) n cap := h1.trans hv
          refine COK.pure (goodV_one ⟨?_, (h2 (.own id) (by simp [PV.cells, FV.cells])).2⟩) ?_
          · simp only [Cell.ok, hv, slcAt, Value.oneCell']
          · simp [execOp, ho, e1, e2, Instr.indexAt, asIntOf, run_underlying hu, hi0, hin, run_sizeOf hinf, PV.den, FV.den, Cell.den, hv, slcAt]
      · cases hc
    · cases hc
  · cases hc

theorem core_index (h : RelE B E σ a w) (hg : Holds a gs) {T : TypeId} {x ix : Operand} (ho : o.op = .index T x ix)
    (hc : core P ctrs o (rdOp σ.tmps) gs self ids cont = some out) (hn : Conj out.need) : COK P B E σ.mem a w o self ids cont out := by
  simp only [core, ho] at hc
  split at hc
  · rename_i n e cs k i hu hx hi
    split at hc
    · cases hc
    · rename_i hinf
      split at hc
      · rename_i v hv
        simp only [Option.some.injEq] at hc
        subst hc
        obtain ⟨h1, h2⟩ := rdOp_sound h hg hx
        obtain ⟨h3, _⟩ := rdOp_sound h hg hi
        have e1 : a.eval x = .agg (cs.map (Cell.den E)).toArray := h1
        have e2 : a.eval ix = .int k i := h3
        obtain ⟨hi0, hin⟩ := idxNeed_sound hn
        obtain ⟨inf, hinf⟩ := Option.isSome_iff_exists.1 (show (P.info? e).isSome = true by revert hinf; cases P.info? e <;> simp)
        refine COK.pure (fun c hcm => h2 c (partOf_cells hv c hcm)) ?_
        have hp := part_sound (P := P) (E := E) (w := w) hv
        simp [execOp, ho, e1, e2, Instr.index, asIntOf, run_underlying hu, hi0, hin, run_sizeOf hinf, hp, PV.den]
      · cases hc
  · cases hc

/-! ### '==' -/

theorem eqFields_sound {eq : TypeId → FV → FV → Option Bool} {d : Nat} (heq : ∀ t u v b, eq t u v = some b → (Op.equalIn d t (u.den E) (v.den E)).run P w = .ok b w) {xs ys : List Cell} : ∀ {fs : List Field} {b : Bool}, eqFields P eq xs ys fs = some b →
    (Op.eqFields d (xs.map (Cell.den E)).toArray (ys.map (Cell.den E)).toArray fs).run P w = .ok b w
  | [], b, h => by
    simp only [eqFields, Option.some.injEq] at h
    subst h
    rfl
  | f :: fs, b, h => by
    simp only [eqFields] at h
    split at h
    · cases h
    · rename_i hname
      split at h
      · rename_i u v hu hv
        split at h
        · rename_i b1 r h1 h2
          simp at h; subst h
          have hp := part_sound (P := P) (E := E) (w := w) hu
          have hq := part_sound (P := P) (E := E) (w := w) hv
          have ih := eqFields_sound heq h2
          have he := heq _ _ _ _ h1
          simp only [Op.eqFields]
          rw [if_pos hname]
          simp only [Sem.run_bind, hp, hq, he, Result.andThen_ok]
          cases b1 with
          | true => simpa using ih
          | false => simp
        · cases h
      · cases h

theorem eqElems_sound {eq : TypeId → FV → FV → Option Bool} {d : Nat} (heq : ∀ t u v b, eq t u v = some b → (Op.equalIn d t (u.den E) (v.den E)).run P w = .ok b w) {e sz : Nat} {xs ys : List Cell} : ∀ {is : List Nat} {b : Bool}, eqElems P eq e sz xs ys is = some b →
    ((forIn is ((none, ()) : Option Bool × Unit) fun i _ => do
        let u ← part e (xs.map (Cell.den E)).toArray (i * sz)
        let v ← part e (ys.map (Cell.den E)).toArray (i * sz)
        let r ← Op.equalIn d e u v
        if (!r) = true then pure (ForInStep.done (some false, ())) else pure (ForInStep.yield (none, ())) : Sem (Option Bool × Unit)).run P w) = .ok (if b then none else some false, ()) w
  | [], b, h => by
    simp only [eqElems, Option.some.injEq] at h
    subst h
    rfl
  | i :: is, b, h => by
    simp only [eqElems] at h
    split at h
    · rename_i u v hu hv
      split at h
      · rename_i b1 r h1 h2
        simp at h; subst h
        have hp := part_sound (P := P) (E := E) (w := w) hu
        have hq := part_sound (P := P) (E := E) (w := w) hv
        have ih := eqElems_sound heq h2
        have he := heq _ _ _ _ h1
        simp only [List.forIn_cons, Sem.run_bind, hp, hq, he, Result.andThen_ok]
        cases b1 with
        | true => simpa using ih
        | false => simp
      · cases h
    · cases h

theorem eqF_sound : ∀ (d : Nat) (D : Nat), d ≤ D → ∀ (t : TypeId) (u v : FV) (b : Bool), eqF P d t u v = some b → (Op.equalIn D t (u.den E) (v.den E)).run P w = .ok b w
  | 0, _, _, t, u, v, b, h => by cases h
  | d + 1, 0, hD, _, _, _, _, _ => absurd hD (by omega)
  | d + 1, D + 1, hD, t, u, v, b, h => by
    have ih := eqF_sound d D (by omega)
    unfold eqF at h
    split at h
    · rename_i hu
      simp only [Option.some.injEq] at h
      subst h
      simp [Op.equalIn, run_underlying hu, FV.den, Cell.den]
    · rename_i hu
      split at h
      · rename_i hk
        simp only [Option.some.injEq] at h
        subst h
        subst hk
        simp [Op.equalIn, run_underlying hu, FV.den, Cell.den]
      · cases h
    · rename_i fs xs ys hu
      split at h
      · cases h
      · rename_i hst
        have hf : P.fieldsOf t = fs := by unfold Program.fieldsOf; rw [hu]
        have := run_equalIn_struct (P := P) w D t (xs.map (Cell.den E)).toArray (ys.map (Cell.den E)).toArray (by rw [hf]; exact hu) (by simpa using hst)
        rw [hf] at this
        simp only [FV.den]
        rw [this]
        exact eqFields_sound ih h
    · rename_i n e xs ys hu
      split at h
      · rename_i i hi
        have hsz : P.cellsOf e = i.size := by simp [Program.cellsOf, hi]
        simp only [Op.equalIn, FV.den, Sem.run_bind, run_underlying hu, Result.andThen_ok, run_sizeOf hi, hsz]
        have hel := eqElems_sound ih h
        simp only [Std.Legacy.Range.forIn_eq_forIn_range', Std.Legacy.Range.size, Nat.sub_zero, Nat.add_sub_cancel, Nat.div_one, hel, Result.andThen_ok]
        cases b <;> rfl
      · cases h
    · cases h

/-! ### arithmetic and comparison -/

theorem rightNeed_sound {op : BinOp} {y : Operand} {k : IntKind} {b : Int} (hy : a.eval y = .int k b) (h : Conj (rightNeed op y b)) :
    ((op = .quo ∨ op = .rem) → b ≠ 0) ∧ ((op = .shl ∨ op = .shr) → ¬ b < 0) := by
  have hconst : ∀ k' n, y = .const (.int k' n) → n = b := by
    intro k' n e
    subst e
    have : (Value.int k' n) = .int k b := hy
    simpa using (Value.int.inj this).2
  unfold rightNeed at h
  split at h <;> (try split at h) <;> (try split at h) <;> simp_all [Conj] <;> omega

theorem run_eqGuard_int (op : BinOp) (T : TypeId) (x y : Operand) (k k' : IntKind) (m n : Int) : (eqGuard op T x y (.int k m) (.int k' n)).run P w = .ok () w := by
  cases op <;> simp [eqGuard]

theorem intBin_sound {op : BinOp} {T : TypeId} {k : IntKind} {m n : Int} {c : Cell} (h : intBin op k m n = some c) (h0 : (op = .quo ∨ op = .rem) → n ≠ 0) :
    (binOp op T (.int k m) (.int k n)).run P w = .ok (c.den E) w ∧ Good E B σ.mem c := by
  cases op <;> simp only [intBin, Option.some.injEq, reduceCtorEq] at h <;> subst h <;> refine ⟨?_, trivial, trivial⟩ <;>
    simp [binOp, Op.intArith, Op.intDiv, Op.intBits, Op.intCmp, Cell.den] <;> simp_all

theorem run_eqGuard_fv {op : BinOp} {T : TypeId} {x y : Operand} {u v : FV} {d : Nat} {b : Bool} (h : eqF P (d + 1) T u v = some b) (hm : P.eqGuardType P.depth T = false) : (eqGuard op T x y (u.den E) (v.den E)).run P w = .ok () w := by
  unfold eqF at h
  split at h
  · cases op <;> simp [eqGuard, FV.den, Cell.den]
  · exact run_eqGuard_int op T x y _ _ _ _
  · exact run_eqGuard_agg w op T x y _ _ hm
  · exact run_eqGuard_agg w op T x y _ _ hm
  · cases h

theorem run_binOp_fv {T : TypeId} {u v : FV} {d : Nat} {b : Bool} (hd : d + 1 ≤ 10000) (h : eqF P (d + 1) T u v = some b) :
    (binOp .eql T (u.den E) (v.den E)).run P w = .ok (.bool b) w ∧ (binOp .neq T (u.den E) (v.den E)).run P w = .ok (.bool (!b)) w := by
  have he := eqF_sound (P := P) (E := E) (w := w) (d + 1) 10000 hd T u v b h
  have h0 := h
  unfold eqF at h
  split at h
  · constructor <;> simp only [FV.den, Cell.den] at he ⊢ <;> simp [binOp, Op.equal, Op.maxDepth, he]
  · rename_i k a k' c hu
    split at h
    · rename_i hk
      subst hk
      simp at h; subst h
      constructor
      · simp [FV.den, Cell.den, binOp, Op.intCmp]
      · simp [FV.den, Cell.den, binOp, Op.intCmp, bne]
    · cases h
  · constructor <;> simp only [FV.den] at he ⊢ <;> simp [binOp, Op.equal, Op.maxDepth, he]
  · constructor <;> simp only [FV.den] at he ⊢ <;> simp [binOp, Op.equal, Op.maxDepth, he]
  · cases h

theorem core_binOp (h : RelE B E σ a w) (hg : Holds a gs) {op : BinOp} {T T' : TypeId} {x y : Operand} (ho : o.op = .binOp op T x y T') (hc : core P ctrs o (rdOp σ.tmps) gs self ids cont = some out) (hn : Conj out.need) : COK P B E σ.mem a w o self ids cont out := by
  simp only [core, ho] at hc
  split at hc
  · rename_i k m k' n hx hy
    obtain ⟨h1, _⟩ := rdOp_sound h hg hx
    obtain ⟨h2, _⟩ := rdOp_sound h hg hy
    have e1 : a.eval x = .int k m := h1
    have e2 : a.eval y = .int k' n := h2
    have hgd := fun op => run_eqGuard_int (P := P) (w := w) op T x y k k' m n
    split at hc
    · simp only [one, Option.some.injEq] at hc
      subst hc
      obtain ⟨_, r2⟩ := rightNeed_sound (op := .shl) e2 hn
      refine COK.pure (goodV_one good_int) ?_
      simp [execOp, ho, e1, e2, hgd, binOp, Op.shift, r2 (.inl rfl), PV.den, FV.den, Cell.den]
    · simp only [one, Option.some.injEq] at hc
      subst hc
      obtain ⟨_, r2⟩ := rightNeed_sound (op := .shr) e2 hn
      refine COK.pure (goodV_one good_int) ?_
      simp [execOp, ho, e1, e2, hgd, binOp, Op.shift, r2 (.inr rfl), PV.den, FV.den, Cell.den]
    · split at hc
      · rename_i hk
        subst hk
        split at hc
        · rename_i c hcb
          simp only [one, Option.some.injEq] at hc
          subst hc
          obtain ⟨r1, _⟩ := rightNeed_sound e2 hn
          obtain ⟨hr, hgo⟩ := intBin_sound (P := P) (B := B) (E := E) (σ := σ) (w := w) (T := T) hcb r1
          refine COK.pure (goodV_one hgo) ?_
          simp [execOp, ho, e1, e2, hgd, hr, PV.den, FV.den]
        · cases hc
      · cases hc
  · rename_i u v hne hx hy
    obtain ⟨h1, _⟩ := rdOp_sound h hg hx
    obtain ⟨h2, _⟩ := rdOp_sound h hg hy
    have e1 : a.eval x = u.den E := h1
    have e2 : a.eval y = v.den E := h2
    split at hc
    · cases hc
    · rename_i hm
      have hm' : P.eqGuardType P.depth T = false := by simpa using hm
      split at hc
      · split at hc
        · rename_i b hb
          simp only [one, pureOut, Option.some.injEq] at hc
          subst hc
          refine COK.pure (goodV_one good_bool) ?_
          have hq := run_eqGuard_fv (E := E) (w := w) (op := .eql) (x := x) (y := y) hb hm'
          have hr := run_binOp_fv (E := E) (w := w) (by omega) hb
          have hfin : (PV.fv (.one (.bool b))).den E = .bool b := rfl
          rw [hfin]
          simp [execOp, ho, e1, e2, hq, hr.1]
        · cases hc
      · split at hc
        · rename_i b hb
          simp only [one, pureOut, Option.some.injEq] at hc
          subst hc
          refine COK.pure (goodV_one good_bool) ?_
          have hq := run_eqGuard_fv (E := E) (w := w) (op := .neq) (x := x) (y := y) hb hm'
          have hr := run_binOp_fv (E := E) (w := w) (by omega) hb
          have hfin : (PV.fv (.one (.bool (!b)))).den E = .bool (!b) := rfl
          rw [hfin]
          simp [execOp, ho, e1, e2, hq, hr.2]
        · cases hc
      · cases hc
  · cases hc

/-! ### aggregates built out of parts -/

theorem fvParts_sound (h : RelE B E σ a w) (hg : Holds a gs) : ∀ {l : List (Nat × Operand)} {ps : List (Nat × FV)}, fvParts (rdOp σ.tmps gs) l = some ps →
    (l.map fun x => (x.1, a.eval x.2)) = (ps.map fun x => (x.1, x.2.den E)) ∧ ∀ p ∈ ps, ∀ c ∈ p.2.cells, Good E B σ.mem c
  | [], ps, hp => by
    simp only [fvParts, Option.some.injEq] at hp
    subst hp
    exact ⟨rfl, fun p hp => by cases hp⟩
  | (i, x) :: l, ps, hp => by
    simp only [fvParts] at hp
    split at hp
    · rename_i v us hx hl
      simp at hp; subst hp
      obtain ⟨h1, h2⟩ := rdOp_sound h hg hx
      obtain ⟨h3, h4⟩ := fvParts_sound h hg hl
      have e1 : a.eval x = v.den E := h1
      refine ⟨by simp [e1, h3], fun p hp => ?_⟩
      rcases List.mem_cons.1 hp with rfl | hp
      · exact h2
      · exact h4 p hp
    · cases hp

theorem splice_length {cs new : List Cell} {off : Nat} (h : off + new.length ≤ cs.length) : (splice cs off new).length = cs.length := by
  simp [splice]; omega

theorem foldl_splice {E : Env} : ∀ (new : List Cell) (cs : List Cell) (off k : Nat), off + k + new.length ≤ cs.length →
    ((new.map (Cell.den E)).zipIdx k).foldl (fun (acc : Array Value) (x : Value × Nat) => acc.setIfInBounds (off + x.2) x.1) (cs.map (Cell.den E)).toArray = ((splice cs (off + k) new).map (Cell.den E)).toArray
  | [], cs, off, k, _ => by simp [splice]
  | c :: new, cs, off, k, h => by
    simp only [List.map_cons, List.zipIdx_cons, List.foldl_cons]
    have hl : off + k < cs.length := by simp at h; omega
    have h1 : ((cs.map (Cell.den E)).toArray.setIfInBounds (off + k) (c.den E)) = ((cs.set (off + k) c).map (Cell.den E)).toArray := by
      apply Array.ext'
      simp [List.map_set]
    rw [h1, foldl_splice new (cs.set (off + k) c) off (k + 1) (by simp at h ⊢; omega)]
    congr 2
    simp only [splice]
    have h2 : (cs.set (off + k) c).take (off + (k + 1)) = cs.take (off + k) ++ [c] := by
      rw [show off + (k + 1) = (off + k) + 1 by omega, List.take_succ_eq_append_getElem (by simpa using hl)]
      simp [List.take_set_of_le (Nat.le_refl _)]
    have h3 : (cs.set (off + k) c).drop (off + (k + 1) + new.length) = cs.drop (off + k + (c :: new).length) := by
      rw [List.drop_set_of_lt (by omega)]
      congr 1
      simp
      omega
    rw [h2, h3]
    simp

theorem fillC_sound {place : Nat → Option (Nat × Nat)} : ∀ {ps : List (Nat × FV)} {cs r : List Cell}, fillC place cs ps = some r → (∀ p ∈ ps, ∀ c ∈ p.2.cells, Good E B σ.mem c) → (∀ c ∈ cs, Good E B σ.mem c) →
    Instr.fill place (cs.map (Cell.den E)).toArray (ps.map fun x => (x.1, x.2.den E)) = some (r.map (Cell.den E)).toArray ∧ ∀ c ∈ r, Good E B σ.mem c
  | [], cs, r, h, _, hc => by
    simp only [fillC, Option.some.injEq] at h
    subst h
    exact ⟨rfl, hc⟩
  | (i, v) :: ps, cs, r, h, hp, hc => by
    simp only [fillC] at h
    split at h
    · cases h
    · rename_i off size hpl
      split at h
      · rename_i hle
        obtain ⟨hl, hle⟩ := hle
        have hv := hp (i, v) (List.mem_cons_self ..)
        have ih := fillC_sound h (fun p hpm => hp p (List.mem_cons_of_mem _ hpm)) (fun c hcm => by
          simp only [splice, List.mem_append] at hcm
          rcases hcm with (hcm | hcm) | hcm
          · exact hc c (List.mem_of_mem_take hcm)
          · exact hv c hcm
          · exact hc c (List.mem_of_mem_drop hcm))
        refine ⟨?_, ih.2⟩
        have h5 : (v.den E).cells = (v.cells.map (Cell.den E)).toArray := FV.den_cells (B := B) (mem := σ.mem) hv
        simp only [List.map_cons, Instr.fill, hpl]
        have h6 : ¬ ((v.den E).cells.size ≠ size || decide (off + (v.den E).cells.size > (cs.map (Cell.den E)).toArray.size)) = true := by
          rw [h5]; simp; omega
        rw [if_neg h6, h5]
        have h7 := foldl_splice (E := E) v.cells cs off 0 (by omega)
        simp only [Nat.add_zero] at h7
        rw [← ih.1]
        congr 1
        rw [← h7]
        simp
      · cases h

theorem run_places {w : World} : ∀ (fs : List Field), (∀ f ∈ fs, (P.info? f.type).isSome = true) → ((fs.mapM fun f => do pure (f.offset, ← sizeOf f.type) : Sem (List (Nat × Nat))).run P w) = .ok (fs.map fun f => (f.offset, P.cellsOf f.type)) w
  | [], _ => rfl
  | f :: fs, h => by
    obtain ⟨i, hi⟩ := Option.isSome_iff_exists.1 (h f (List.mem_cons_self ..))
    have ih := run_places (w := w) fs fun g hg => h g (List.mem_cons_of_mem _ hg)
    rw [List.mapM_cons]
    simp only [Sem.run_bind, run_sizeOf hi, Result.andThen_ok, Sem.run_pure, ih, List.map_cons]

theorem core_build (h : RelE B E σ a w) (hg : Holds a gs) {T : TypeId} {parts : Array (Nat × Operand)} (ho : o.op = .build T parts) (hc : core P ctrs o (rdOp σ.tmps) gs self ids cont = some out) : COK P B E σ.mem a w o self ids cont out := by
  simp only [core, ho] at hc
  split at hc
  · rename_i i fs ps hi hfs hps
    have hu := fieldsOf_spec hfs
    split at hc
    · cases hc
    · rename_i hall
      split at hc
      · rename_i z hz
        split at hc
        · cases hc
        · rename_i hone
          split at hc
          · rename_i cs hcs
            simp only [pureOut, Option.some.injEq] at hc
            subst hc
            obtain ⟨h1, h2⟩ := fvParts_sound h hg hps
            obtain ⟨h3, h4⟩ := fillC_sound (E := E) (B := B) (σ := σ) hcs h2 (fun c hcm => by
              simp only [List.mem_map] at hcm
              obtain ⟨u, hu, rfl⟩ := hcm
              exact ofVal_good E B σ.mem (Array.all_eq_true'.1 (show z.cells.all (·.oneCell') = true by simpa using hone) u (by simpa using hu)))
            refine COK.pure h4 ?_
            rw [map_ofVal_den, Array.toArray_toList, ← h1] at h3
            have hpl := run_places (P := P) (w := w) fs.toList fun f hf => by
              exact Array.all_eq_true'.1 (show fs.all (fun f => (P.info? f.type).isSome) = true by revert hall; cases fs.all (fun f => (P.info? f.type).isSome) <;> simp) f (by simpa using hf)
            have hm : ((fs.mapM fun f : Field => do pure (f.offset, ← sizeOf f.type) : Sem (Array (Nat × Nat))).run P w) = .ok (fs.map fun f : Field => (f.offset, P.cellsOf f.type)) w := by
              rw [Array.mapM_eq_mapM_toList, Sem.run_map, hpl]
              simp only [Result.andThen_ok]
              congr 1
              exact Array.ext' (by simp)
            have hfin : (PV.fv (.agg cs)).den E = .agg (cs.map (Cell.den E)).toArray := rfl
            rw [hfin]
            have hplace : (fun k : Nat => (fs.map fun f : Field => (f.offset, P.cellsOf f.type))[k]?) = fun k => (fs[k]?).map fun f => (f.offset, P.cellsOf f.type) := by
              funext k; simp
            simp only [execOp, ho, Instr.build, zeroValue, typeInfo, Sem.run_bind, run_program, Result.andThen_ok, hi, Sem.run_pure, hz, run_underlying hu, hm, Array.toList_map, hplace, h3]
          · cases hc
      · cases hc
  · rename_i i ps hi hfs hps
    split at hc
    · rename_i n e ha
      have hu := arrOf_spec ha
      split at hc
      · rename_i ie hie
        split at hc
        · rename_i z hz
          split at hc
          · cases hc
          · rename_i hone
            split at hc
            · rename_i cs hcs
              simp only [pureOut, Option.some.injEq] at hc
              subst hc
              obtain ⟨h1, h2⟩ := fvParts_sound h hg hps
              obtain ⟨h3, h4⟩ := fillC_sound (E := E) (B := B) (σ := σ) hcs h2 (fun c hcm => by
                simp only [List.mem_map] at hcm
                obtain ⟨u, hu, rfl⟩ := hcm
                exact ofVal_good E B σ.mem (Array.all_eq_true'.1 (show z.cells.all (·.oneCell') = true by simpa using hone) u (by simpa using hu)))
              refine COK.pure h4 ?_
              rw [map_ofVal_den, Array.toArray_toList, ← h1] at h3
              have hfin : (PV.fv (.agg cs)).den E = .agg (cs.map (Cell.den E)).toArray := rfl
              rw [hfin]
              simp only [execOp, ho, Instr.build, zeroValue, typeInfo, Sem.run_bind, run_program, Result.andThen_ok, hi, Sem.run_pure, hz, run_underlying hu, run_sizeOf hie, Array.toList_map, h3]
            · cases hc
        · cases hc
      · cases hc
    · cases hc
  · cases hc

/-! ### min, max, len -/

theorem foldF_min {k : IntKind} : ∀ {x : Cell} {l : List PV} {c : Cell}, (∃ n, x = .int k n) → foldF minF x l = some c → (∃ n, c = .int k n) ∧ ((l.map (PV.den E)).foldlM Builtin.min2 (x.den E) : Sem Value).run P w = .ok (c.den E) w
  | x, [], c, hx, h => by
    simp only [foldF, Option.some.injEq] at h
    subst h
    exact ⟨hx, rfl⟩
  | x, v :: l, c, hx, h => by
    obtain ⟨n, rfl⟩ := hx
    unfold foldF at h
    split at h
    · rename_i heq; cases heq
    · rename_i x' y rest heq
      injection heq with e1 e2
      subst e1 e2
      split at h
      · rename_i z hz
        unfold minF at hz
        split at hz
        · rename_i k1 m k2 m2 e3
          injection e3 with e4 e5
          subst e4 e5
          simp at hz; subst hz
          obtain ⟨h1, h2⟩ := foldF_min (k := k) ⟨_, rfl⟩ h
          refine ⟨h1, ?_⟩
          simp only [List.map_cons, List.foldlM_cons, Sem.run_bind, PV.den, FV.den, Cell.den, Builtin.min2, Sem.run_pure, Result.andThen_ok]
          simpa [Cell.den] using h2
        · cases hz
      · cases h
    · cases h

theorem foldF_max {k : IntKind} : ∀ {x : Cell} {l : List PV} {c : Cell}, (∃ n, x = .int k n) → foldF maxF x l = some c → (∃ n, c = .int k n) ∧ ((l.map (PV.den E)).foldlM Builtin.max2 (x.den E) : Sem Value).run P w = .ok (c.den E) w
  | x, [], c, hx, h => by
    simp only [foldF, Option.some.injEq] at h
    subst h
    exact ⟨hx, rfl⟩
  | x, v :: l, c, hx, h => by
    obtain ⟨n, rfl⟩ := hx
    unfold foldF at h
    split at h
    · rename_i heq; cases heq
    · rename_i x' y rest heq
      injection heq with e1 e2
      subst e1 e2
      split at h
      · rename_i z hz
        unfold maxF at hz
        split at hz
        · rename_i k1 m k2 m2 e3
          injection e3 with e4 e5
          subst e4 e5
          simp at hz; subst hz
          obtain ⟨h1, h2⟩ := foldF_max (k := k) ⟨_, rfl⟩ h
          refine ⟨h1, ?_⟩
          simp only [List.map_cons, List.foldlM_cons, Sem.run_bind, PV.den, FV.den, Cell.den, Builtin.max2, Sem.run_pure, Result.andThen_ok]
          simpa [Cell.den] using h2
        · cases hz
      · cases h
    · cases h

/-! ### calls -/

/-- The function has a body of its own to enter. -/
def callable (P : Program) (f : FuncId) : Bool :=
  match P.funcs[f]? with
  | some fn => !(fn.name == "runtime.NumGoroutine") && !fn.body.isNone
  | none => false

/-- A function's contract: what it comes to on arguments of this shape. -/
structure Sound (P : Program) (f : FuncId) (C : Contract) : Prop where
  call : callable P f = true
  runs : ∀ (args : List PV) (ps : List Prop) (r : PV), C args = some (ps, r) → Conj ps → ∀ (E : Env) (B : Base),
    (∀ v ∈ args, GoodV E B (fun _ => .free) v) → Calls P f (args.map (PV.den E)).toArray B.we fun e w' => e = .returned (r.den E) ∧ Below B.we.heap.size B.we w' ∧ ∀ c ∈ r.cells, c.ok E B

/-- The callee's environment. -/
def Env.callee (E : Env) : Env := { β := E.β, γ := E.γ, α := fun m => if m % 2 = 0 then E.α (m / 2) else E.γ (m / 2), ν := E.ν }

theorem Hd.lift_val (E : Env) (h : Hd) : h.lift.val E.callee = h.val E := by
  cases h with
  | fix v => rfl
  | arg k => simp [Hd.lift, Hd.val, Env.callee]
  | new k e => rfl

theorem plain_callee {E : Env} {c : Cell} (h : c.plain = true) : c.den E.callee = c.den E := by
  unfold Cell.plain at h
  split at h <;> first | rfl | cases h

theorem plain_ok {E E' : Env} {B B' : Base} (hb : B'.wb = B.wb) {c : Cell} (h : c.plain = true) (hc : c.ok E' B') : c.ok E B := by
  unfold Cell.plain at h
  split at h
  · trivial
  · trivial
  · exact hc
  · simp only [Cell.ok, Base.at, Hd.val, hb] at hc ⊢; exact hc
  · cases h

theorem plain_fits {mem : Nat → MRes} {c : Cell} (h : c.plain = true) : c.fits mem := by
  unfold Cell.plain at h
  split at h <;> first | trivial | cases h

theorem plainV_callee {E : Env} {v : PV} (h : v.plain = true) : v.den E.callee = v.den E := by
  have hf : ∀ u : FV, u.cells.all Cell.plain = true → u.den E.callee = u.den E := fun u hu => by
    cases u with
    | one c => exact plain_callee (by simpa [FV.cells] using hu)
    | agg cs =>
      simp only [FV.den]
      congr 2
      exact List.map_congr_left fun c hc => plain_callee (List.all_eq_true.1 hu c hc)
  cases v with
  | fv u => exact hf u h
  | tup l =>
    simp only [PV.den]
    congr 2
    exact List.map_congr_left fun u hu => hf u (List.all_eq_true.1 h u hu)

theorem plainV_cells {v : PV} (h : v.plain = true) : ∀ c ∈ v.cells, c.plain = true := by
  intro c hc
  cases v with
  | fv u => exact List.all_eq_true.1 h c hc
  | tup l =>
    simp only [PV.cells, List.mem_flatMap] at hc
    obtain ⟨u, hu, hcu⟩ := hc
    exact List.all_eq_true.1 (List.all_eq_true.1 h u hu) c hcu

/-- The world at a call. -/
def Base.call (B : Base) (w : World) (h : Below B.we.heap.size B.we w) : Base := ⟨B.wb, w, B.hb.trans (h.mono B.hb.size)⟩

theorem contOf_zip {gs : List (Nat × Bool)} {mem : Nat → MRes} {a : Act} (hg : Holds a gs) : ∀ {ids : List Nat} {cont : List Res}, contOf gs mem ids = some cont → ∀ p ∈ ids.zip cont, Has mem a.tmps p.1 p.2
  | [], _, _, p, hp => by simp at hp
  | id :: ids, cont, h, p, hp => by
    simp only [contOf] at h
    split at h
    · rename_i r l hm hl
      simp at h; subst h
      simp only [List.zip_cons_cons, List.mem_cons] at hp
      rcases hp with rfl | hp
      · exact .inl hm
      · exact contOf_zip hg hl p hp
    · rename_i gt want r l hm hl
      split at h
      · rename_i hany
        simp at h; subst h
        simp only [List.zip_cons_cons, List.mem_cons] at hp
        rcases hp with rfl | hp
        · refine .inr ⟨gt, want, hm, ?_⟩
          obtain ⟨g, hgm, hge⟩ := List.any_eq_true.1 hany
          simp at hge
          have := hg g hgm
          rw [hge.1, hge.2] at this
          exact this
        · exact contOf_zip hg hl p hp
      · cases h
    · cases h

theorem viewC_sound (h : RelE B E σ a w) (hz : ∀ p ∈ ids.zip cont, Has σ.mem a.tmps p.1 p.2) {c c' : Cell} (hc : Good E B σ.mem c) (hv : viewC ids cont c = some c') :
    c'.den E.callee = c.den E ∧ Good E.callee (B.call w h.below) (fun _ => .free) c' := by
  have hcell : ∀ (hd : Hd) (ad : Addr) (v : Value), (B.at hd).cell? ad = some v → ((B.call w h.below).at hd.lift).cell? ad = some v := by
    intro hd ad v hx
    cases hd with
    | fix u => exact hx
    | arg k => exact cell?_below h.below hx
    | new k e => exact cell?_below h.below hx
  unfold viewC at hv
  split at hv
  · rename_i id
    split at hv
    · rename_i e sz n get hfind
      simp at hv; subst hv
      have hmem := List.mem_of_find?_eq_some hfind
      have hid := List.find?_some hfind
      simp at hid
      have hhas := hz _ hmem
      simp only at hhas
      rw [hid] at hhas
      obtain ⟨hrow, hok⟩ := h.mem id _ hhas
      refine ⟨?_, ?_, trivial⟩
      · simp only [Cell.den, Hd.val, Env.callee]
        rw [if_neg (by omega), show (2 * id + 1) / 2 = id by omega]
      · have hval : (Hd.arg (2 * id + 1)).val E.callee = E.γ id := by
          simp only [Hd.val, Env.callee]
          rw [if_neg (by omega), show (2 * id + 1) / 2 = id by omega]
        simp only [Cell.ok, hval, Base.at]
        rcases hrow with ⟨h1, h2⟩ | ⟨g, cap, cur, h1, _, hgg, _, _, _, hcur⟩
        · exact .inl ⟨h1, h2⟩
        · refine .inr ⟨⟨g, 0, none⟩, cap, h1, fun i j hi hj => ⟨?_, hok i j hi hj⟩⟩
          show w.cell? _ = _
          rw [Addr.add_lit, cell_of_blk hgg]
          simpa using hcur i j hi hj
    · cases hv
  · cases hv
  · cases hv
  · cases hv
  · rename_i hd sz n get
    simp at hv; subst hv
    refine ⟨Hd.lift_val E hd, ?_, trivial⟩
    simp only [Cell.ok, Hd.lift_val]
    rcases hc.1 with h1 | ⟨ad, cap, h1, h2⟩
    · exact .inl h1
    · exact .inr ⟨ad, cap, h1, fun i j hi hj => ⟨hcell hd _ _ (h2 i j hi hj).1, (h2 i j hi hj).2⟩⟩
  · simp at hv; subst hv; exact ⟨rfl, trivial, trivial⟩
  · simp at hv; subst hv; exact ⟨rfl, trivial, trivial⟩
  · simp at hv; subst hv; exact ⟨rfl, hc.1, trivial⟩

theorem viewCs_sound (h : RelE B E σ a w) (hz : ∀ p ∈ ids.zip cont, Has σ.mem a.tmps p.1 p.2) : ∀ {cs cs' : List Cell}, (∀ c ∈ cs, Good E B σ.mem c) → viewCs ids cont cs = some cs' →
    cs'.map (Cell.den E.callee) = cs.map (Cell.den E) ∧ ∀ c ∈ cs', Good E.callee (B.call w h.below) (fun _ => .free) c
  | [], cs', _, hv => by
    simp only [viewCs, Option.some.injEq] at hv
    subst hv
    exact ⟨rfl, fun c hc => by cases hc⟩
  | c :: cs, cs', hc, hv => by
    simp only [viewCs] at hv
    split at hv
    · rename_i c1 cs1 h1 h2
      simp at hv; subst hv
      obtain ⟨e1, g1⟩ := viewC_sound h hz (hc c (List.mem_cons_self ..)) h1
      obtain ⟨e2, g2⟩ := viewCs_sound h hz (fun x hx => hc x (List.mem_cons_of_mem _ hx)) h2
      refine ⟨by simp [e1, e2], fun x hx => ?_⟩
      rcases List.mem_cons.1 hx with rfl | hx
      · exact g1
      · exact g2 x hx
    · cases hv

theorem viewV_sound (h : RelE B E σ a w) (hz : ∀ p ∈ ids.zip cont, Has σ.mem a.tmps p.1 p.2) {v v' : PV} (hc : GoodV E B σ.mem v) (hv : viewV ids cont v = some v') :
    v'.den E.callee = v.den E ∧ GoodV E.callee (B.call w h.below) (fun _ => .free) v' := by
  unfold viewV at hv
  split at hv
  · rename_i c
    cases hx : viewC ids cont c with
    | none => rw [hx] at hv; cases hv
    | some c' =>
      rw [hx] at hv; simp at hv; subst hv
      obtain ⟨e1, g1⟩ := viewC_sound h hz (hc c (by simp [PV.cells, FV.cells])) hx
      exact ⟨e1, goodV_one g1⟩
  · rename_i cs
    cases hx : viewCs ids cont cs with
    | none => rw [hx] at hv; cases hv
    | some cs' =>
      rw [hx] at hv; simp at hv; subst hv
      obtain ⟨e1, g1⟩ := viewCs_sound h hz hc hx
      exact ⟨congrArg (fun l : List Value => Value.agg l.toArray) e1, g1⟩
  · cases hv

theorem viewVs_sound (h : RelE B E σ a w) (hz : ∀ p ∈ ids.zip cont, Has σ.mem a.tmps p.1 p.2) : ∀ {vs vs' : List PV}, (∀ v ∈ vs, GoodV E B σ.mem v) → viewVs ids cont vs = some vs' →
    vs'.map (PV.den E.callee) = vs.map (PV.den E) ∧ ∀ v ∈ vs', GoodV E.callee (B.call w h.below) (fun _ => .free) v
  | [], vs', _, hv => by
    simp only [viewVs, Option.some.injEq] at hv
    subst hv
    exact ⟨rfl, fun c hc => by cases hc⟩
  | v :: vs, vs', hc, hv => by
    simp only [viewVs] at hv
    split at hv
    · rename_i v1 vs1 h1 h2
      simp at hv; subst hv
      obtain ⟨e1, g1⟩ := viewV_sound h hz (hc v (List.mem_cons_self ..)) h1
      obtain ⟨e2, g2⟩ := viewVs_sound h hz (fun x hx => hc x (List.mem_cons_of_mem _ hx)) h2
      refine ⟨by simp [e1, e2], fun x hx => ?_⟩
      rcases List.mem_cons.1 hx with rfl | hx
      · exact g1
      · exact g2 x hx
    · cases hv

theorem run_callFunc {f : FuncId} {args : Array Value} (h : callable P f = true) : (callFunc f args).run P w = .ok (.enter f args) w := by
  unfold callable at h
  split at h
  · rename_i fn hf
    simp only [Bool.and_eq_true, Bool.not_eq_true'] at h
    simp only [callFunc, Sem.run_bind, run_program, Result.andThen_ok, hf, h.1, h.2, Bool.false_eq_true, if_false, Sem.run_pure]
  · cases h

theorem core_callFunc (hC : ∀ f C, ctrs f = some C → Sound P f C) (h : RelE B E σ a w) (hg : Holds a gs) {c : Call} {f : FuncId} (ho : o.op = .call c) (hcal : c.callee = .value (.func f)) (hct : contOf gs σ.mem ids = some cont)
    (hc : core P ctrs o (rdOp σ.tmps) gs self ids cont = some out) (hn : Conj out.need) : COK P B E σ.mem a w o self ids cont out := by
  simp only [core, ho, hcal] at hc
  split at hc
  · rename_i C args hCf hargs
    split at hc
    · rename_i args' hview
      split at hc
      · rename_i ps v hCv
        split at hc
        · rename_i hpl
          simp at hc; subst hc
          obtain ⟨h1, h2⟩ := mapOps_sound h hg hargs
          obtain ⟨e1, g1⟩ := viewVs_sound h (contOf_zip hg hct) h2 hview
          have hS := hC f C hCf
          have hcalls := hS.runs args' ps v hCv hn E.callee (B.call w h.below) g1
          obtain ⟨_, _, _, ⟨_, _, hok⟩, _⟩ := hcalls []
          refine .inl ⟨v, rfl, rfl, rfl, fun c hcm => ⟨plain_ok (E := E) (E' := E.callee) (B := B) (B' := B.call w h.below) rfl (plainV_cells hpl c hcm) (hok c hcm), plain_fits (plainV_cells hpl c hcm)⟩, .inr ⟨f, (args'.map (PV.den E.callee)).toArray, ?_, ?_⟩⟩
          · have hargs : c.args.map a.eval = (args'.map (PV.den E.callee)).toArray := by
              rw [e1, ← h1]
              exact Array.ext' (by simp)
            simp only [execOp, ho, resolve, hcal, Deferred.ofValue, invoke, Act.eval, Sem.run_bind, Sem.run_pure, Result.andThen_ok, hargs, Array.empty_append, Array.append_empty, run_callFunc hS.call]
          · rw [← plainV_callee hpl]
            exact hcalls.mono fun e w' hh => ⟨hh.1, hh.2.1⟩
        · cases hc
      · cases hc
    · cases hc
  · cases hc

theorem core_min (h : RelE B E σ a w) (hg : Holds a gs) {c : Call} (ho : o.op = .call c) (hcal : c.callee = .builtin .min) (hc : core P ctrs o (rdOp σ.tmps) gs self ids cont = some out) : COK P B E σ.mem a w o self ids cont out := by
  simp only [core, ho, hcal] at hc
  split at hc
  · rename_i k n rest hargs
    split at hc
    · rename_i x hx
      simp only [one, pureOut, Option.some.injEq] at hc
      subst hc
      obtain ⟨h1, _⟩ := mapOps_sound h hg hargs
      obtain ⟨⟨m, rfl⟩, h3⟩ := foldF_min (P := P) (E := E) (w := w) (k := k) ⟨n, rfl⟩ hx
      refine COK.pure (goodV_one good_int) ?_
      have hl : (c.args.map a.eval).toList = .int k n :: rest.map (PV.den E) := by
        rw [Array.toList_map, h1]; rfl
      simp only [Cell.den] at h3
      simp only [execOp, ho, resolve, hcal, invoke, builtin, Builtin.min_, Sem.run_bind, Sem.run_pure, Result.andThen_ok, hl, h3, PV.den, FV.den, Cell.den]
    · cases hc
  · cases hc

theorem core_max (h : RelE B E σ a w) (hg : Holds a gs) {c : Call} (ho : o.op = .call c) (hcal : c.callee = .builtin .max) (hc : core P ctrs o (rdOp σ.tmps) gs self ids cont = some out) : COK P B E σ.mem a w o self ids cont out := by
  simp only [core, ho, hcal] at hc
  split at hc
  · rename_i k n rest hargs
    split at hc
    · rename_i x hx
      simp only [one, pureOut, Option.some.injEq] at hc
      subst hc
      obtain ⟨h1, _⟩ := mapOps_sound h hg hargs
      obtain ⟨⟨m, rfl⟩, h3⟩ := foldF_max (P := P) (E := E) (w := w) (k := k) ⟨n, rfl⟩ hx
      refine COK.pure (goodV_one good_int) ?_
      have hl : (c.args.map a.eval).toList = .int k n :: rest.map (PV.den E) := by
        rw [Array.toList_map, h1]; rfl
      simp only [Cell.den] at h3
      simp only [execOp, ho, resolve, hcal, invoke, builtin, Builtin.max_, Sem.run_bind, Sem.run_pure, Result.andThen_ok, hl, h3, PV.den, FV.den, Cell.den]
    · cases hc
  · cases hc

theorem slice_of_slc {hd : Hd} {sz n : Nat} {get : Nat → Nat → Cell} (h : (Cell.slc hd sz n get).ok E B) : ∃ ad cap, hd.val E = .slice ad n cap := by
  rcases h with ⟨h1, h2⟩ | ⟨ad, cap, h1, _⟩
  · exact ⟨none, 0, by rw [h1, h2]⟩
  · exact ⟨some ad, cap, h1⟩

theorem core_len (h : RelE B E σ a w) (hg : Holds a gs) {c : Call} (ho : o.op = .call c) (hcal : c.callee = .builtin .len) (hp : plan o (rdOp σ.tmps gs) = ids) (hct : contOf gs σ.mem ids = some cont)
    (hc : core P ctrs o (rdOp σ.tmps) gs self ids cont = some out) : COK P B E σ.mem a w o self ids cont out := by
  simp only [core, ho, hcal] at hc
  split at hc
  · rename_i ct e hd sz n get ht hargs
    simp only [one, pureOut, Option.some.injEq] at hc
    subst hc
    obtain ⟨h1, h2⟩ := mapOps_sound h hg hargs
    obtain ⟨ad, cap, hv⟩ := slice_of_slc (h2 _ (List.mem_cons_self ..) (.slc hd sz n get) (by simp [PV.cells, FV.cells])).1
    obtain ⟨t, ht1, ht2⟩ := Option.bind_eq_some_iff.1 ht
    have hl : c.args.map a.eval = #[.slice ad n cap] := by
      apply Array.ext'
      rw [Array.toList_map, h1]
      simp [PV.den, FV.den, Cell.den, hv]
    refine COK.pure (goodV_one good_int) ?_
    simp [execOp, ho, resolve, hcal, invoke, builtin, Builtin.len_, hl, ht1, run_underlying ht2, goInt, PV.den, FV.den, Cell.den]
  · rename_i e id e' sz n get ht hargs
    simp only [one, pureOut, Option.some.injEq] at hc
    subst hc
    obtain ⟨h1, h2⟩ := mapOps_sound h hg hargs
    have hid : ids = [id] := by rw [← hp]; simp [plan, ho, hcal, hargs, PV.ids, FV.cells, Cell.ids]
    subst hid
    obtain ⟨r, hr, hh⟩ := contOf_one hg hct
    simp at hr; subst hr
    obtain ⟨hrow, _⟩ := h.mem id _ hh
    have hv : ∃ ad cap, E.γ id = .slice ad n cap := by
      rcases hrow with ⟨h3, h4⟩ | ⟨g, cap, cur, h3, _⟩
      · exact ⟨none, 0, by rw [h3, h4]⟩
      · exact ⟨_, cap, h3⟩
    obtain ⟨ad, cap, hv⟩ := hv
    obtain ⟨t, ht1, ht2⟩ := Option.bind_eq_some_iff.1 ht
    have hl : c.args.map a.eval = #[.slice ad n cap] := by
      apply Array.ext'
      rw [Array.toList_map, h1]
      simp [PV.den, FV.den, Cell.den, hv]
    refine COK.pure (goodV_one good_int) ?_
    simp [execOp, ho, resolve, hcal, invoke, builtin, Builtin.len_, hl, ht1, run_underlying ht2, goInt, PV.den, FV.den, Cell.den]
  · rename_i n e v ht hargs
    simp only [one, pureOut, Option.some.injEq] at hc
    subst hc
    obtain ⟨h1, _⟩ := mapOps_sound h hg hargs
    obtain ⟨t, ht1, ht2⟩ := Option.bind_eq_some_iff.1 ht
    have hl : c.args.map a.eval = #[v.den E] := by
      apply Array.ext'
      rw [Array.toList_map, h1]
      simp
    refine COK.pure (goodV_one good_int) ?_
    have hfin : (PV.fv (.one (.int .i64 n))).den E = goInt n := rfl
    rw [hfin]
    simp [execOp, ho, resolve, hcal, invoke, builtin, Builtin.len_, hl, ht1, run_underlying ht2]
  · cases hc

end
end Go.Eng

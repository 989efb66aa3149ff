/- THE ENGINE, PART 4c: each operation does what the executor says: aggregates, rows, calls. -/
import Derived.Test.YtleooijgkdllfaaEngOpsB
import Derived.Laws.BytesArg
import Derived.Laws.IdiomStrings
namespace Go.Eng
open Go.RowKit

/-- Parts, one for one. -/
def PartsR (E : Env) (mem : Nat → MRes) : List (Nat × FV) → List (Nat × Value) → Prop
  | [], [] => True
  | (i, v) :: ps, (j, y) :: ys => i = j ∧ FR E v y ∧ (∀ c ∈ v.cells, c.fits mem) ∧ PartsR E mem ps ys
  | _, _ => False

theorem foldl_vals : ∀ (ys xs : List Value) (off k : Nat), off + k + ys.length ≤ xs.length →
    (ys.zipIdx k).foldl (fun (acc : Array Value) (x : Value × Nat) => acc.setIfInBounds (off + x.2) x.1) xs.toArray = (xs.take (off + k) ++ ys ++ xs.drop (off + k + ys.length)).toArray
  | [], xs, off, k, _ => by simp
  | c :: ys, xs, off, k, h => by
    simp only [List.zipIdx_cons, List.foldl_cons]
    have hl : off + k < xs.length := by simp at h; omega
    have h1 : (xs.toArray.setIfInBounds (off + k) c) = (xs.set (off + k) c).toArray := by
      apply Array.ext'
      simp
    rw [h1, foldl_vals ys (xs.set (off + k) c) off (k + 1) (by simp at h ⊢; omega)]
    congr 1
    have h2 : (xs.set (off + k) c).take (off + (k + 1)) = xs.take (off + k) ++ [c] := by
      rw [show off + (k + 1) = (off + k) + 1 by omega, List.take_succ_eq_append_getElem (by simpa using hl)]
      simp [List.take_set_of_le (Nat.le_refl _)]
    have h3 : (xs.set (off + k) c).drop (off + (k + 1) + ys.length) = xs.drop (off + k + (c :: ys).length) := by
      rw [List.drop_set_of_lt (by omega)]
      congr 1
      simp
      omega
    rw [h2, h3]
    simp

theorem fillC_sound {E : Env} {mem : Nat → MRes} {place : Nat → Option (Nat × Nat)} : ∀ {ps : List (Nat × FV)} {ys : List (Nat × Value)} {cs r : List Cell} {xs : List Value}, fillC place cs ps = some r → PartsR E mem ps ys → CsR E cs xs → (∀ c ∈ cs, c.fits mem) →
    ∃ rs : List Value, Instr.fill place xs.toArray ys = some rs.toArray ∧ CsR E r rs ∧ ∀ c ∈ r, c.fits mem
  | [], [], cs, r, xs, h, _, hx, hf => by
    simp only [fillC, Option.some.injEq] at h
    subst h
    exact ⟨xs, rfl, hx, hf⟩
  | (i, v) :: ps, (j, y) :: ys, cs, r, xs, h, hp, hx, hf => by
    obtain ⟨rfl, hv, hvf, hp⟩ := hp
    simp only [fillC] at h
    split at h
    · cases h
    · rename_i off size hpl
      split at h
      · rename_i hle
        obtain ⟨hl, hle⟩ := hle
        have h5 := FR.cells hv
        have hvl := h5.len
        obtain ⟨rs, h1, h2, h3⟩ := fillC_sound h hp (hx.splice h5 off) (fun c hcm => by
          simp only [splice, List.mem_append] at hcm
          rcases hcm with (hcm | hcm) | hcm
          · exact hf c (List.mem_of_mem_take hcm)
          · exact hvf c hcm
          · exact hf c (List.mem_of_mem_drop hcm))
        refine ⟨rs, ?_, h2, h3⟩
        simp only [Instr.fill, hpl]
        have h6 : ¬ (y.cells.size ≠ size || decide (off + y.cells.size > xs.toArray.size)) = true := by
          have := hx.len
          simp at hvl ⊢
          omega
        rw [if_neg h6]
        have h7 := foldl_vals y.cells.toList xs off 0 (by have := hx.len; omega)
        simp only [Nat.add_zero] at h7
        rw [← h1, ← h7]
        congr 1
        rw [← Array.foldl_toList, Array.toList_zipIdx]
      · cases h
  | [], _ :: _, _, _, _, _, hp, _, _ => hp.elim
  | (_, _) :: _, [], _, _, _, _, hp, _, _ => hp.elim

theorem run_places {P : Program} {w : World} : ∀ (fs : List Field), (∀ f ∈ fs, (P.info? f.type).isSome = true) → ((fs.mapM fun f => do pure (f.offset, ← sizeOf f.type) : Sem (List (Nat × Nat))).run P w) = .ok (fs.map fun f => (f.offset, P.cellsOf f.type)) w
  | [], _ => rfl
  | f :: fs, h => by
    obtain ⟨i, hi⟩ := Option.isSome_iff_exists.1 (h f (List.mem_cons_self ..))
    have ih := run_places (w := w) fs fun g hg => h g (List.mem_cons_of_mem _ hg)
    rw [List.mapM_cons]
    simp only [Sem.run_bind, run_sizeOf hi, Result.andThen_ok, Sem.run_pure, ih, List.map_cons]

/-! ### rows out of cells -/

theorem chunk_get {sz : Nat} : ∀ {n : Nat} {cs : List Cell} {i : Nat}, i < n → (chunk sz n cs)[i]? = some ((cs.drop (i * sz)).take sz)
  | 0, _, i, h => by omega
  | n + 1, cs, 0, _ => by simp [chunk]
  | n + 1, cs, i + 1, h => by
    simp only [chunk, List.getElem?_cons_succ]
    rw [chunk_get (by omega), List.drop_drop, Nat.add_mul, Nat.one_mul, Nat.add_comm]
theorem chunk_len {sz : Nat} : ∀ {n : Nat} {cs : List Cell}, (chunk sz n cs).length = n
  | 0, _ => rfl
  | n + 1, cs => by simp only [chunk, List.length_cons, chunk_len]

theorem ofRows_spec {k : K} : ∀ {rows : List (List Cell)} {l : List k.Ty}, ofRows k rows = some l → l.length = rows.length ∧ ∀ (i : Nat) (r : List Cell), rows[i]? = some r → ∃ x, l[i]? = some x ∧ r = k.cells x
  | [], l, h => by simp only [ofRows, Option.some.injEq] at h; subst h; exact ⟨rfl, fun i r hi => by simp at hi⟩
  | cs :: rows, l, h => by
    simp only [ofRows] at h
    split at h
    · rename_i x l' h1 h2
      simp at h; subst h
      obtain ⟨h3, h4⟩ := ofRows_spec h2
      refine ⟨by simp [h3], fun i r hi => ?_⟩
      cases i with
      | zero => simp at hi; subst hi; exact ⟨x, rfl, K.of_eq h1⟩
      | succ i => exact h4 i r (by simpa using hi)
    · cases h

theorem rowR_chunk {E : Env} {k : K} {n : Nat} {cs : List Cell} {l : List k.Ty} (h : ofRows k (chunk k.sz n cs) = some l) {xs : List Value} (hx : CsR E cs xs) : (⟨k, l⟩ : SL).len = n ∧ RowR E ⟨k, l⟩ xs := by
  obtain ⟨h1, h2⟩ := ofRows_spec h
  rw [chunk_len] at h1
  refine ⟨h1, fun i hi j c hj => ?_⟩
  have hi : i < n := by rw [← h1]; exact hi
  obtain ⟨x, h3, h4⟩ := h2 i _ (chunk_get hi)
  have hat : (⟨k, l⟩ : SL).at i = (cs.drop (i * k.sz)).take k.sz := by
    rw [h4]
    unfold SL.at
    simp [List.getD, h3]
  rw [hat, List.getElem?_take] at hj
  split at hj
  · rw [List.getElem?_drop] at hj
    exact hx.get _ c hj
  · cases hj

theorem replicate_get {α : Type} {zs : List α} : ∀ {n j : Nat} {c : α}, (List.replicate n zs).flatten[j]? = some c → zs[j % zs.length]? = some c
  | 0, j, c, h => by simp at h
  | n + 1, j, c, h => by
    rw [List.replicate_succ, List.flatten_cons] at h
    by_cases hj : j < zs.length
    · rw [List.getElem?_append_left hj] at h
      rw [Nat.mod_eq_of_lt hj]; exact h
    · rw [List.getElem?_append_right (by omega)] at h
      have := replicate_get h
      rw [Nat.mod_eq_sub_mod (by omega)]
      exact this

theorem replicate_len {α : Type} {zs : List α} {n : Nat} : (List.replicate n zs).flatten.length = n * zs.length := by simp

/-- Zeros, one element after the other. -/
theorem zeros_rel {E : Env} {cs : List Cell} {z : Array Value} (h : CsR E cs z.toList) (n : Nat) : CsR E (List.replicate n cs).flatten (madeCells z (n * cs.length)).toList := by
  refine ⟨by simp [madeCells], fun j c hj => ?_⟩
  have hlt := (List.getElem?_eq_some_iff.1 hj).1
  rw [replicate_len] at hlt
  have h1 := replicate_get hj
  obtain ⟨y, h2, h3⟩ := h.get _ c h1
  refine ⟨y, ?_, h3⟩
  have hl : z.size = cs.length := by have := h.len; simpa using this
  rw [← hl] at h2
  simp only [madeCells, Array.toList_map, List.getElem?_map, Array.toList_range]
  rw [List.getElem?_range hlt]
  simp only [Option.map_some, Option.some.injEq]
  rw [Array.getElem?_toList] at h2
  rw [getElem!_def, h2]

section
variable {P : Program} {ctrs : FuncId → Option Contract} {we : World} {E : Env} {σ : St} {a : Act} {w : World} {o : Oper} {gs : List (Nat × Bool)} {self : Nat} {ids : List Nat} {cont : List Res} {out : Out}

theorem fvParts_sound (h : RelE we E σ a w) (hg : Holds a gs) : ∀ {l : List (Nat × Operand)} {ps : List (Nat × FV)}, fvParts (rdOp σ.tmps gs) l = some ps → PartsR E σ.mem ps (l.map fun x => (x.1, a.eval x.2))
  | [], ps, hp => by
    simp only [fvParts, Option.some.injEq] at hp
    subst hp
    trivial
  | (i, x) :: l, ps, hp => by
    simp only [fvParts] at hp
    split at hp
    · rename_i v us hx hl
      simp at hp; subst hp
      obtain ⟨h1, h2⟩ := rdOp_sound h hg hx
      exact ⟨rfl, h1, h2, fvParts_sound h hg hl⟩
    · cases hp

theorem core_build (h : RelE we E σ a w) (hg : Holds a gs) {T : TypeId} {parts : Array (Nat × Operand)} (ho : o.op = .build T parts) (hc : core P ctrs o (rdOp σ.tmps) gs self ids cont = some out) : COK P we E σ.mem a w o self ids cont out := by
  simp only [core, ho] at hc
  split at hc
  · rename_i i fs ps hi hfs hps
    have hu := fieldsOf_spec hfs
    split at hc
    · cases hc
    · rename_i hall
      split at hc
      · rename_i z hz
        split at hc
        · cases hc
        · rename_i hone
          split at hc
          · rename_i cs hcs
            simp only [pureOut, Option.some.injEq] at hc
            subst hc
            have hone : z.cells.all (·.oneCell') = true := by simpa using hone
            obtain ⟨rs, h1, h2, h3⟩ := fillC_sound (E := E) (mem := σ.mem) hcs (fvParts_sound h hg hps) (map_ofVal_rel E fun v hv => Array.all_eq_true'.1 hone v (by simpa using hv)) (map_ofVal_fits _ _)
            refine COK.pure (v := .fv (retF P T (.agg cs))) (x := .agg rs.toArray) (retF_rel (v := .agg cs) ⟨rs, rfl, h2⟩) (retF_fits (v := .agg cs) h3) ?_
            rw [Array.toArray_toList] at h1
            have hpl := run_places (P := P) (w := w) fs.toList fun f hf => by
              exact Array.all_eq_true'.1 (show fs.all (fun f => (P.info? f.type).isSome) = true by revert hall; cases fs.all (fun f => (P.info? f.type).isSome) <;> simp) f (by simpa using hf)
            have hm : ((fs.mapM fun f : Field => do pure (f.offset, ← sizeOf f.type) : Sem (Array (Nat × Nat))).run P w) = .ok (fs.map fun f : Field => (f.offset, P.cellsOf f.type)) w := by
              rw [Array.mapM_eq_mapM_toList, Sem.run_map, hpl]
              simp only [Result.andThen_ok]
              congr 1
              exact Array.ext' (by simp)
            have hplace : (fun k : Nat => (fs.map fun f : Field => (f.offset, P.cellsOf f.type))[k]?) = fun k => (fs[k]?).map fun f => (f.offset, P.cellsOf f.type) := by
              funext k; simp
            simp only [execOp, ho, Instr.build, zeroValue, typeInfo, Sem.run_bind, run_program, Result.andThen_ok, hi, Sem.run_pure, hz, run_underlying hu, hm, Array.toList_map, hplace, h1]
          · cases hc
      · cases hc
  · rename_i i ps hi hfs hps
    split at hc
    · rename_i n e ha
      have hu := arrOf_spec ha
      split at hc
      · rename_i ie hie
        split at hc
        · rename_i z hz
          split at hc
          · cases hc
          · rename_i hone
            split at hc
            · rename_i cs hcs
              simp only [pureOut, Option.some.injEq] at hc
              subst hc
              have hone : z.cells.all (·.oneCell') = true := by simpa using hone
              obtain ⟨rs, h1, h2, h3⟩ := fillC_sound (E := E) (mem := σ.mem) hcs (fvParts_sound h hg hps) (map_ofVal_rel E fun v hv => Array.all_eq_true'.1 hone v (by simpa using hv)) (map_ofVal_fits _ _)
              refine COK.pure (v := .fv (retF P T (.agg cs))) (x := .agg rs.toArray) (retF_rel (v := .agg cs) ⟨rs, rfl, h2⟩) (retF_fits (v := .agg cs) h3) ?_
              rw [Array.toArray_toList] at h1
              simp only [execOp, ho, Instr.build, zeroValue, typeInfo, Sem.run_bind, run_program, Result.andThen_ok, hi, Sem.run_pure, hz, run_underlying hu, run_sizeOf hie, Array.toList_map, h1]
            · cases hc
        · cases hc
      · cases hc
    · cases hc
  · cases hc

theorem COK.row {e : TypeId} {m : SL} {x : Value} {xs : List Value} {w' : World} {ps : List Prop} (hr : (execOp a.eval o).run P w = .ok (.value x) w') (ho : w'.ownsRow we.heap.size e m.sz x m.len xs) (hx : RowR E m xs) (hg : w.grownBy w' none) (hb : ∀ b, x.ownBlock = some b → w.heap.size ≤ b) :
    COK P we E σ.mem a w o self ids cont { need := ps, val := one (.own self), new := some (.row e m) } :=
  .inr (.inr (.inr (.inr (.inr (.inl ⟨e, m, x, xs, w', rfl, rfl, rfl, hr, ho, hx, hg, hb⟩)))))


theorem core_makeSlice (h : RelE we E σ a w) (hg : Holds a gs) {T : TypeId} {x y : Operand} (ho : o.op = .makeSlice T x y) (hc : core P ctrs o (rdOp σ.tmps) gs self ids cont = some out) (hn : Conj out.need) : COK P we E σ.mem a w o self ids cont out := by
  simp only [core, ho] at hc
  split at hc
  · rename_i e kl l kc c he hx hy
    have hu := elemOf_spec he
    have e1 : a.eval x = .int kl l := (rdOp_sound h hg hx).1
    have e2 : a.eval y = .int kc c := (rdOp_sound h hg hy).1
    split at hc
    · rename_i i k hi hk
      split at hc
      · rename_i z hz
        split at hc
        · cases hc
        · rename_i hchk
          simp only [Bool.not_eq_true', Bool.not_eq_false, Bool.and_eq_true, decide_eq_true_eq] at hchk
          obtain ⟨hone, hzs, his, hby⟩ := hchk
          split at hc
          · rename_i d hd
            simp only [Option.some.injEq] at hc
            subst hc
            obtain ⟨⟨n1, n2, n3⟩, _⟩ := hn
            have hc0 : c ≤ c * i.bytes := by
              have := Int.mul_le_mul_of_nonneg_left (show (1 : Int) ≤ i.bytes by omega) (show 0 ≤ c by omega)
              rw [Int.mul_one] at this
              exact this
            have hz0 := zero_rel (P := P) (E := E) hone (leafTys P 8 e)
            have hzl : (retCs P (leafTys P 8 e) (z.cells.toList.map ofVal)).length = k.sz := by rw [retCs_len]; simp [hzs]
            have hrun := run_make (P := P) w T e i z hu hi hz kl kc l c n1 n2 (by rw [Int.mul_comm]; omega) (by omega)
            have hr0 := zeros_rel hz0 c.toNat
            rw [hzl, ← his] at hr0
            have hle : l.toNat * k.sz ≤ c.toNat * k.sz := Nat.mul_le_mul_right _ (by omega)
            refine COK.row (m := ⟨k, List.replicate l.toNat d⟩) (x := .slice (some ⟨w.heap.size, 0, none⟩) l.toNat c.toNat) (xs := (madeCells z.cells (c.toNat * i.size)).toList.take (l.toNat * k.sz)) (w' := w.alloc (.cells (madeCells z.cells (c.toNat * i.size)) e)) ?_ ?_ ?_ (World.grownBy_alloc w _ none) (fun b hb => by simp [Value.ownBlock] at hb; omega)
            · simp only [execOp, ho, e1, e2, Sem.run_bind, hrun, Result.andThen_ok, Sem.run_pure]
            · refine ⟨?_, .inr ⟨w.heap.size, c.toNat, _, by simp [SL.len], h.below.size, heap_alloc_new w _, by simp [SL.len]; omega, by simp only [maxLen]; omega, by simp [madeCells, SL.sz, his], by simp [SL.len, SL.sz]⟩⟩
              simp only [SL.len, SL.sz, List.length_replicate, List.length_take, Array.length_toList, size_madeCells, his]
              omega
            · intro j hj q cc hq
              have hj : j < l.toNat := by simpa [SL.len] using hj
              have hat : (⟨k, List.replicate l.toNat d⟩ : SL).at j = retCs P (leafTys P 8 e) (z.cells.toList.map ofVal) := by
                rw [K.of_eq hd]
                unfold SL.at
                simp [List.getD, hj]
              rw [hat] at hq
              have hqs : q < k.sz := by have := (List.getElem?_eq_some_iff.1 hq).1; omega
              have hjb : (j + 1) * k.sz ≤ l.toNat * k.sz := Nat.mul_le_mul_right _ hj
              rw [Nat.add_mul, Nat.one_mul] at hjb
              obtain ⟨yv, h5, h6⟩ := hz0.get q cc hq
              refine ⟨yv, ?_, h6⟩
              show (List.take _ _)[j * k.sz + q]? = _
              rw [List.getElem?_take, if_pos (by omega)]
              simp only [madeCells, Array.toList_map, List.getElem?_map, Array.toList_range]
              rw [List.getElem?_range (by rw [his]; omega)]
              simp only [Option.map_some, Option.some.injEq]
              rw [hzs, Nat.mul_comm j, Nat.mul_add_mod, Nat.mod_eq_of_lt hqs]
              rw [Array.getElem?_toList] at h5
              rw [getElem!_def, h5]
          · cases hc
      · cases hc
    · cases hc
  · cases hc

/-! ### append -/

theorem contOf_zip {gs : List (Nat × Bool)} {mem : Nat → MRes} {a : Act} (hg : Holds a gs) : ∀ {ids : List Nat} {cont : List Res}, contOf gs mem ids = some cont → ∀ p ∈ ids.zip cont, Has mem a.tmps p.1 p.2
  | [], _, _, p, hp => by simp at hp
  | id :: ids, cont, h, p, hp => by
    simp only [contOf] at h
    split at h
    · rename_i r l hm hl
      simp at h; subst h
      simp only [List.zip_cons_cons, List.mem_cons] at hp
      rcases hp with rfl | hp
      · exact .inl hm
      · exact contOf_zip hg hl p hp
    · rename_i gt want r l hm hl
      split at h
      · rename_i hany
        simp at h; subst h
        simp only [List.zip_cons_cons, List.mem_cons] at hp
        rcases hp with rfl | hp
        · refine .inr ⟨gt, want, hm, ?_⟩
          obtain ⟨g, hgm, hge⟩ := List.any_eq_true.1 hany
          simp at hge
          have := hg g hgm
          rw [hge.1, hge.2] at this
          exact this
        · exact contOf_zip hg hl p hp
      · cases h
    · cases h

/-- What an append reads: nil, or cells that lie in the world. -/
def SrcR (w : World) (E : Env) (m : SL) (x : Value) : Prop :=
  (x = .slice none 0 0 ∧ m.len = 0) ∨ ∃ (ad : Addr) (cap : Nat) (news : List Value), x = .slice (some ad) m.len cap ∧ news.length = m.len * m.sz ∧ (∀ (j : Nat) u, news[j]? = some u → w.cell? (ad.add j) = some u) ∧ RowR E m news

theorem RowR.mem {m : SL} {xs : List Value} (hl : xs.length = m.len * m.sz) (h : RowR E m xs) : ∀ u ∈ xs, u.oneCell' = true := by
  intro u hu
  obtain ⟨q, hq, rfl⟩ := List.getElem_of_mem hu
  have hs : 0 < m.sz := K.sz_pos m.k
  have h1 : q / m.sz < m.len := Nat.div_lt_of_lt_mul (by rw [Nat.mul_comm]; omega)
  have h2 : q % m.sz < m.sz := Nat.mod_lt _ hs
  obtain ⟨y, h3, h4⟩ := h (q / m.sz) h1 (q % m.sz) _ (List.getElem?_eq_getElem (by rw [SL.at_len]; exact h2))
  rw [Nat.mul_comm, Nat.div_add_mod, List.getElem?_eq_getElem hq] at h3
  simp at h3
  rw [h3]
  exact oneCell_of h4

theorem src_slc (h : RelE we E σ a w) {nw : Bool} {m : SL} {x : Value} (hx : CR E (.slc nw m) x) : SrcR w E m x := by
  rcases lim_slc hx with h0 | ⟨ad, cap, h1, hml, h2⟩
  · exact .inl h0
  · have hs : 0 < m.sz := K.sz_pos m.k
    have hex : ∀ q, ∃ y, q < m.len * m.sz → w.cell? (ad.add q) = some y ∧ ∀ c, (m.at (q / m.sz))[q % m.sz]? = some c → CR E c y := fun q => by
      by_cases hq : q < m.len * m.sz
      · have h3 : q / m.sz < m.len := Nat.div_lt_of_lt_mul (by rw [Nat.mul_comm]; exact hq)
        have h4 : q % m.sz < m.sz := Nat.mod_lt _ hs
        obtain ⟨hF, h5⟩ := h2 _ h3
        obtain ⟨y, h6, h7⟩ := h5 (q % m.sz) _ (List.getElem?_eq_getElem (by rw [SL.at_len]; exact h4))
        rw [Nat.mul_comm, Nat.div_add_mod] at h6
        refine ⟨y, fun _ => ⟨?_, fun c hc => ?_⟩⟩
        · rw [World.cell?_of_block (w := E.wf)]
          · exact h6
          · rw [add_block]; exact (h.fz _ hF).2
        · rw [List.getElem?_eq_getElem (by rw [SL.at_len]; exact h4)] at hc
          simp at hc
          rw [← hc]
          exact CRd_up 3 h7
      · exact ⟨undef, fun hh => absurd hh hq⟩
    refine .inr ⟨ad, cap, (List.range (m.len * m.sz)).map fun q => (hex q).choose, h1, by simp, fun j u hu => ?_, fun i hi j c hj => ?_⟩
    · rw [List.getElem?_map] at hu
      cases hr : (List.range (m.len * m.sz))[j]? with
      | none => rw [hr] at hu; cases hu
      | some q =>
        obtain ⟨hlt, hq⟩ := List.getElem?_eq_some_iff.1 hr
        simp at hlt hq
        subst hq
        rw [hr] at hu
        simp at hu; subst hu
        exact ((hex j).choose_spec hlt).1
    · have hjs := SL.at_lt hj
      have hb : (i + 1) * m.sz ≤ m.len * m.sz := Nat.mul_le_mul_right _ hi
      rw [Nat.add_mul, Nat.one_mul] at hb
      have hlt : i * m.sz + j < m.len * m.sz := by omega
      refine ⟨(hex (i * m.sz + j)).choose, by rw [List.getElem?_map, List.getElem?_range hlt]; rfl, ((hex (i * m.sz + j)).choose_spec hlt).2 c ?_⟩
      rw [Nat.mul_comm i, Nat.mul_add_mod, Nat.mod_eq_of_lt hjs, Nat.mul_add_div hs, Nat.div_eq_of_lt hjs, Nat.add_zero]
      exact hj

theorem src_own (h : RelE we E σ a w) {id : Nat} {e : TypeId} {m : SL} (hh : Has σ.mem a.tmps id (.row e m)) {x : Value} (hx : CR E (.own id) x) : SrcR w E m x := by
  obtain ⟨xs, hown, hrow⟩ := h.mem id _ hh
  have hx : x = E.γ id := hx.1
  rw [hx]
  rcases hown.2 with h0 | ⟨g, cap, cur, hv, _⟩
  · exact .inl h0
  · exact .inr ⟨⟨g, 0, none⟩, cap, xs, hv, hown.1, fun j u hu => hown.cells (by rw [hv]; rfl) j u hu, hrow⟩

theorem app_spec {m m' m'' : SL} (h : m.app m' = some m'') : m''.len = m.len + m'.len ∧ m''.sz = m.sz ∧ m'.sz = m.sz ∧ (∀ i, i < m.len → m''.at i = m.at i) ∧ ∀ i, i < m'.len → m''.at (m.len + i) = m'.at i := by
  unfold SL.app at h
  split at h
  · rename_i l hl
    have hm := SL.as_eq hl
    simp at h; subst h
    subst hm
    refine ⟨by simp [SL.len], rfl, rfl, fun i hi => ?_, fun i hi => ?_⟩
    · unfold SL.at
      simp only
      congr 1
      have hi : i < m.l.length := hi
      simp [List.getD, List.getElem?_append_left hi]
    · unfold SL.at
      simp only
      congr 1
      simp [List.getD, SL.len, List.getElem?_append_right]
  · cases h

theorem RowR.append {m m' m'' : SL} (h : m.app m' = some m'') {xs ys : List Value} (hl : xs.length = m.len * m.sz) (hx : RowR E m xs) (hy : RowR E m' ys) : RowR E m'' (xs ++ ys) := by
  obtain ⟨h1, h2, h3, h4, h5⟩ := app_spec h
  intro i hi j c hj
  rw [h2]
  by_cases hlt : i < m.len
  · rw [h4 i hlt] at hj
    obtain ⟨y, h6, h7⟩ := hx i hlt j c hj
    exact ⟨y, by rw [List.getElem?_append_left (List.getElem?_eq_some_iff.1 h6).1]; exact h6, h7⟩
  · have hi' : i - m.len < m'.len := by omega
    have e : i = m.len + (i - m.len) := by omega
    rw [e, h5 _ hi'] at hj
    obtain ⟨y, h6, h7⟩ := hy _ hi' j c hj
    refine ⟨y, ?_, h7⟩
    rw [h3] at h6
    have hle : m.len * m.sz ≤ i * m.sz := Nat.mul_le_mul_right _ (by omega)
    rw [List.getElem?_append_right (by omega), hl, ← h6]
    congr 1
    rw [Nat.sub_mul]
    omega

theorem run_append_src {t e : TypeId} {i : TypeInfo} {ty : TypeId} (hu : P.underlying t = some (.slice e)) (hi : P.info? e = some i) {z : Value} (hz : i.zero = some z) (hzs : z.cells.size = i.size) (hby : 0 < i.bytes)
    {v : Value} {m m' m'' : SL} {xs : List Value} (hsz : m.sz = i.size) (happ : m.app m' = some m'') (hown : w.ownsRow we.heap.size e m.sz v m.len xs) (hx : RowR E m xs) (hlim : (m.len + m'.len) * i.bytes ≤ 140737488355328) (hbase : we.heap.size ≤ w.heap.size) {x : Value} (hs : SrcR w E m' x) :
    ∃ v' ys w', (Builtin.append_ #[t, t] ty #[v, x]).run P w = .ok v' w' ∧ w'.ownsRow we.heap.size e m''.sz v' m''.len ys ∧ RowR E m'' ys ∧ w.grownBy w' v.ownBlock ∧ (v'.ownBlock = v.ownBlock ∨ v'.ownBlock = some w.heap.size) := by
  obtain ⟨h1, h2, h3, _, _⟩ := app_spec happ
  have hle : m.len + m'.len ≤ maxLen := by
    have : (m.len + m'.len) * 1 ≤ (m.len + m'.len) * i.bytes := Nat.mul_le_mul_left _ hby
    simp only [maxLen]; omega
  rcases hs with ⟨rfl, h0⟩ | ⟨ad, cap, news, rfl, h4, h5, h6⟩
  · refine ⟨v, xs ++ [], w, run_append_owned_none w we.heap.size t ty e i m.sz hu hi v m.len xs hown, ?_, hx.append happ hown.1 (fun q hq => by omega), ⟨rfl, rfl, rfl, Nat.le_refl _, fun _ _ _ => rfl⟩, .inl rfl⟩
    rw [h1, h2, h0, List.append_nil]
    exact hown
  · obtain ⟨v', w', r1, r2, r3, _, r5⟩ := run_append_own_at w we.heap.size t ty e i z m.sz i.bytes hu hi hz hsz.symm rfl (by rw [hsz]; exact hzs) (K.sz_pos m.k) v m.len xs hown ad m'.len cap news (by rw [h4, h3]) h5 (h6.mem h4) hle hlim hbase
    refine ⟨v', xs ++ news, w', r1, ?_, hx.append happ hown.1 h6, r3, r5⟩
    rw [h1, h2]
    exact r2

theorem RowR_app_nil {m' : SL} : (⟨m'.k, []⟩ : SL).app m' = some m' := by
  obtain ⟨k, l⟩ := m'
  cases k <;> rfl

theorem core_append (h : RelE we E σ a w) (hg : Holds a gs) {c : Call} (ho : o.op = .call c) (hcal : c.callee = .builtin .append) (hp : plan o (rdOp σ.tmps gs) = ids) (hct : contOf gs σ.mem ids = some cont)
    (hc : core P ctrs o (rdOp σ.tmps) gs self ids cont = some out) (hn : Conj out.need) : COK P we E σ.mem a w o self ids cont out := by
  simp only [core, ho, hcal] at hc
  split at hc
  · rename_i cont' t t' s x hat hargs
    split at hc
    · rename_i htt
      subst htt
      have hps := mapOps_sound h hg hargs
      obtain ⟨sv, r1, e1, hs1, hf1, hps⟩ := hps.head
      obtain ⟨xv, r2, e2, hx1, hf2, hps⟩ := hps.head
      have hr2 : r2 = [] := by have := hps.len; simpa using this
      subst hr2
      subst e2
      have hargl : c.args.map a.eval = #[sv, xv] := by
        apply Array.ext'
        rw [Array.toList_map, e1]
      have hatl : c.argTypes = #[t, t] := by
        apply Array.ext'
        rw [hat]
      have hrun : ∀ {v w'}, (Builtin.append_ #[t, t] o.type #[sv, xv]).run P w = .ok v w' → (execOp a.eval o).run P w = .ok (.value v) w' := fun hr => by
        simp [execOp, ho, resolve, hcal, invoke, builtin, hargl, hatl, hr]
      have hplan : ids = (PV.fv (.one s)).ids ++ (PV.fv (.one x)).ids := by rw [← hp]; simp [plan, ho, hcal, hargs]
      have hs1 : CR E s sv := hs1
      have hx1 : CR E x xv := hx1
      -- the two ways
      have hwr : ∀ {i : TypeInfo} {e e1 : TypeId} {id : Nat} {m m' : SL} {rest : List Nat} {ct rest' : List Res}, elemOf P t = some e → P.info? e = some i → 0 < i.bytes → s = .own id → ids = id :: rest → ct = .row e1 m :: rest' → Has σ.mem a.tmps id (.row e1 m) → SrcR w E m' xv →
          appOut.appWr i e e1 self m m' = some out → COK P we E σ.mem a w o self ids ct out := by
        intro i e e1 id m m' rest ct rest' he hi hby hs hid hcn hh hsrc hap
        unfold appOut.appWr at hap
        split at hap
        · rename_i hk
          obtain ⟨rfl, hsz, hzi, hzz⟩ := hk
          split at hap
          · rename_i m'' hm
            simp only [Option.some.injEq] at hap
            subst hap
            obtain ⟨z, hz⟩ := Option.isSome_iff_exists.1 hzi
            obtain ⟨xs, hown, hrow⟩ := h.mem id _ hh
            subst hs
            have hsv : sv = E.γ id := hs1.1
            obtain ⟨v', ys, w', q1, q2, q3, q4, q5⟩ := run_append_src (P := P) (ty := o.type) (elemOf_spec he) hi hz (by rw [hz] at hzz; simpa using hzz) hby hsz hm hown hrow hn.1 h.below.size hsrc
            rw [← hsv] at q1
            refine .inr (.inr (.inr (.inr (.inr (.inr (.inl ⟨e, m'', v', ys, w', id, rest, _, rest', hid, hcn, rfl, rfl, rfl, hrun q1, q2, q3, q4, fun b hb => ?_⟩))))))
            rcases q5 with q5 | q5
            · rw [q5] at hb; exact .inl hb
            · rw [q5] at hb; simp at hb; exact .inr (by omega)
          · cases hap
        · cases hap
      have hnl : ∀ {i : TypeInfo} {e : TypeId} {m' : SL} {ct : List Res}, elemOf P t = some e → P.info? e = some i → 0 < i.bytes → sv = .slice none 0 0 → SrcR w E m' xv → appOut.appNil i e self m' = some out → COK P we E σ.mem a w o self ids ct out := by
        intro i e m' ct he hi hby hs hsrc hap
        unfold appOut.appNil at hap
        split at hap
        · rename_i hk
          obtain ⟨hsz, hzi, hzz⟩ := hk
          simp only [Option.some.injEq] at hap
          subst hap
          obtain ⟨z, hz⟩ := Option.isSome_iff_exists.1 hzi
          have hlim : ((⟨m'.k, []⟩ : SL).len + m'.len) * i.bytes ≤ 140737488355328 := by simpa [SL.len] using hn.1
          obtain ⟨v', ys, w', q1, q2, q3, q4, q5⟩ := run_append_src (P := P) (E := E) (we := we) (ty := o.type) (m := ⟨m'.k, []⟩) (elemOf_spec he) hi hz (by rw [hz] at hzz; simpa using hzz) hby hsz RowR_app_nil (World.ownsRow_nil _ _ _ _) (RowR_nil _) hlim h.below.size hsrc
          rw [← hs] at q1
          refine COK.row (hrun q1) q2 q3 q4 fun b hb => ?_
          rcases q5 with q5 | q5
          · rw [q5] at hb; cases hb
          · rw [q5] at hb; simp at hb; omega
        · cases hap
      unfold appOut at hc
      split at hc
      · cases hc
      · rename_i e he
        split at hc
        · cases hc
        · rename_i i hi
          split at hc
          · cases hc
          · rename_i hby
            simp only [Bool.not_eq_true', Bool.not_eq_false, Bool.and_eq_true, decide_eq_true_eq] at hby
            split at hc
            · rename_i id id2 e1 m e2 m' _ _ _
              have hid : ids = [id, id2] := hplan
              subst hid
              have hz := contOf_zip hg hct
              exact hwr he hi hby.1 rfl rfl rfl (hz (id, .row e1 m) (by simp)) (src_own h (hz (id2, .row e2 m') (by simp)) hx1) hc
            · rename_i id nw m' e1 m _ _ _
              have hid : ids = [id] := hplan
              subst hid
              have hz := contOf_zip hg hct
              exact hwr he hi hby.1 rfl rfl rfl (hz (id, .row e1 m) (by simp)) (src_slc h hx1) hc
            · rename_i v id2 e2 m' _ _ _
              split at hc
              · rename_i hnv
                have hid : ids = [id2] := hplan
                subst hid
                have hz := contOf_zip hg hct
                exact hnl he hi hby.1 (hs1.1.trans (nilV_eq hnv)) (src_own h (hz (id2, .row e2 m') (by simp)) hx1) hc
              · cases hc
            · rename_i v nw m' _ _ _
              split at hc
              · rename_i hnv
                exact hnl he hi hby.1 (hs1.1.trans (nilV_eq hnv)) (src_slc h hx1) hc
              · cases hc
            · cases hc
    · cases hc
  · cases hc

/-! ### strings -/

theorem u8_at (l : List Int) {i : Nat} (hi : i < l.length) : (SL.mk .u8 l).at i = [.int .u8 l[i]] := by
  show [Cell.int .u8 (l.getD i 0)] = _
  rw [List.getD_eq_getElem?_getD, List.getElem?_eq_getElem hi]
  rfl
theorem u8_row {l : List Int} {news : List Value} (h4 : news.length = l.length) (h6 : RowR E (SL.mk .u8 l) news) : news = l.map (Value.int .u8) := by
  refine List.ext_getElem (by rw [List.length_map]; exact h4) fun i hi hi' => ?_
  have hil : i < l.length := by omega
  obtain ⟨y, h7, h8⟩ := h6 i hil 0 (.int .u8 l[i]) (by rw [u8_at l hil]; rfl)
  have h8 : y = .int .u8 l[i] := h8
  have h7 : news[i * 1 + 0]? = some y := h7
  rw [Nat.mul_one, Nat.add_zero, List.getElem?_eq_getElem hi] at h7
  simp only [Option.some.injEq] at h7
  rw [h7, h8, List.getElem_map]
theorem run_u8_string {src dst e : TypeId} (hs : P.underlying src = some (.slice e)) (he : P.underlying e = some (.int .u8)) (hd : P.underlying dst = some .string) {l : List Int} {x : Value} (h : SrcR w E (SL.mk .u8 l) x) : (convert src dst x).run P w = .ok (.string (strOf l)) w := by
  rcases h with ⟨e0, h0⟩ | ⟨ad, cap, news, e0, h4, h5, h6⟩
  · have hl0 : l = [] := List.length_eq_zero_iff.1 h0
    subst hl0
    rw [e0]
    exact run_convert_bytes_nil w src e hs he 0 0 dst hd
  · have h4 : news.length = l.length * 1 := h4
    have hnews := u8_row (by omega) h6
    have hl := run_loadCells_list (P := P) w ad (l.map (Value.int .u8)) (fun j v hj => h5 j v (by rw [hnews]; exact hj))
    rw [List.length_map] at hl
    have e0 : x = .slice (some ad) l.length cap := e0
    rw [e0, run_convert_bytes_string w src dst e (some ad) _ cap hs he hd, run_bytesToString w ad _ cap l hl, foldl_push_bytes]
    rw [show ByteArray.empty.data = #[] from rfl, Array.empty_append]
    rfl
theorem bytesOf_len (s : ByteArray) : (SL.mk .u8 (bytesOf s)).len = s.size := by
  show (s.data.toList.map fun b => (b.toNat : Int)).length = _
  rw [List.length_map, Array.length_toList]
  rfl
theorem bytesOf_at (s : ByteArray) {i : Nat} (hi : i < s.data.toList.length) : (SL.mk .u8 (bytesOf s)).at i = [.int .u8 (s.data.toList[i].toNat : Int)] := by
  have hi' : i < (bytesOf s).length := by unfold bytesOf; rw [List.length_map]; exact hi
  rw [u8_at _ hi']
  exact congrArg (fun z => [Cell.int .u8 z]) (List.getElem_map (fun b : UInt8 => (b.toNat : Int)))
theorem bytes_rel {E : Env} {w : World} (h0 : E.n0 ≤ w.heap.size) (e : TypeId) (s : ByteArray) (hlim : s.size ≤ 65536) (cap : Nat) (hcap : s.size ≤ cap) (fr : Nat × Nat) : CR (E.frz w (w.drew.alloc (.cells (bytesRow s cap) e fr))) (.slc true (SL.mk .u8 (bytesOf s))) (.slice (some ⟨w.heap.size, 0, none⟩) s.size cap) := by
  have hlen := bytesOf_len s
  refine .inr ⟨⟨w.heap.size, 0, none⟩, cap, by rw [hlen], ⟨by rw [hlen]; exact hcap, by rw [hlen]; simp only [maxLen]; omega⟩, fun i hi => ?_⟩
  have hnw : (w.drew.alloc (.cells (bytesRow s cap) e fr)).heap[w.heap.size]? = some (.cells (bytesRow s cap) e fr) := by
    show (w.heap.push (.cells (bytesRow s cap) e fr))[w.heap.size]? = _
    simp
  refine ⟨⟨.inr ⟨Nat.le_refl _, heap_lt hnw⟩, h0⟩, fun j c hj => ?_⟩
  rw [hlen] at hi
  have hd : i < s.data.toList.length := by rw [Array.length_toList]; exact hi
  rw [bytesOf_at s hd] at hj
  have hj0 : j = 0 := by
    have := (List.getElem?_eq_some_iff.1 hj).1
    simpa using this
  subst hj0
  simp only [List.getElem?_cons_zero, Option.some.injEq] at hj
  subst hj
  refine ⟨.int .u8 (s.data.toList[i].toNat : Int), ?_, rfl⟩
  show (w.drew.alloc (.cells (bytesRow s cap) e fr)).cell? (Addr.add ⟨w.heap.size, 0, none⟩ (i * 1 + 0)) = _
  rw [add_lit, Nat.mul_one, Nat.add_zero, Nat.zero_add]
  unfold World.cell?
  rw [hnw]
  have hd' : i < s.data.size := hi
  exact bytesRow_at s cap i hd'

theorem mark_heap (w : World) (g : Nat) (cur : Array Value) (e : TypeId) (n : Nat) (h : w.heap[g]? = some (.cells cur e (0, 0))) :
    (w.freeze ⟨g, n, none⟩ 1).heap[g]? = some (.cells cur e (n, n + 1)) ∧ (∀ b, b ≠ g → (w.freeze ⟨g, n, none⟩ 1).heap[b]? = w.heap[b]?) ∧ (w.freeze ⟨g, n, none⟩ 1).heap.size = w.heap.size := by
  unfold World.freeze
  rw [if_neg (by decide)]
  refine ⟨?_, fun b hb => ?_, ?_⟩
  · simp only [Array.getElem?_modify, if_pos, h, Option.map_some]
    simp
  · simp only [Array.getElem?_modify]
    rw [if_neg (fun e => hb e.symm)]
  · simp
theorem mark_ok (h : RelE we E σ a w) {t : TypeId} {x : Operand} (ho : o.op = .convert t t x) {id g cap : Nat} {cur : Array Value} {e1 e : TypeId} {m : SL} {xs : List Value} (hex : a.eval x = E.γ id) (hd : P.underlying t = some (.slice e)) (he : P.underlying e = some (.int .u8)) (hfl : m.k.flat = true)
    (hrow : RowR E m xs) (hv : E.γ id = .slice (some ⟨g, 0, none⟩) m.len cap) (hb : we.heap.size ≤ g) (hgx : w.heap[g]? = some (.cells cur e1 (0, 0))) (hnc : m.len ≤ cap) (hcm : cap ≤ maxLen) (htk : cur.toList.take (m.len * m.sz) = xs) :
    COK P we E σ.mem a w o self [id] [.row e1 m] { need := [0 < m.len], val := some (.fv (.one (.slc true m))), wr := some [.lost] } := by
  obtain ⟨k1, k2, k3⟩ := mark_heap w g cur e1 cur.size hgx
  have hsh : w.shape? g = some (e1, cur.size) := by
    unfold World.shape?
    rw [hgx]
  have hrun : (convert t t (a.eval x)).run P w = .ok (.slice (some ⟨g, 0, none⟩) m.len cap) (w.freeze ⟨g, cur.size, none⟩ 1) := by
    rw [hex, hv]
    simp [convert, run_underlying hd, run_underlying he, markStringish, hsh]
  have hblk : blkNo E id (.row e1 m) = some g := by
    show (E.γ id).ownBlock = some g
    rw [hv]; rfl
  refine .inr (.inr (.inr (.inr (.inr (.inr (.inr (.inr ⟨e1, m, .slice (some ⟨g, 0, none⟩) m.len cap, w.freeze ⟨g, cur.size, none⟩ 1, id, rfl, rfl, rfl, rfl, rfl, by simp only [execOp, ho, hrun, Sem.run_bind, Result.andThen_ok, Sem.run_pure], ?_, ?_, ?_⟩)))))))
  · rw [hblk]
    refine ⟨?_, ?_, ?_, by rw [k3]; exact Nat.le_refl _, fun b _ hne => k2 b fun e => hne (by rw [e])⟩ <;> (unfold World.freeze; rw [if_neg (by decide)])
  · intro b hb'
    have hb' : g = b := by simpa [Value.ownBlock] using hb'
    subst hb'
    exact ⟨hblk, by rw [k3]; exact (Array.getElem?_eq_some_iff.1 hgx).1⟩
  · intro E' hn0 hwf hF
    refine .inr ⟨⟨g, 0, none⟩, cap, rfl, ⟨hnc, Nat.le_trans hnc hcm⟩, fun i hi => ⟨⟨hF g rfl, by rw [hn0, h.n0]; exact hb⟩, fun j c hj => ?_⟩⟩
    obtain ⟨y, h3, h4⟩ := hrow i hi j c hj
    refine ⟨y, ?_, CR_flat (flat_mem hfl hj) h4⟩
    show E'.wf.cell? _ = _
    rw [hwf, add_lit]
    unfold World.cell?
    rw [k1]
    have hbb : (i + 1) * m.sz ≤ m.len * m.sz := Nat.mul_le_mul_right _ hi
    rw [Nat.add_mul, Nat.one_mul] at hbb
    have := SL.at_lt hj
    rw [← htk, List.getElem?_take, if_pos (by omega)] at h3
    simpa using h3

theorem core_convert (h : RelE we E σ a w) (hg : Holds a gs) {src dst : TypeId} {x : Operand} (ho : o.op = .convert src dst x) (hp : plan o (rdOp σ.tmps gs) = ids) (hct : contOf gs σ.mem ids = some cont)
    (hc : core P ctrs o (rdOp σ.tmps) gs self ids cont = some out) (hn : Conj out.need) : COK P we E σ.mem a w o self ids cont out := by
  simp only [core, ho] at hc
  split at hc
  · rename_i d k k' n hs hd hx
    simp only [one, pureOut, Option.some.injEq] at hc
    subst hc
    have e1 : a.eval x = .int k' n := (rdOp_sound h hg hx).1
    refine COK.int ?_
    simp [execOp, ho, e1, convert, run_underlying hs, run_underlying hd, Conv.intToInt]
  · rename_i e nw m hs hd hx
    split at hc
    · rename_i l he hl
      simp only [one, pureOut, Option.some.injEq] at hc
      subst hc
      have hm := SL.as_eq hl
      subst hm
      have h1 : CR E (.slc nw ⟨.u8, l⟩) (a.eval x) := (rdOp_sound h hg hx).1
      have hrun : (convert src dst (a.eval x)).run P w = .ok (.string (strOf l)) w := run_u8_string hs he hd (src_slc h h1)
      exact COK.pure (v := .fv (.one (.raw (.string (strOf l))))) ⟨rfl, rfl⟩ (fits_one (c := .raw _) trivial) (by simp [execOp, ho, hrun])
    · cases hc
  · rename_i e s hs hd hx
    split at hc
    · rename_i he
      simp only [one, Option.some.injEq] at hc
      subst hc
      have e1 : a.eval x = .string s := (show CR E (.raw (.string s)) (a.eval x) from (rdOp_sound h hg hx).1).1
      have hrun := run_bytes_of_string (P := P) w src dst e s hs hd he
      have h0 : E.n0 ≤ w.heap.size := by rw [h.n0]; exact h.below.size
      have hr2 : (execOp a.eval o).run P w = .ok (.value (.slice (some ⟨w.heap.size, 0, none⟩) s.size (grownCap w s.size 0 e))) (w.drew.alloc (.cells (bytesRow s (grownCap w s.size 0 e)) e ((bytesRow s (grownCap w s.size 0 e)).size, (bytesRow s (grownCap w s.size 0 e)).size + 1))) := by simp only [execOp, ho, e1, hrun, Sem.run_bind, Result.andThen_ok, Sem.run_pure]
      exact .inr (.inr (.inr (.inr (.inr (.inr (.inr (.inl ⟨_, _, _, rfl, rfl, rfl, fits_one (c := .slc true (SL.mk .u8 (bytesOf s))) trivial, hr2, ((Below.refl _ _).drew).alloc (Nat.le_refl _) _, bytes_rel h0 e s hn.1 _ (grownCap_ge w s.size 0 e) _⟩)))))))
    · cases hc
  · rename_i e0 e id hs hd hx
    split at hc
    · rename_i e1 m he
      split at hc
      · rename_i hsd
        obtain ⟨hsd, hfl⟩ := hsd
        subst hsd
        simp only [one, Option.some.injEq] at hc
        subst hc
        have hex : a.eval x = E.γ id := (show CR E (.own id) (a.eval x) from (rdOp_sound h hg hx).1).1
        have hids : ids = [id] := by rw [← hp]; simp [plan, ho, hx]
        subst hids
        obtain ⟨r, hr, hh⟩ := contOf_one hg hct
        simp only [List.cons.injEq, and_true] at hr
        subst hr
        obtain ⟨xs, hown, hrow⟩ := h.mem id _ hh
        rcases hown.2 with ⟨_, h3⟩ | ⟨g, cap, cur, hv, hb, hgx, hnc, hcm, _, htk⟩
        · have := hn.1
          omega
        · exact mark_ok h ho hex hd he hfl hrow hv hb hgx hnc hcm htk
      · cases hc
    · cases hc
  · cases hc

/-! ### copy -/

theorem copy_at {m : SL} {l : List m.k.Ty} : (⟨m.k, l.take m.len ++ m.l.drop l.length⟩ : SL).len = m.len ∧ (∀ i, i < m.len → i < l.length → (⟨m.k, l.take m.len ++ m.l.drop l.length⟩ : SL).at i = (⟨m.k, l⟩ : SL).at i) ∧
    ∀ i, i < m.len → ¬ i < l.length → (⟨m.k, l.take m.len ++ m.l.drop l.length⟩ : SL).at i = m.at i := by
  refine ⟨by simp [SL.len]; omega, fun i hi hl => ?_, fun i hi hl => ?_⟩
  · unfold SL.at
    simp only
    congr 1
    simp only [List.getD]
    rw [List.getElem?_append_left (by simp; omega), List.getElem?_take, if_pos hi]
  · unfold SL.at
    simp only
    congr 1
    have hi : i < m.l.length := hi
    have hm : m.len = m.l.length := rfl
    simp only [List.getD]
    rw [List.getElem?_append_right (by simp; omega), List.getElem?_drop]
    congr 2
    simp
    omega

theorem core_copy (h : RelE we E σ a w) (hg : Holds a gs) {c : Call} (ho : o.op = .call c) (hcal : c.callee = .builtin .copy) (hp : plan o (rdOp σ.tmps gs) = ids) (hct : contOf gs σ.mem ids = some cont)
    (hc : core P ctrs o (rdOp σ.tmps) gs self ids cont = some out) : COK P we E σ.mem a w o self ids cont out := by
  simp only [core, ho, hcal] at hc
  split at hc
  · rename_i t t' id nw m' e m hat hargs
    have hps := mapOps_sound h hg hargs
    obtain ⟨dv, r1, e1, hd1, _, hps⟩ := hps.head
    obtain ⟨sv, r2, e2, hs1, _, hps⟩ := hps.head
    have hr2 : r2 = [] := by have := hps.len; simpa using this
    subst hr2
    subst e2
    have hargl : c.args.map a.eval = #[dv, sv] := by
      apply Array.ext'
      rw [Array.toList_map, e1]
    have hatl : c.argTypes = #[t, t'] := by
      apply Array.ext'
      rw [hat]
    have hrun : ∀ {v w'}, (Builtin.copy_ #[t, t'] o.type #[dv, sv]).run P w = .ok v w' → (execOp a.eval o).run P w = .ok (.value v) w' := fun hr => by
      simp [execOp, ho, resolve, hcal, invoke, builtin, hargl, hatl, hr]
    have hids : ids = [id] := by rw [← hp]; simp [plan, ho, hcal, hargs, PV.ids, FV.cells, Cell.ids]
    subst hids
    obtain ⟨r, hr, hh⟩ := contOf_one hg hct
    simp at hr; subst hr
    split at hc
    · rename_i e' l hel hl
      split at hc
      · rename_i i hi
        split at hc
        · rename_i hk
          obtain ⟨rfl, hsz⟩ := hk
          simp only [Option.some.injEq] at hc; subst hc
          have hm' := SL.as_eq hl
          subst hm'
          have hu : P.underlying t = some (.slice e') := by
            unfold elemOf at hel
            split at hel
            · simp at hel; subst hel; assumption
            · cases hel
          obtain ⟨xs, hown, hrow⟩ := h.mem id _ hh
          have hdv : dv = E.γ id := (show CR E (.own id) dv from hd1).1
          obtain ⟨hL, hA, hB⟩ := copy_at (m := m) (l := l)
          have hsize : ∀ w, (sizeOf e').run P w = .ok i.size w := fun w => by simp [sizeOf, typeInfo, hi]
          have same : (∀ i, i < m.len → ¬ i < l.length) → ∀ mem' : Nat → MRes, RRel we.heap.size E mem' w id (.row e' ⟨m.k, l.take m.len ++ m.l.drop l.length⟩) := fun hno mem' => by
            refine ⟨xs, by rw [hL]; exact hown, fun q hq j c hj => ?_⟩
            rw [hL] at hq
            rw [hB q hq (hno q hq)] at hj
            exact hrow q hq j c hj
          rcases hown.2 with ⟨hv0, h0⟩ | ⟨g, cap, cur, hv, hb, hgh, hnc, hcm, hcs, htk⟩
          · refine COK.writeV (x := goInt 0) w (hrun ?_) ⟨rfl, rfl, rfl, Nat.le_refl _, fun _ _ _ => rfl⟩ rfl fun mem' _ => same (fun i hi => by omega) mem'
            rcases src_slc h (show CR E (.slc nw ⟨m.k, l⟩) sv from hs1) with ⟨hs0, _⟩ | ⟨ad, scap, ys, hsv, _⟩
            · simp [Builtin.copy_, run_underlying hu, hdv, hv0, hs0, Builtin.lenOf, Builtin.firstCells, hsize]
            · have hl0 := run_loadCells_list (P := P) (w := w) ad [] (fun j v hj => by simp at hj)
              simp at hl0
              simp [Builtin.copy_, run_underlying hu, hdv, hv0, hsv, Builtin.lenOf, Builtin.firstCells, hsize, hl0]
          · rcases src_slc h (show CR E (.slc nw ⟨m.k, l⟩) sv from hs1) with ⟨hs0, hl0⟩ | ⟨ad, scap, ys, hsv, hyl, hyc, hyr⟩
            · refine COK.writeV (x := goInt 0) w (hrun ?_) ⟨rfl, rfl, rfl, Nat.le_refl _, fun _ _ _ => rfl⟩ rfl fun mem' _ => same (fun i _ hi => by have hl0 : l.length = 0 := hl0; omega) mem'
              simp [Builtin.copy_, run_underlying hu, hdv, hv, hs0, Builtin.lenOf, Builtin.firstCells, hsize, storeCells]
            · have hyl : ys.length = l.length * m.sz := hyl
              let n := Nat.min l.length m.len
              have hn : n = min l.length m.len := rfl
              have hnm : n * m.sz ≤ m.len * m.sz := Nat.mul_le_mul_right _ (by omega)
              have hnl : n * m.sz ≤ l.length * m.sz := Nat.mul_le_mul_right _ (by omega)
              have hmc : m.len * m.sz ≤ cap * m.sz := Nat.mul_le_mul_right _ hnc
              have hcl : (ys.take (n * m.sz)).length = n * m.sz := by simp; omega
              have hload := run_loadCells_list (P := P) (w := w) ad (ys.take (n * m.sz)) (fun j v hj => by
                rw [List.getElem?_take] at hj
                split at hj
                · exact hyc j v hj
                · cases hj)
              rw [hcl] at hload
              have hone : ∀ v ∈ ys.take (n * m.sz), v.oneCell' = true := fun v hv' => RowR.mem (m := ⟨m.k, l⟩) hyl hyr v (List.mem_of_mem_take hv')
              have hst := run_storeCells_at P g 0 e' (ys.take (n * m.sz)) 0 cur w hgh (by rw [hcl, hcs]; omega) hone
              simp only [Nat.add_zero, Nat.zero_add] at hst
              refine COK.writeV (x := goInt n) (w.setRow g (cur.toList.take 0 ++ ys.take (n * m.sz) ++ cur.toList.drop (ys.take (n * m.sz)).length).toArray) (hrun ?_) ?_ rfl ?_
              · simp only [Builtin.copy_, List.getElem?_toArray, List.getElem?_cons_zero, List.getElem?_cons_succ, Sem.run_bind, run_underlying hu, Result.andThen_ok, hdv, hv, hsv, Builtin.lenOf, Builtin.firstCells, Sem.run_pure, hsize, ← hsz]
                rw [show Nat.min (⟨m.k, l⟩ : SL).len m.len = n from rfl, hload]
                simp only [Result.andThen_ok, hst]
              · exact ⟨rfl, rfl, rfl, by simp, fun k _ hne => setRow_other w _ k _ fun e => hne (by rw [e]; simp [blkNo, hv, Value.ownBlock])⟩
              · intro mem' _
                have hcl' : cur.toList.length = cap * m.sz := by simpa using hcs
                have hxl : xs.length = m.len * m.sz := hown.1
                refine ⟨ys.take (n * m.sz) ++ xs.drop (n * m.sz), ?_, ?_⟩
                · rw [hL]
                  show World.ownsRow _ _ e' m.sz (E.γ id) m.len _
                  refine ⟨by simp; omega, .inr ⟨g, cap, _, hv, hb, setRow_heap w _ _ _ _ _ hgh, hnc, hcm, by simp; omega, ?_⟩⟩
                  simp only
                  rw [← htk]
                  have := take_splice cur.toList (ys.take (n * m.sz)) 0 (m.len * m.sz) (by rw [hcl]; omega) (by rw [hcl']; exact hmc)
                  simp only [Nat.zero_add, List.take_zero, List.nil_append] at this ⊢
                  rw [hcl] at this ⊢
                  exact this
                · intro q hq j c hj
                  rw [hL] at hq
                  have hjs : j < m.sz := by have := SL.at_lt hj; exact this
                  have hb1 : (q + 1) * m.sz ≤ m.len * m.sz := Nat.mul_le_mul_right _ hq
                  rw [Nat.add_mul, Nat.one_mul] at hb1
                  by_cases hql : q < l.length
                  · rw [hA q hq hql] at hj
                    have hb2 : (q + 1) * m.sz ≤ n * m.sz := Nat.mul_le_mul_right _ (by omega)
                    rw [Nat.add_mul, Nat.one_mul] at hb2
                    obtain ⟨y, h7, h8⟩ := hyr q hql j c hj
                    refine ⟨y, ?_, h8⟩
                    show (ys.take (n * m.sz) ++ xs.drop (n * m.sz))[q * m.sz + j]? = some y
                    rw [List.getElem?_append_left (by rw [hcl]; omega), List.getElem?_take, if_pos (by omega)]
                    exact h7
                  · rw [hB q hq hql] at hj
                    have hb2 : n * m.sz ≤ q * m.sz := Nat.mul_le_mul_right _ (by omega)
                    obtain ⟨y, h7, h8⟩ := hrow q hq j c hj
                    refine ⟨y, ?_, h8⟩
                    show (ys.take (n * m.sz) ++ xs.drop (n * m.sz))[q * m.sz + j]? = some y
                    rw [List.getElem?_append_right (by rw [hcl]; omega), List.getElem?_drop, hcl, show n * m.sz + (q * m.sz + j - n * m.sz) = q * m.sz + j by omega]
                    exact h7
        · cases hc
      · cases hc
    · cases hc
  · cases hc
end
end Go.Eng

/- THE ENGINE, PART 4b: each operation does what the executor says: stores, fields, comparisons, aggregates. -/
import Derived.Test.YtleooijgkdllfaaEngOps
namespace Go.Eng
open Go.RowKit

section
variable {P : Program} {ctrs : FuncId → Option Contract} {we : World} {E : Env} {σ : St} {a : Act} {w : World} {o : Oper} {gs : List (Nat × Bool)} {self : Nat} {ids : List Nat} {cont : List Res} {out : Out}

theorem ofRow_at {m m' : SL} {i : Nat} {cs : List Cell} (h : m.set i cs = some m') : m'.k = m.k ∧ m'.len = m.len ∧ m'.sz = m.sz ∧ (i < m.len → m'.at i = cs) ∧ ∀ j, j ≠ i → m'.at j = m.at j := by
  unfold SL.set at h
  split at h
  · rename_i x hx
    simp at h; subst h
    refine ⟨rfl, by simp [SL.len], rfl, fun hi => ?_, fun j hj => ?_⟩
    · unfold SL.at
      simp only
      have hlt : i < m.l.length := hi
      rw [show (m.l.set i x).getD i m.k.dflt = x by simp [List.getD, hlt]]
      exact (K.of_eq hx).symm
    · unfold SL.at
      simp only
      congr 1
      simp only [List.getD]
      rw [List.getElem?_set_ne (Ne.symm hj)]
  · cases h

theorem splice_get (xs ys : List Value) (p j : Nat) (h : p + ys.length ≤ xs.length) : (xs.take p ++ ys ++ xs.drop (p + ys.length))[j]? = if j < p then xs[j]? else if j < p + ys.length then ys[j - p]? else xs[j]? := by
  have e1 : (xs.take p).length = p := by simp; omega
  by_cases c1 : j < p
  · rw [if_pos c1, List.append_assoc, List.getElem?_append_left (by omega), List.getElem?_take, if_pos c1]
  · rw [if_neg c1]
    by_cases c2 : j < p + ys.length
    · rw [if_pos c2, List.append_assoc, List.getElem?_append_right (by omega), List.getElem?_append_left (by omega), e1]
    · rw [if_neg c2, List.getElem?_append_right (by rw [List.length_append]; omega), List.length_append, e1, List.getElem?_drop]
      congr 1
      omega

theorem row_splice (xs ys : List Value) (b off sz jj : Nat) (h1 : b + sz ≤ xs.length) (h2 : off + ys.length ≤ sz) (h3 : jj < sz) :
    (xs.take (b + off) ++ ys ++ xs.drop (b + off + ys.length))[b + jj]? = (((xs.drop b).take sz).take off ++ ys ++ ((xs.drop b).take sz).drop (off + ys.length))[jj]? := by
  rw [splice_get _ _ _ _ (by omega), splice_get _ _ _ _ (by simp; omega)]
  have e : ((xs.drop b).take sz)[jj]? = xs[b + jj]? := by rw [List.getElem?_take, if_pos h3, List.getElem?_drop]
  rw [e]
  by_cases c1 : jj < off
  · rw [if_pos (by omega), if_pos c1]
  · rw [if_neg (by omega), if_neg c1]
    by_cases c2 : jj < off + ys.length
    · rw [if_pos (by omega), if_pos c2]
      congr 1
      omega
    · rw [if_neg (by omega), if_neg c2]

theorem take_splice (cur ys : List Value) (p n : Nat) (h : p + ys.length ≤ n) (hn : n ≤ cur.length) : (cur.take p ++ ys ++ cur.drop (p + ys.length)).take n = (cur.take n).take p ++ ys ++ (cur.take n).drop (p + ys.length) := by
  apply List.ext_getElem?
  intro j
  rw [List.getElem?_take, splice_get _ _ _ _ (by omega), splice_get _ _ _ _ (by simp; omega), List.getElem?_take]
  by_cases c0 : j < n
  · rw [if_pos c0, if_pos c0]
  · rw [if_neg c0, if_neg (by omega), if_neg (by omega), if_neg c0]

theorem COK.write {id : Nat} {r r' : Res} {ps : List Prop} (w' : World) (hr : (execOp a.eval o).run P w = .ok .skip w') (hg : w.grownBy w' (blkNo E id r)) (hb : blkNo E id r' = blkNo E id r)
    (hrr : ∀ mem' : Nat → MRes, (∀ k, Live σ.mem k → Live mem' k) → RRel we.heap.size E mem' w' id r') : COK P we E σ.mem a w o self [id] [r] { need := ps, val := none, wr := some [.val r'] } :=
  .inr (.inr (.inr (.inr (.inl ⟨id, r, r', w', _, rfl, rfl, rfl, rfl, rfl, .inl rfl, hr, hg, hb, hrr⟩))))
theorem COK.writeV {id : Nat} {r r' : Res} {ps : List Prop} {x : Value} (w' : World) (hr : (execOp a.eval o).run P w = .ok (.value x) w') (hg : w.grownBy w' (blkNo E id r)) (hb : blkNo E id r' = blkNo E id r)
    (hrr : ∀ mem' : Nat → MRes, (∀ k, Live σ.mem k → Live mem' k) → RRel we.heap.size E mem' w' id r') : COK P we E σ.mem a w o self [id] [r] { need := ps, val := none, wr := some [.val r'] } :=
  .inr (.inr (.inr (.inr (.inl ⟨id, r, r', w', _, rfl, rfl, rfl, rfl, rfl, .inr ⟨x, rfl⟩, hr, hg, hb, hrr⟩))))

theorem store_blk (_h : RelE we E σ a w) {T : TypeId} {x v : Operand} (ho : o.op = .store T x v) {i : TypeInfo} (hi : P.info? T = some i) {id off : Nat} {u : FV} {T' : TypeId} {cs : List Cell} (hmem : RRel we.heap.size E σ.mem w id (.blk T' cs)) (e1 : a.eval x = .pointer (some ⟨E.β id, off, none⟩)) (hu : FR E u (a.eval v)) (h4 : ∀ c ∈ u.cells, c.fits σ.mem)
    (hlen : u.cells.length = i.size ∧ off + i.size ≤ cs.length) : COK P we E σ.mem a w o self [id] [.blk T' cs] { need := [], val := none, wr := some [.val (.blk T' (splice cs off (retF P T u).cells))] } := by
  obtain ⟨hb0, ⟨xs, hb, hcs⟩, hgood⟩ := hmem
  have h5 := FR.cells (retF_rel (P := P) (T := T) hu)
  have h6 : (a.eval v).cells.toList.length = u.cells.length := by rw [h5.len, retF_len]
  have hst := run_storeCells_at P (E.β id) off T' (a.eval v).cells.toList 0 xs.toArray w hb (by have := hcs.len; simp [h6]; simp at h6; omega) h5.mem
  simp only [Nat.add_zero] at hst
  have hsz : (a.eval v).cells.size = i.size := by have := h6; simp at this; omega
  refine COK.write (w.setRow (E.β id) (xs.toArray.toList.take off ++ (a.eval v).cells.toList ++ xs.toArray.toList.drop (off + (a.eval v).cells.toList.length)).toArray) ?_ ?_ rfl ?_
  · simp only [execOp, ho, e1, Instr.storeAt, Instr.sureAddr, storeVar, Sem.run_bind, Sem.run_pure, Result.andThen_ok, sizeOf, typeInfo, run_program, hi]
    simp [hsz, hst]
  · exact ⟨rfl, rfl, rfl, by simp, fun k _ hne => setRow_other w _ k _ fun e => hne (by rw [e]; rfl)⟩
  · intro mem' hm'
    refine ⟨hb0, ⟨_, setRow_heap w _ _ _ _ _ hb, hcs.splice h5 off⟩, fun c hcm => ?_⟩
    simp only [splice, List.mem_append] at hcm
    refine fits_mono hm' ?_
    rcases hcm with (hcm | hcm) | hcm
    · exact hgood c (List.mem_of_mem_take hcm)
    · exact retF_fits h4 c hcm
    · exact hgood c (List.mem_of_mem_drop hcm)

theorem updI_id {i x : Int} : ∀ {k : Nat} {l : List Int}, i < k → updI i x k l = l
  | _, [], _ => rfl
  | k, y :: r, h => by
    simp only [updI]
    rw [updI_id (by omega), beq_eq_false_iff_ne.2 (by omega)]; rfl
theorem updI_eq {i x : Int} : ∀ {k : Nat} {l : List Int}, (k : Int) ≤ i → updI i x k l = l.set (i.toNat - k) x
  | _, [], _ => by simp [updI]
  | k, y :: r, h => by
    simp only [updI]
    by_cases e : i = k
    · rw [updI_id (by omega), show i.toNat - k = 0 by omega, e, beq_self_eq_true]; rfl
    · rw [updI_eq (by omega), show i.toNat - k = (i.toNat - (k + 1)) + 1 by omega, beq_eq_false_iff_ne.2 e]; rfl
theorem splice_num {cs : List Cell} {off n : Nat} {l : List Int} {i y : Int} (hl : i64s ((cs.drop off).take n) = some l) (hn : l.length = n) (h0 : 0 ≤ i) (h1 : i < n) :
    splice cs off ((updI i y 0 l).map (Cell.int .i64)) = splice cs (off + i.toNat) [.int .i64 y] := by
  have e := i64s_eq hl
  have hlen : n ≤ cs.length - off := by
    have := congrArg List.length e
    simp at this
    omega
  rw [updI_eq (k := 0) (by omega)]
  have e1 : cs = cs.take off ++ l.map (Cell.int .i64) ++ cs.drop (off + n) := by
    rw [← e, List.append_assoc, show (cs.drop off).take n ++ cs.drop (off + n) = cs.drop off by rw [← List.drop_drop]; exact List.take_append_drop _ _, List.take_append_drop]
  have e2 : splice cs off ((l.set i.toNat y).map (Cell.int .i64)) = cs.set (off + i.toNat) (.int .i64 y) := by
    have hto : (cs.take off).length = off := by simp; omega
    conv => rhs; rw [e1]
    rw [List.set_append, if_pos (by simp; omega), List.set_append, if_neg (by omega), hto, show off + i.toNat - off = i.toNat by omega]
    simp only [splice, List.map_set, List.length_set, List.length_map, hn]
  rw [Nat.sub_zero, e2]
  simp only [splice]
  rw [List.set_eq_take_append_cons_drop, if_pos (by omega)]
  simp

theorem core_store (h : RelE we E σ a w) (hg : Holds a gs) {T : TypeId} {x v : Operand} (ho : o.op = .store T x v) (hp : plan o (rdOp σ.tmps gs) = ids) (hct : contOf gs σ.mem ids = some cont)
    (hc : core P ctrs o (rdOp σ.tmps) gs self ids cont = some out) (hn : Conj out.need) : COK P we E σ.mem a w o self ids cont out := by
  simp only [core, ho] at hc
  split at hc
  · rename_i id off u T' cs i hx hv hi
    obtain ⟨h1, _⟩ := rdOp_sound h hg hx
    obtain ⟨h3, h4⟩ := rdOp_sound h hg hv
    have hid : ids = [id] := by rw [← hp]; simp [plan, ho, hx]
    subst hid
    obtain ⟨r, hr, hh⟩ := contOf_one hg hct
    simp at hr; subst hr
    split at hc
    · rename_i hlen
      simp at hc; subst hc
      exact store_blk h ho hi (h.mem id _ hh) h1 h3 h4 hlen
    · cases hc
  · rename_i id sz j off u e m i hx hv hi
    obtain ⟨h1, _⟩ := rdOp_sound h hg hx
    obtain ⟨h3, h4⟩ := rdOp_sound h hg hv
    have hid : ids = [id] := by rw [← hp]; simp [plan, ho, hx]
    subst hid
    obtain ⟨r, hr, hh⟩ := contOf_one hg hct
    simp at hr; subst hr
    obtain ⟨xs, hown, hrow⟩ := h.mem id _ hh
    split at hc
    · rename_i hlen
      obtain ⟨rfl, hul, hoff⟩ := hlen
      split at hc
      · rename_i m' hm
        simp only [Option.some.injEq] at hc; subst hc
        have hj : j < m.len := hn.1
        obtain ⟨k1, k2, k3, k4, k5⟩ := ofRow_at hm
        have hu : FR E u (a.eval v) := h3
        have h5 := FR.cells hu
        have h6 : (a.eval v).cells.toList.length = u.cells.length := h5.len
        obtain ⟨ad, len, cap, hγ, e1⟩ := (show CR E (.orp id m.sz j off) (a.eval x) from h1)
        rcases hown.2 with ⟨_, h0⟩ | ⟨g, cap', cur, hv', hb, hgh, hnc, hcm, hcs, htk⟩
        · omega
        rw [hv'] at hγ
        cases hγ
        have hb1 : (j + 1) * m.sz ≤ m.len * m.sz := Nat.mul_le_mul_right _ hj
        have hb2 : m.len * m.sz ≤ cap * m.sz := Nat.mul_le_mul_right _ hnc
        rw [Nat.add_mul, Nat.one_mul] at hb1
        have hst := run_storeCells_at P g (j * m.sz + off) e (a.eval v).cells.toList 0 cur w hgh (by rw [hcs, h6]; omega) h5.mem
        simp only [Nat.add_zero] at hst
        have hsz : (a.eval v).cells.size = i.size := by have := h6; simp at this; omega
        have hp' : a.eval x = .pointer (some ⟨g, j * m.sz + off, none⟩) := by rw [e1, add_lit]; simp
        refine COK.write (w.setRow g (cur.toList.take (j * m.sz + off) ++ (a.eval v).cells.toList ++ cur.toList.drop (j * m.sz + off + (a.eval v).cells.toList.length)).toArray) ?_ ?_ rfl ?_
        · simp only [execOp, ho, hp', Instr.storeAt, Instr.sureAddr, storeVar, Sem.run_bind, Sem.run_pure, Result.andThen_ok, sizeOf, typeInfo, run_program, hi]
          simp [hsz, hst]
        · refine ⟨rfl, rfl, rfl, by simp, fun k _ hne => setRow_other w _ k _ fun e => hne (by rw [e]; simp [blkNo, hv', Value.ownBlock])⟩
        · intro mem' hm'
          have hcl : cur.toList.length = cap * m.sz := by simpa using hcs
          have hxl : xs.length = m.len * m.sz := hown.1
          refine ⟨xs.take (j * m.sz + off) ++ (a.eval v).cells.toList ++ xs.drop (j * m.sz + off + (a.eval v).cells.toList.length), ?_, ?_⟩
          · rw [k2, k3]
            refine ⟨by simp; omega, .inr ⟨g, cap, _, hv', hb, setRow_heap w _ _ _ _ _ hgh, hnc, hcm, by simp; omega, ?_⟩⟩
            simp only
            rw [← htk]
            exact take_splice _ _ _ _ (by simp at h6 ⊢; omega) (by rw [hcl]; exact hb2)
          · intro q hq
            rw [k2] at hq
            intro jj c hjj
            rw [k3]
            by_cases hqj : q = j
            · subst hqj
              rw [k4 hj] at hjj
              have hrr : CsR E (m.at q) ((xs.drop (q * m.sz)).take m.sz) := ⟨by simp [SL.at_len]; omega, fun i' c' hi' => by
                obtain ⟨y, h7, h8⟩ := hrow q hq i' c' hi'
                have := SL.at_lt hi'
                exact ⟨y, by rw [List.getElem?_take, if_pos this, List.getElem?_drop]; exact h7, h8⟩⟩
              obtain ⟨y, h7, h8⟩ := (hrr.splice h5 off).get jj c hjj
              refine ⟨y, ?_, h8⟩
              have hjl : jj < m.sz := by
                have := (List.getElem?_eq_some_iff.1 hjj).1
                simp only [splice, List.length_append, List.length_take, List.length_drop, SL.at_len] at this
                omega
              rw [← h7]
              exact row_splice xs _ (q * m.sz) off m.sz jj (by omega) (by simp at h6 ⊢; omega) hjl
            · rw [k5 q hqj] at hjj
              obtain ⟨y, h7, h8⟩ := hrow q hq jj c hjj
              refine ⟨y, ?_, h8⟩
              rw [← h7]
              have hjl : jj < m.sz := SL.at_lt hjj
              rcases Nat.lt_or_gt_of_ne hqj with hlt | hgt
              · have : (q + 1) * m.sz ≤ j * m.sz := Nat.mul_le_mul_right _ hlt
                rw [Nat.add_mul, Nat.one_mul] at this
                rw [List.append_assoc, List.getElem?_append_left (by simp; omega), List.getElem?_take, if_pos (by omega)]
              · have h9 : (j + 1) * m.sz ≤ q * m.sz := Nat.mul_le_mul_right _ hgt
                rw [Nat.add_mul, Nat.one_mul] at h9
                rw [List.getElem?_append_right (by simp; simp at h6; omega), List.getElem?_drop]
                congr 1
                simp at h6 ⊢
                omega
      · cases hc
    · cases hc
  · rename_i id off n j y T' cs i hx hv hi
    obtain ⟨h1, _⟩ := rdOp_sound h hg hx
    obtain ⟨h3, h4⟩ := rdOp_sound h hg hv
    have hid : ids = [id] := by rw [← hp]; simp [plan, ho, hx]
    subst hid
    obtain ⟨r, hr, hh⟩ := contOf_one hg hct
    simp at hr; subst hr
    split at hc
    · rename_i l hl
      split at hc
      · rename_i hlen
        obtain ⟨e1, hi0, hin⟩ := (show CR E (.aref id off n j) (a.eval x) from h1)
        simp at hc; subst hc
        rw [splice_num hl hlen.1 hi0 hin]
        refine store_blk (u := .one (.int .i64 y)) h ho hi (h.mem id _ hh) e1 h3 h4 ⟨hlen.2.symm, ?_⟩
        have := (List.getElem?_eq_some_iff.1 (num_at hl hlen.1 hi0 hin)).1
        omega
      · cases hc
    · cases hc
  · cases hc

theorem core_nilCheck (h : RelE we E σ a w) (hg : Holds a gs) {x : Operand} (ho : o.op = .nilCheck x) (hc : core P ctrs o (rdOp σ.tmps) gs self ids cont = some out) : COK P we E σ.mem a w o self ids cont out := by
  simp only [core, ho] at hc
  split at hc
  · rename_i id off hx
    simp only [one, pureOut, Option.some.injEq] at hc
    subst hc
    obtain ⟨h1, h2⟩ := rdOp_sound h hg hx
    refine COK.pure h1 h2 ?_
    have e1 : a.eval x = .pointer (some ⟨E.β id, off, none⟩) := h1
    simp [execOp, ho, e1]
  · rename_i id sz i off hx
    simp only [one, pureOut, Option.some.injEq] at hc
    subst hc
    obtain ⟨h1, h2⟩ := rdOp_sound h hg hx
    refine COK.pure h1 h2 ?_
    obtain ⟨ad, len, cap, _, e1⟩ : ∃ ad len cap, E.γ id = .slice (some ad) len cap ∧ a.eval x = .pointer (some (ad.add (i * sz + off))) := h1
    simp [execOp, ho, e1]
  · rename_i m i off hx
    simp only [one, pureOut, Option.some.injEq] at hc
    subst hc
    obtain ⟨h1, h2⟩ := rdOp_sound h hg hx
    refine COK.pure h1 h2 ?_
    obtain ⟨ad, e1, _⟩ : ∃ ad : Addr, a.eval x = .pointer (some (ad.add (i * m.sz + off))) ∧ SAt (CRd 3 E) E m ad i := h1
    simp [execOp, ho, e1]
  · cases hc

theorem core_unOp (h : RelE we E σ a w) (hg : Holds a gs) {op : UnOp} {T : TypeId} {x : Operand} (ho : o.op = .unOp op T x) (hc : core P ctrs o (rdOp σ.tmps) gs self ids cont = some out) : COK P we E σ.mem a w o self ids cont out := by
  simp only [core, ho] at hc
  split at hc
  · rename_i k n hx
    simp only [one, pureOut, Option.some.injEq] at hc
    subst hc
    have e1 : a.eval x = .int k n := (rdOp_sound h hg hx).1
    refine COK.int ?_
    simp [execOp, ho, e1, Op.unary, Op.intArith]
  · rename_i b hx
    simp only [one, pureOut, Option.some.injEq] at hc
    subst hc
    have e1 : a.eval x = .bool b := (rdOp_sound h hg hx).1
    refine COK.bool ?_
    simp [execOp, ho, e1, Op.unary]
  · rename_i k n hx
    simp only [one, pureOut, Option.some.injEq] at hc
    subst hc
    have e1 : a.eval x = .int k n := (rdOp_sound h hg hx).1
    refine COK.int ?_
    simp [execOp, ho, e1, Op.unary, Op.intBits]
  · cases hc

theorem core_fieldAddr (h : RelE we E σ a w) (hg : Holds a gs) {S : TypeId} {x : Operand} {f : Nat} (ho : o.op = .fieldAddr S x f) (hc : core P ctrs o (rdOp σ.tmps) gs self ids cont = some out) : COK P we E σ.mem a w o self ids cont out := by
  simp only [core, ho] at hc
  split at hc
  · rename_i fs hfs
    have hu := fieldsOf_spec hfs
    split at hc
    · rename_i fd hfd
      split at hc
      · cases hc
      · rename_i hne
        obtain ⟨i, hi, hsz⟩ := info_of_cells hne
        have hpl := fun ad => run_fieldPlace hi (by omega) ad w
        have hrun : ∀ ad : Addr, a.eval x = .pointer (some ad) → (execOp a.eval o).run P w = .ok (.value (.pointer (some (ad.add fd.offset)))) w := fun ad e1 => by
          simp [execOp, ho, e1, Instr.fieldAt, run_underlying hu, hfd, Instr.sureAddr, hpl]
        split at hc
        · rename_i id off hx
          simp only [one, pureOut, Option.some.injEq] at hc
          subst hc
          obtain ⟨h1, h2⟩ := rdOp_sound h hg hx
          have e1 : a.eval x = .pointer (some ⟨E.β id, off, none⟩) := h1
          refine COK.pure (v := .fv (.one (.ref id (off + fd.offset)))) (x := .pointer (some ⟨E.β id, off + fd.offset, none⟩)) rfl (fits_one (c := .ref id _) (show Live σ.mem id from of_fits_one (c := .ref id off) h2)) ?_
          rw [hrun _ e1, add_lit]
        · rename_i m j off hx
          simp only [one, pureOut, Option.some.injEq] at hc
          subst hc
          obtain ⟨h1, h2⟩ := rdOp_sound h hg hx
          obtain ⟨ad, e1, h3⟩ := (show CR E (.rp m j off) (a.eval x) from h1)
          refine COK.pure (v := .fv (.one (.rp m j (off + fd.offset)))) ⟨ad, rfl, h3⟩ (fits_one (c := .rp _ _ _) trivial) ?_
          rw [hrun _ e1, add_add, Nat.add_assoc]
        · rename_i id sz j off hx
          simp only [one, pureOut, Option.some.injEq] at hc
          subst hc
          obtain ⟨h1, h2⟩ := rdOp_sound h hg hx
          obtain ⟨ad, len, cap, h3, e1⟩ := (show CR E (.orp id sz j off) (a.eval x) from h1)
          refine COK.pure (v := .fv (.one (.orp id sz j (off + fd.offset)))) ⟨ad, len, cap, h3, rfl⟩ (fits_one (c := .orp id _ _ _) (show Live σ.mem id from of_fits_one (c := .orp id sz j off) h2)) ?_
          rw [hrun _ e1, add_add, Nat.add_assoc]
        · cases hc
    · cases hc
  · cases hc

theorem core_field (h : RelE we E σ a w) (hg : Holds a gs) {T : TypeId} {x : Operand} {f : Nat} (ho : o.op = .field T x f) (hc : core P ctrs o (rdOp σ.tmps) gs self ids cont = some out) : COK P we E σ.mem a w o self ids cont out := by
  simp only [core, ho] at hc
  split at hc
  · rename_i fs cs hfs hx
    have hu := fieldsOf_spec hfs
    obtain ⟨h1, h2⟩ := rdOp_sound h hg hx
    obtain ⟨xs, e1, hcs⟩ := (show FR E (.agg cs) (a.eval x) from h1)
    split at hc
    · rename_i fd hfd
      split at hc
      · rename_i v hv
        simp only [pureOut, Option.some.injEq] at hc
        subst hc
        obtain ⟨y, h3, h4⟩ := part_sound (P := P) (w := w) hcs hv
        refine COK.pure (v := .fv v) h4 (fun c hcm => h2 c (partOf_cells hv c hcm)) ?_
        simp [execOp, ho, e1, Instr.field, run_underlying hu, hfd, asAgg, h3]
      · cases hc
    · cases hc
  · cases hc

theorem core_extract (h : RelE we E σ a w) (hg : Holds a gs) {x : Operand} {k : Nat} (ho : o.op = .extract x k) (hc : core P ctrs o (rdOp σ.tmps) gs self ids cont = some out) : COK P we E σ.mem a w o self ids cont out := by
  simp only [core, ho] at hc
  split at hc
  · rename_i l hx
    obtain ⟨h1, h2⟩ := rdOp_sound h hg hx
    obtain ⟨xs, e1, hl, hxs⟩ := (show PR E (.tup l) (a.eval x) from h1)
    split at hc
    · rename_i v hv
      simp only [pureOut, Option.some.injEq] at hc
      subst hc
      obtain ⟨y, h3, h4⟩ := hxs k v hv
      refine COK.pure (v := .fv v) h4 (fun c hcm => h2 c ?_) ?_
      · simp only [PV.cells, List.mem_flatMap]
        exact ⟨v, List.mem_of_getElem? hv, hcm⟩
      · simp [execOp, ho, e1, Instr.extract, h3]
    · cases hc
  · cases hc

theorem fvsOf_eq : ∀ {vs : List PV} {l : List FV}, fvsOf vs = some l → vs = l.map .fv
  | [], l, h => by simp only [fvsOf, Option.some.injEq] at h; subst h; rfl
  | v :: vs, l, h => by
    cases v with
    | fv v =>
      simp only [fvsOf] at h
      split at h
      · rename_i l' h1
        simp at h; subst h
        rw [fvsOf_eq h1]; rfl
      · cases h
    | tup _ => cases h
    | clo _ _ => cases h
    | isn _ => cases h
theorem core_makeFunc (h : RelE we E σ a w) (hg : Holds a gs) {fn : Fn} {first captured : Array Operand} (ho : o.op = .makeFunc fn first captured) (hc : core P ctrs o (rdOp σ.tmps) gs self ids cont = some out) : COK P we E σ.mem a w o self ids cont out := by
  simp only [core, ho] at hc
  split at hc
  · rename_i f vs hf hvs
    split at hc
    · rename_i l hl
      simp only [pureOut, Option.some.injEq] at hc
      subst hc
      have hps := mapOps_sound h hg hvs
      rw [fvsOf_eq hl] at hps
      have hfirst : first = #[] := Array.ext' hf
      have hget : ∀ (j : Nat) (v : FV), l[j]? = some v → (∃ y, (captured.toList.map a.eval)[j]? = some y ∧ FR E v y) ∧ Fits σ.mem (.fv v) := fun j v hj => hps.get j (.fv v) (by rw [List.getElem?_map, hj]; rfl)
      refine COK.pure (v := .clo f l) (x := .func (.func f) #[] (captured.toList.map a.eval).toArray) ⟨captured.toList.map a.eval, rfl, by have := hps.len; simpa using this, fun j v hj => (hget j v hj).1⟩ (fun c hcm => ?_) ?_
      · simp only [PV.cells, List.mem_flatMap] at hcm
        obtain ⟨v, hv, hcv⟩ := hcm
        obtain ⟨j, hj, rfl⟩ := List.getElem_of_mem hv
        exact (hget j _ (List.getElem?_eq_getElem hj)).2 c hcv
      · have hcap : captured.map a.eval = (captured.toList.map a.eval).toArray := Array.ext' (by simp)
        simp [execOp, ho, hfirst, Instr.makeFunc, hcap]
    · cases hc
  · cases hc

theorem core_slice (h : RelE we E σ a w) (hg : Holds a gs) {T : TypeId} {x : Operand} {lo hi mx : Option Operand} (ho : o.op = .slice T x lo hi mx) (hc : core P ctrs o (rdOp σ.tmps) gs self ids cont = some out) (hn : Conj out.need) : COK P we E σ.mem a w o self ids cont out := by
  simp only [core, ho] at hc
  split at hc
  · rename_i e nw m k n hel hx hy
    obtain ⟨y, rfl, hy⟩ := Option.bind_eq_some_iff.1 hy
    split at hc
    · rename_i hinf
      simp only [one, Option.some.injEq] at hc; subst hc
      obtain ⟨hn0, hn1⟩ := hn.1
      obtain ⟨inf, hinf⟩ := Option.isSome_iff_exists.1 hinf
      have hu : P.underlying T = some (.slice e) := by
        unfold elemOf at hel
        split at hel
        · simp at hel; subst hel; assumption
        · cases hel
      obtain ⟨h1, _⟩ := rdOp_sound h hg hx
      have e2 : a.eval y = .int k n := (rdOp_sound h hg hy).1
      have hlen : (⟨m.k, m.l.take n.toNat⟩ : SL).len = n.toNat := by simp [SL.len] at hn1 ⊢; omega
      have hat : ∀ i, i < n.toNat → (⟨m.k, m.l.take n.toNat⟩ : SL).at i = m.at i := fun i hi => by
        unfold SL.at
        simp [List.getD, hi]
      rcases (show CR E (.slc nw m) (a.eval x) from h1) with ⟨ex, h0⟩ | ⟨ad, cap, ex, hml, hel⟩
      · have hz : n = 0 := by omega
        subst hz
        refine COK.pure (v := .fv (.one (.slc nw ⟨m.k, m.l.take (0 : Int).toNat⟩))) (x := .slice none 0 0) (.inl ⟨rfl, by rw [hlen]; rfl⟩) (fits_one (c := .slc nw _) trivial) ?_
        simp [execOp, ho, ex, e2, Instr.sliceAt, Instr.slice, Instr.sliceBounds, Instr.sliceBound, asIntOf, run_underlying hu, run_sizeOf hinf]
      · refine COK.pure (v := .fv (.one (.slc nw ⟨m.k, m.l.take n.toNat⟩))) (x := .slice (some ad) n.toNat cap) (.inr ⟨ad, cap, by rw [hlen], ⟨by omega, by omega⟩, fun i hi => ?_⟩) (fits_one (c := .slc nw _) trivial) ?_
        · rw [hlen] at hi
          obtain ⟨h3, h4⟩ := hel i (by omega)
          exact ⟨h3, fun j c hj => by rw [hat i hi] at hj; exact h4 j c hj⟩
        · have hle : n ≤ (cap : Int) := by omega
          have ha0 : ∀ q : Nat, ad.add (0 * q) = ad := fun q => by unfold Addr.add; simp
          simp [execOp, ho, ex, e2, Instr.sliceAt, Instr.slice, Instr.sliceBounds, Instr.sliceBound, asIntOf, run_underlying hu, run_sizeOf hinf, hn0, hle]
          intro _
          unfold Addr.add; simp
    · cases hc
  · cases hc

theorem idxNeed_sound {i : Int} {n : Nat} (h : Conj (idxNeed i n)) : 0 ≤ i ∧ i < n := by
  unfold idxNeed at h
  split at h
  · rename_i hd; exact of_decide_eq_true hd
  · exact h.1.elim

theorem core_indexAddr (h : RelE we E σ a w) (hg : Holds a gs) {T : TypeId} {x ix : Operand} (ho : o.op = .indexAddr T x ix) (hp : plan o (rdOp σ.tmps gs) = ids) (hct : contOf gs σ.mem ids = some cont)
    (hc : core P ctrs o (rdOp σ.tmps) gs self ids cont = some out) (hn : Conj out.need) : COK P we E σ.mem a w o self ids cont out := by
  simp only [core, ho] at hc
  split at hc
  · rename_i n e id off k i hu hx hi
    split at hc
    · rename_i hinf
      obtain ⟨h1, h2⟩ := rdOp_sound h hg hx
      have e1 : a.eval x = .pointer (some ⟨E.β id, off, none⟩) := h1
      have e2 : a.eval ix = .int k i := (rdOp_sound h hg hi).1
      obtain ⟨inf, hinf⟩ := Option.isSome_iff_exists.1 hinf
      split at hc
      · simp only [one, Option.some.injEq] at hc; subst hc
        obtain ⟨hi0, hin⟩ := idxNeed_sound hn
        refine COK.pure (v := .fv (.one (.ref id _))) (x := .pointer (some ⟨E.β id, off + i.toNat * P.cellsOf e, none⟩)) rfl (fits_one (c := .ref id _) (show Live σ.mem id from of_fits_one (c := .ref id off) h2)) ?_
        simp [execOp, ho, e1, e2, Instr.indexAt, asIntOf, run_underlying hu, Instr.sureAddr, hi0, hin, run_sizeOf hinf, add_lit]
      · split at hc
        · rename_i hone
          simp only [one, Option.some.injEq] at hc; subst hc
          obtain ⟨hi0, hin⟩ := hn.1
          refine COK.pure (v := .fv (.one (.aref id off n i))) (x := .pointer (some ⟨E.β id, off + i.toNat, none⟩)) ⟨rfl, hi0, hin⟩ (fits_one (c := .aref id off n i) (show Live σ.mem id from of_fits_one (c := .ref id off) h2)) ?_
          simp [execOp, ho, e1, e2, Instr.indexAt, asIntOf, run_underlying hu, Instr.sureAddr, hi0, hin, run_sizeOf hinf, add_lit, hone]
        · cases hc
    · cases hc
  · rename_i e nw m k i hu hx hi
    split at hc
    · rename_i hinf
      obtain ⟨hsz, hinf⟩ := hinf
      simp only [one, Option.some.injEq] at hc; subst hc
      obtain ⟨h1, h2⟩ := rdOp_sound h hg hx
      have e2 : a.eval ix = .int k i := (rdOp_sound h hg hi).1
      obtain ⟨hi0, hin⟩ := hn.1
      obtain ⟨inf, hinf⟩ := Option.isSome_iff_exists.1 hinf
      rcases lim_slc (show CR E (.slc nw m) (a.eval x) from h1) with ⟨_, h0⟩ | ⟨ad, cap, e1, _, hcs⟩
      · omega
      · refine COK.pure (v := .fv (.one (.rp m i.toNat 0))) (x := .pointer (some (ad.add (i.toNat * m.sz + 0)))) ⟨ad, rfl, hcs i.toNat (by omega)⟩ (fits_one (c := .rp _ _ _) trivial) ?_
        simp [execOp, ho, e1, e2, Instr.indexAt, asIntOf, run_underlying hu, hi0, hin, run_sizeOf hinf, hsz]
    · cases hc
  · rename_i e id k i hu hx hi
    split at hc
    · rename_i e' m
      split at hc
      · rename_i hinf
        obtain ⟨hsz, hinf⟩ := hinf
        simp only [one, Option.some.injEq] at hc; subst hc
        obtain ⟨h1, h2⟩ := rdOp_sound h hg hx
        have e2 : a.eval ix = .int k i := (rdOp_sound h hg hi).1
        obtain ⟨hi0, hin⟩ := hn.1
        obtain ⟨inf, hinf⟩ := Option.isSome_iff_exists.1 hinf
        have hid : ids = [id] := by rw [← hp]; simp [plan, ho, hx]
        subst hid
        obtain ⟨r, hr, hh⟩ := contOf_one hg hct
        simp at hr; subst hr
        obtain ⟨xs, hown, _⟩ := h.mem id _ hh
        rcases hown.2 with ⟨_, h0⟩ | ⟨g, cap, cur, hv, _⟩
        · omega
        · have e1 : a.eval x = .slice (some ⟨g, 0, none⟩) m.len cap := (show CR E (.own id) (a.eval x) from h1).1.trans hv
          refine COK.pure (v := .fv (.one (.orp id m.sz i.toNat 0))) ⟨_, _, _, hv, rfl⟩ (fits_one (c := .orp id _ _ _) (show Live σ.mem id from of_fits_one (c := .own id) h2)) ?_
          simp [execOp, ho, e1, e2, Instr.indexAt, asIntOf, run_underlying hu, hi0, hin, run_sizeOf hinf, hsz]
      · cases hc
    · cases hc
  · cases hc

theorem core_index (h : RelE we E σ a w) (hg : Holds a gs) {T : TypeId} {x ix : Operand} (ho : o.op = .index T x ix)
    (hc : core P ctrs o (rdOp σ.tmps) gs self ids cont = some out) (hn : Conj out.need) : COK P we E σ.mem a w o self ids cont out := by
  simp only [core, ho] at hc
  split at hc
  · rename_i n e cs k i hu hx hi
    split at hc
    · cases hc
    · rename_i hinf
      obtain ⟨h1, h2⟩ := rdOp_sound h hg hx
      obtain ⟨xs, e1, hcs⟩ := (show FR E (.agg cs) (a.eval x) from h1)
      have e2 : a.eval ix = .int k i := (rdOp_sound h hg hi).1
      obtain ⟨inf, hinf⟩ := Option.isSome_iff_exists.1 (show (P.info? e).isSome = true by revert hinf; cases P.info? e <;> simp)
      split at hc
      · split at hc
        · rename_i v hv
          simp only [Option.some.injEq] at hc
          subst hc
          obtain ⟨hi0, hin⟩ := idxNeed_sound hn
          obtain ⟨y, h3, h4⟩ := part_sound (P := P) (w := w) hcs hv
          refine COK.pure (v := .fv v) h4 (fun c hcm => h2 c (partOf_cells hv c hcm)) ?_
          simp [execOp, ho, e1, e2, Instr.index, asIntOf, run_underlying hu, hi0, hin, run_sizeOf hinf, h3]
        · cases hc
      · split at hc
        · rename_i l c0 hl hv
          split at hc
          · rename_i hh
            obtain ⟨hone, hln, hagg⟩ := hh
            simp only [one, Option.some.injEq] at hc
            subst hc
            obtain ⟨hi0, hin⟩ := hn.1
            have hl' : i64s ((cs.drop 0).take n) = some l := by
              have := congrArg List.length (i64s_eq hl)
              simp at this
              rw [List.drop_zero, List.take_of_length_le (by omega)]
              exact hl
            have hpn := part_num hv hl' hln hagg hi0 hin
            obtain ⟨y, h3, h4⟩ := part_sound (P := P) (w := w) hcs hpn
            refine COK.pure (v := .fv (.one _)) h4 (fun c hcm => h2 c (partOf_cells hpn c hcm)) ?_
            rw [Nat.zero_add] at h3
            simp [execOp, ho, e1, e2, Instr.index, asIntOf, run_underlying hu, hi0, hin, run_sizeOf hinf, hone, h3]
          · cases hc
        · cases hc
  · cases hc

/-! ### '==' -/

theorem eqFields_sound {eq : TypeId → FV → FV → Option Bool} {d : Nat} (heq : ∀ t u v b x y, eq t u v = some b → FR E u x → FR E v y → (Op.equalIn d t x y).run P w = .ok b w) {xs ys : List Cell} {us vs : List Value} (hx : CsR E xs us) (hy : CsR E ys vs) : ∀ {fs : List Field} {b : Bool}, eqFields P eq xs ys fs = some b →
    (Op.eqFields d us.toArray vs.toArray fs).run P w = .ok b w
  | [], b, h => by
    simp only [eqFields, Option.some.injEq] at h
    subst h
    rfl
  | f :: fs, b, h => by
    simp only [eqFields] at h
    split at h
    · cases h
    · rename_i hname
      split at h
      · rename_i u v hu hv
        split at h
        · rename_i b1 r h1 h2
          simp at h; subst h
          obtain ⟨p, hp, hpr⟩ := part_sound (P := P) (w := w) hx hu
          obtain ⟨q, hq, hqr⟩ := part_sound (P := P) (w := w) hy hv
          have ih := eqFields_sound heq hx hy h2
          have he := heq _ _ _ _ _ _ h1 hpr hqr
          simp only [Op.eqFields]
          rw [if_pos hname]
          simp only [Sem.run_bind, hp, hq, he, Result.andThen_ok]
          cases b1 with
          | true => simpa using ih
          | false => simp
        · cases h
      · cases h

theorem eqElems_sound {eq : TypeId → FV → FV → Option Bool} {d : Nat} (heq : ∀ t u v b x y, eq t u v = some b → FR E u x → FR E v y → (Op.equalIn d t x y).run P w = .ok b w) {e sz : Nat} {xs ys : List Cell} {us vs : List Value} (hx : CsR E xs us) (hy : CsR E ys vs) : ∀ {is : List Nat} {b : Bool}, eqElems P eq e sz xs ys is = some b →
    ((forIn is ((none, ()) : Option Bool × Unit) fun i _ => do
        let u ← part e us.toArray (i * sz)
        let v ← part e vs.toArray (i * sz)
        let r ← Op.equalIn d e u v
        if (!r) = true then pure (ForInStep.done (some false, ())) else pure (ForInStep.yield (none, ())) : Sem (Option Bool × Unit)).run P w) = .ok (if b then none else some false, ()) w
  | [], b, h => by
    simp only [eqElems, Option.some.injEq] at h
    subst h
    rfl
  | i :: is, b, h => by
    simp only [eqElems] at h
    split at h
    · rename_i u v hu hv
      split at h
      · rename_i b1 r h1 h2
        simp at h; subst h
        obtain ⟨p, hp, hpr⟩ := part_sound (P := P) (w := w) hx hu
        obtain ⟨q, hq, hqr⟩ := part_sound (P := P) (w := w) hy hv
        have ih := eqElems_sound heq hx hy h2
        have he := heq _ _ _ _ _ _ h1 hpr hqr
        simp only [List.forIn_cons, Sem.run_bind, hp, hq, he, Result.andThen_ok]
        cases b1 with
        | true => simpa using ih
        | false => simp
      · cases h
    · cases h

theorem eqF_sound : ∀ (d : Nat) (D : Nat), d ≤ D → ∀ (t : TypeId) (u v : FV) (b : Bool) (x y : Value), eqF P d t u v = some b → FR E u x → FR E v y → (Op.equalIn D t x y).run P w = .ok b w
  | 0, _, _, t, u, v, b, x, y, h, _, _ => by cases h
  | d + 1, 0, hD, _, _, _, _, _, _, _, _, _ => absurd hD (by omega)
  | d + 1, D + 1, hD, t, u, v, b, x, y, h, hux, hvy => by
    have ih := eqF_sound d D (by omega)
    unfold eqF at h
    split at h
    · rename_i hu
      simp only [Option.some.injEq] at h
      subst h
      rw [show x = .bool _ from hux, show y = .bool _ from hvy]
      simp [Op.equalIn, run_underlying hu]
    · rename_i hu
      split at h
      · rename_i hk
        simp only [Option.some.injEq] at h
        subst h
        subst hk
        rw [show x = .int _ _ from hux, show y = .int _ _ from hvy]
        simp [Op.equalIn, run_underlying hu]
      · cases h
    · rename_i fs xs ys hu
      obtain ⟨us, rfl, hus⟩ := hux
      obtain ⟨vs, rfl, hvs⟩ := hvy
      split at h
      · cases h
      · rename_i hst
        have hf : P.fieldsOf t = fs := by unfold Program.fieldsOf; rw [hu]
        have := run_equalIn_struct (P := P) w D t us.toArray vs.toArray (by rw [hf]; exact hu) (by simpa using hst)
        rw [hf] at this
        rw [this]
        exact eqFields_sound ih hus hvs h
    · rename_i n e xs ys hu
      obtain ⟨us, rfl, hus⟩ := hux
      obtain ⟨vs, rfl, hvs⟩ := hvy
      split at h
      · rename_i i hi
        have hsz : P.cellsOf e = i.size := by simp [Program.cellsOf, hi]
        simp only [Op.equalIn, Sem.run_bind, run_underlying hu, Result.andThen_ok, run_sizeOf hi, hsz]
        have hel := eqElems_sound (P := P) (w := w) ih hus hvs h
        simp only [Std.Legacy.Range.forIn_eq_forIn_range', Std.Legacy.Range.size, Nat.sub_zero, Nat.add_sub_cancel, Nat.div_one, hel, Result.andThen_ok]
        cases b <;> rfl
      · cases h
    · cases h

/-! ### arithmetic and comparison -/

theorem rightNeed_sound {op : BinOp} {y : Operand} {k : IntKind} {b : Int} (hy : a.eval y = .int k b) (h : Conj (rightNeed op y b)) :
    ((op = .quo ∨ op = .rem) → b ≠ 0) ∧ ((op = .shl ∨ op = .shr) → ¬ b < 0) := by
  have hconst : ∀ k' n, y = .const (.int k' n) → n = b := by
    intro k' n e
    subst e
    have : (Value.int k' n) = .int k b := hy
    simpa using (Value.int.inj this).2
  unfold rightNeed at h
  split at h <;> (try split at h) <;> (try split at h) <;> simp_all [Conj] <;> omega

theorem run_eqGuard_int (op : BinOp) (T : TypeId) (x y : Operand) (k k' : IntKind) (m n : Int) : (eqGuard op T x y (.int k m) (.int k' n)).run P w = .ok () w := by
  cases op <;> simp [eqGuard]

theorem intBin_sound {op : BinOp} {T : TypeId} {k : IntKind} {m n : Int} {c : Cell} (h : intBin op k m n = some c) (h0 : (op = .quo ∨ op = .rem) → n ≠ 0) :
    (∃ q r, c = .int q r ∧ (binOp op T (.int k m) (.int k n)).run P w = .ok (.int q r) w) ∨ ∃ r, c = .bool r ∧ (binOp op T (.int k m) (.int k n)).run P w = .ok (.bool r) w := by
  cases op <;> simp only [intBin, Option.some.injEq, reduceCtorEq] at h <;> subst h <;> first
    | refine .inl ⟨_, _, rfl, ?_⟩
    | refine .inr ⟨_, rfl, ?_⟩
  all_goals simp [binOp, Op.intArith, Op.intDiv, Op.intBits, Op.intCmp]
  all_goals simp_all

theorem run_eqGuard_fv {op : BinOp} {T : TypeId} {x y : Operand} {u v : FV} {d : Nat} {b : Bool} {p q : Value} (h : eqF P (d + 1) T u v = some b) (hp : FR E u p) (hq : FR E v q) (hm : P.eqGuardType P.depth T = false) : (eqGuard op T x y p q).run P w = .ok () w := by
  unfold eqF at h
  split at h
  · rw [show p = .bool _ from hp, show q = .bool _ from hq]
    cases op <;> simp [eqGuard]
  · rw [show p = .int _ _ from hp, show q = .int _ _ from hq]
    exact run_eqGuard_int op T x y _ _ _ _
  · obtain ⟨us, rfl, _⟩ := hp
    obtain ⟨vs, rfl, _⟩ := hq
    exact run_eqGuard_agg w op T x y _ _ hm
  · obtain ⟨us, rfl, _⟩ := hp
    obtain ⟨vs, rfl, _⟩ := hq
    exact run_eqGuard_agg w op T x y _ _ hm
  · cases h

theorem run_binOp_fv {T : TypeId} {u v : FV} {d : Nat} {b : Bool} {p q : Value} (hd : d + 1 ≤ 10000) (h : eqF P (d + 1) T u v = some b) (hp : FR E u p) (hq : FR E v q) :
    (binOp .eql T p q).run P w = .ok (.bool b) w ∧ (binOp .neq T p q).run P w = .ok (.bool (!b)) w := by
  have he := eqF_sound (P := P) (E := E) (w := w) (d + 1) 10000 hd T u v b p q h hp hq
  unfold eqF at h
  split at h
  · rw [show p = .bool _ from hp, show q = .bool _ from hq] at he ⊢
    constructor <;> simp [binOp, Op.equal, Op.maxDepth, he]
  · rename_i k a k' c hu
    rw [show p = .int _ _ from hp, show q = .int _ _ from hq]
    split at h
    · rename_i hk
      subst hk
      simp at h; subst h
      constructor
      · simp [binOp, Op.intCmp]
      · simp [binOp, Op.intCmp, bne]
    · cases h
  · obtain ⟨us, rfl, _⟩ := hp
    obtain ⟨vs, rfl, _⟩ := hq
    constructor <;> simp [binOp, Op.equal, Op.maxDepth, he]
  · obtain ⟨us, rfl, _⟩ := hp
    obtain ⟨vs, rfl, _⟩ := hq
    constructor <;> simp [binOp, Op.equal, Op.maxDepth, he]
  · cases h

theorem core_binOp (h : RelE we E σ a w) (hg : Holds a gs) {op : BinOp} {T T' : TypeId} {x y : Operand} (ho : o.op = .binOp op T x y T') (hc : core P ctrs o (rdOp σ.tmps) gs self ids cont = some out) (hn : Conj out.need) : COK P we E σ.mem a w o self ids cont out := by
  simp only [core, ho] at hc
  split at hc
  · rename_i k m k' n hx hy
    have e1 : a.eval x = .int k m := (rdOp_sound h hg hx).1
    have e2 : a.eval y = .int k' n := (rdOp_sound h hg hy).1
    have hgd := fun op => run_eqGuard_int (P := P) (w := w) op T x y k k' m n
    split at hc
    · simp only [one, Option.some.injEq] at hc
      subst hc
      obtain ⟨_, r2⟩ := rightNeed_sound (op := .shl) e2 hn
      refine COK.int ?_
      simp [execOp, ho, e1, e2, hgd, binOp, Op.shift, r2 (.inl rfl)]
    · simp only [one, Option.some.injEq] at hc
      subst hc
      obtain ⟨_, r2⟩ := rightNeed_sound (op := .shr) e2 hn
      refine COK.int ?_
      simp [execOp, ho, e1, e2, hgd, binOp, Op.shift, r2 (.inr rfl)]
    · split at hc
      · rename_i hk
        subst hk
        split at hc
        · rename_i c hcb
          simp only [one, Option.some.injEq] at hc
          subst hc
          obtain ⟨r1, _⟩ := rightNeed_sound e2 hn
          rcases intBin_sound (P := P) (w := w) (T := T) hcb r1 with ⟨q, r, rfl, hr⟩ | ⟨r, rfl, hr⟩
          · refine COK.int ?_
            simp [execOp, ho, e1, e2, hgd, hr]
          · refine COK.bool ?_
            simp [execOp, ho, e1, e2, hgd, hr]
        · cases hc
      · cases hc
  · rename_i nw m v hx hy
    obtain ⟨h1, _⟩ := rdOp_sound h hg hx
    obtain ⟨h2, _⟩ := rdOp_sound h hg hy
    have e2 : a.eval y = v := (show CR E (.raw v) (a.eval y) from h2).1
    split at hc
    · rename_i e hu
      split at hc
      · rename_i hnil
        simp only [pureOut, Option.some.injEq] at hc
        subst hc
        have hv0 := nilV_eq hnil
        subst hv0
        have hgd : ∀ v, (eqGuard .eql T x y v (.slice none 0 0)).run P w = .ok () w := fun v => by cases v <;> simp [eqGuard]
        rcases lim_slc (show CR E (.slc nw m) (a.eval x) from h1) with ⟨ex, h0⟩ | ⟨ad, cap, ex, _, _⟩
        · refine COK.pure (v := .isn m) (x := .bool true) ⟨true, rfl, fun _ => h0⟩ (fun c hcm => by cases hcm) ?_
          have hr := Lib.run_eql_slice_nil (P := P) w T e none 0 0 0 0 hu
          simp [execOp, ho, ex, e2, hgd, hr]
        · refine COK.pure (v := .isn m) (x := .bool false) ⟨false, rfl, fun hf => by cases hf⟩ (fun c hcm => by cases hcm) ?_
          have hr := Lib.run_eql_slice_nil (P := P) w T e (some ad) m.len cap 0 0 hu
          simp [execOp, ho, ex, e2, hgd, hr]
      · cases hc
    · cases hc
  · rename_i u v hx hy
    have e1 : a.eval x = .string u := (show CR E (.raw (.string u)) (a.eval x) from (rdOp_sound h hg hx).1).1
    have e2 : a.eval y = .string v := (show CR E (.raw (.string v)) (a.eval y) from (rdOp_sound h hg hy).1).1
    split at hc
    · simp only [one, pureOut, Option.some.injEq] at hc
      subst hc
      refine COK.bool ?_
      simp [execOp, ho, e1, e2, eqGuard, binOp, Op.stringOp, strEq]
    · simp only [one, pureOut, Option.some.injEq] at hc
      subst hc
      refine COK.bool ?_
      simp [execOp, ho, e1, e2, eqGuard, binOp, Op.stringOp, strEq]
    · cases hc
  · rename_i u v hne _ _ hx hy
    obtain ⟨h1, _⟩ := rdOp_sound h hg hx
    obtain ⟨h2, _⟩ := rdOp_sound h hg hy
    have h1 : FR E u (a.eval x) := h1
    have h2 : FR E v (a.eval y) := h2
    split at hc
    · cases hc
    · rename_i hm
      have hm' : P.eqGuardType P.depth T = false := by simpa using hm
      split at hc
      · split at hc
        · rename_i b hb
          simp only [one, pureOut, Option.some.injEq] at hc
          subst hc
          refine COK.bool ?_
          have hq := run_eqGuard_fv (E := E) (w := w) (op := .eql) (x := x) (y := y) hb h1 h2 hm'
          have hr := run_binOp_fv (E := E) (w := w) (by omega) hb h1 h2
          simp [execOp, ho, hq, hr.1]
        · cases hc
      · split at hc
        · rename_i b hb
          simp only [one, pureOut, Option.some.injEq] at hc
          subst hc
          refine COK.bool ?_
          have hq := run_eqGuard_fv (E := E) (w := w) (op := .neq) (x := x) (y := y) hb h1 h2 hm'
          have hr := run_binOp_fv (E := E) (w := w) (by omega) hb h1 h2
          simp [execOp, ho, hq, hr.2]
        · cases hc
      · cases hc
  · cases hc
end
end Go.Eng

/- THE ENGINE, PART 30: a slice of the call's own is given up for reading where a loop begins. -/
import Derived.Test.YtfjognghjiifaaaEngLoop
namespace Go.Eng
open Go
def frzT (id : Nat) (m : SL) : TV → TV
  | .val (.fv (.one (.own k))) => bif Nat.beq k id then .val (.fv (.one (.slc true m))) else .val (.fv (.one (.own k)))
  | v => v
/-- What is known once the slice 'id' is only read. -/
def freezeSt (id : Nat) (σ : St) : St :=
  match σ.mem id with
  | .val (.row _ m) => bif m.k.flat then { sz := σ.sz, tmps := fun t => frzT id m (σ.tmps t), next := σ.next, mem := setM σ.mem id .lost } else σ
  | _ => σ
theorem lost_has {mem : Nat → MRes} {tmps : Array Value} {id k : Nat} {r : Res} (h : Has (setM mem id .lost) tmps k r) : id ≠ k := by
  rintro rfl
  unfold Has at h
  rw [setM_self] at h
  rcases h with h | ⟨_, _, h, _⟩ <;> cases h
theorem RelE.freeze {we : World} {E : Env} {σ : St} {a : Act} {w : World} (h : RelE we E σ a w) (id : Nat) : ∃ E', RelE we E' (freezeSt id σ) a w := by
  unfold freezeSt
  split
  · rename_i e m hm
    cases hf : m.k.flat with
    | false => exact ⟨E, h⟩
    | true =>
      obtain ⟨xs, hown, hrow⟩ := h.mem id _ (.inl hm)
      have hlt : ∀ b, (E.γ id).ownBlock = some b → we.heap.size ≤ b ∧ b < w.heap.size := hown.lt
      have he : Ext σ.mem E { E with wf := w, F := fun b => E.F b ∨ (E.γ id).ownBlock = some b } := ⟨fun _ _ => rfl, fun _ _ => rfl, fun b hF => ⟨.inl hF, (h.fz b hF).2⟩, Nat.le_refl _⟩
      have hl : ∀ k, Live σ.mem k → Live (setM σ.mem id .lost) k := Live_set (by simp)
      refine ⟨{ E with wf := w, F := fun b => E.F b ∨ (E.γ id).ownBlock = some b }, ⟨h.defers, h.len, fun t => ?_, h.below, h.n0, fun b hb => .inl (h.f0 b hb), fun b hF => ?_, fun k hk => ?_, fun k r hh => ?_, fun k k' r r' h1 h2 hne b hb => ?_, fun k r hh b hb hF => ?_⟩⟩
      · have ht := (h.tmp t).ext he hl
        show TVRel _ (setM σ.mem id .lost) _ (frzT id m (σ.tmps t)) _
        unfold frzT
        split
        · rename_i k hk
          rw [hk] at ht
          cases hki : Nat.beq k id with
          | false => exact ht
          | true =>
            have hki := Nat.eq_of_beq_eq_true hki
            subst hki
            refine ⟨?_, fun c hc => by simp only [PV.cells, FV.cells, List.mem_singleton] at hc; subst hc; trivial⟩
            have hx : a.tmps.getD t undef = E.γ k := ht.1.1
            rw [hx]
            rcases hown.2 with ⟨h1, h2⟩ | ⟨g, cap, cur, h1, hb, hg, hnc, hcm, hcs, htk⟩
            · exact .inl ⟨h1, h2⟩
            · have hob : (E.γ k).ownBlock = some g := by rw [h1]; rfl
              refine .inr ⟨⟨g, 0, none⟩, cap, h1, ⟨hnc, Nat.le_trans hnc hcm⟩, fun i hi => ⟨⟨.inr hob, by rw [h.n0]; exact hb⟩, fun j c hj => ?_⟩⟩
              obtain ⟨y, h3, h4⟩ := hrow i hi j c hj
              refine ⟨y, ?_, CR_flat (flat_mem hf hj) h4⟩
              show w.cell? _ = _
              rw [add_lit, cell_of_blk hg]
              have hbb : (i + 1) * m.sz ≤ m.len * m.sz := Nat.mul_le_mul_right _ hi
              rw [Nat.add_mul, Nat.one_mul] at hbb
              have := SL.at_lt hj
              rw [← htk, List.getElem?_take, if_pos (by omega)] at h3
              simpa using h3
        · exact ht
      · rcases hF with hF | hF
        · exact ⟨(h.fz b hF).1, rfl⟩
        · exact ⟨(hlt b hF).2, rfl⟩
      · have hne : id ≠ k := by
          rintro rfl
          rw [h.nx _ hk] at hm
          cases hm
        show setM σ.mem id .lost k = .free
        rw [setM_ne _ _ hne]
        exact h.nx k hk
      · have hh' := (Has_set (lost_has hh)).1 hh
        exact (h.mem k r hh').ext he hh'.live hl
      · have h1' := (Has_set (lost_has h1)).1 h1
        have h2' := (Has_set (lost_has h2)).1 h2
        rw [blkNo_ext he h1'.live] at hb
        rw [blkNo_ext he h2'.live]
        exact h.sep k k' r r' h1' h2' hne b hb
      · have hh' := (Has_set (lost_has hh)).1 hh
        rw [blkNo_ext he hh'.live] at hb
        rcases hF with hF | hF
        · exact h.sepF k r hh' b hb hF
        · exact h.sep id k (.row e m) r (.inl hm) hh' (lost_has hh) b hF hb
  · exact ⟨E, h⟩
theorem LoopOk.freeze {P : Program} {T : St → Tree} {body : Code} (id : Nat) (h : LoopOk P T body) : LoopOk P (fun σ => T (freezeSt id σ)) body := fun we K σ a w hs hr => by
  obtain ⟨E, hr⟩ := hr
  obtain ⟨E', hr'⟩ := hr.freeze id
  exact h we K _ a w hs ⟨E', hr'⟩
end Go.Eng

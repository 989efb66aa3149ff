/- THE ENGINE, PART 16: permutations: plain models and laws. -/
import Derived.Test.YtleooijgkdllfaaEngMd
namespace Go.Fx
open Go.Eng
theorem getD_set {α : Type} (l : List α) (i j : Nat) (a d : α) (h : i < l.length) : (l.set i a).getD j d = if i = j then a else l.getD j d := by
  rw [List.getD_eq_getElem?_getD, List.getElem?_set, List.getD_eq_getElem?_getD]
  by_cases e : i = j
  · rw [if_pos e, if_pos e, if_pos h]; rfl
  · rw [if_neg e, if_neg e]
theorem getD_map_range {α : Type} (f : Nat → α) {n i : Nat} (d : α) (h : i < n) : ((List.range' 0 n).map f).getD i d = f i := by simp [List.getD, h]
theorem getD_replicate {α : Type} (a d : α) {n i : Nat} (h : i < n) : (List.replicate n a).getD i d = a := by simp [List.getD, h]
theorem ext_getD {α : Type} {l m : List α} (d : α) (hl : l.length = m.length) (h : ∀ i, i < l.length → l.getD i d = m.getD i d) : l = m := by
  refine List.ext_getElem hl fun i h1 h2 => ?_
  have := h i h1
  rw [List.getD_eq_getElem?_getD, List.getD_eq_getElem?_getD, List.getElem?_eq_getElem h1, List.getElem?_eq_getElem h2] at this
  exact this
theorem foldN_app {α : Type} (f : Nat → α) : ∀ (k i : Nat) (T : List α), foldN (fun i out => out ++ [f i]) k i T = T ++ (List.range' i k).map f
  | 0, _, T => by simp [foldN]
  | k + 1, i, T => by simp only [foldN]; rw [foldN_app f k (i + 1)]; simp [List.range'_succ]
/-- An injection of the numbers below n reaches all of them. -/
theorem php : ∀ (n : Nat) (f : Nat → Nat), (∀ i, i < n → f i < n) → (∀ i j, i < n → j < n → f i = f j → i = j) → ∀ j, j < n → ∃ i, i < n ∧ f i = j
  | 0, _, _, _, j, hj => by omega
  | n + 1, f, hr, hi, j, hj => by
    have hg := php n (fun i => if f i = n then f n else f i) (fun i h => by
      show (if f i = n then f n else f i) < n
      have h1 := hr i (by omega)
      have h2 := hr n (by omega)
      split
      · rename_i e
        have : f n ≠ n := fun e2 => by have := hi i n (by omega) (by omega) (by omega); omega
        omega
      · omega) (fun i k h1 h2 e => by
      have e : (if f i = n then f n else f i) = (if f k = n then f n else f k) := e
      split at e
      · rename_i e1
        split at e
        · rename_i e2
          exact hi i k (by omega) (by omega) (by omega)
        · have := hi n k (by omega) (by omega) (by omega); omega
      · split at e
        · have := hi i n (by omega) (by omega) (by omega); omega
        · exact hi i k (by omega) (by omega) (by omega))
    by_cases hn : f n = j
    · exact ⟨n, by omega, hn⟩
    · by_cases hj' : j = n
      · have h2 := hr n (by omega)
        obtain ⟨i, h3, h4⟩ := hg (f n) (by omega)
        have h4 : (if f i = n then f n else f i) = f n := h4
        split at h4
        · exact ⟨i, by omega, by omega⟩
        · have := hi i n (by omega) (by omega) h4; omega
      · obtain ⟨i, h3, h4⟩ := hg j (by omega)
        have h4 : (if f i = n then f n else f i) = j := h4
        split at h4
        · omega
        · exact ⟨i, by omega, h4⟩

structure IsPm (l : List Int) (n : Nat) : Prop where
  rng : ∀ i, i < l.length → 0 ≤ l.getD i 0 ∧ l.getD i 0 < n
  inj : ∀ i j, i < l.length → j < l.length → l.getD i 0 = l.getD j 0 → i = j

def seenS (l : List Int) (n : Int) (i : Nat) (seen : List Bool) : Sum (List Bool) Unit :=
  bif orr (orr (decide (l.getD i 0 < 0)) (decide (l.getD i 0 ≥ n))) (seen.getD (l.getD i 0).toNat false) then .inr () else .inl (seen.set (l.getD i 0).toNat true)
def isPn (l : List Int) (n : Nat) : Bool := isL (runF (seenS l n) l.length 0 (List.replicate n false))
def isP (l : List Int) : Bool := isPn l l.length
theorem seen_run (l : List Int) (n : Nat) : ∀ (k i : Nat) (seen : List Bool), i + k = l.length → seen.length = n → (∀ j, j < n → (seen.getD j false = true ↔ ∃ m, m < i ∧ l.getD m 0 = j)) →
    (∀ m, m < i → 0 ≤ l.getD m 0 ∧ l.getD m 0 < n) → (∀ m m', m < i → m' < i → l.getD m 0 = l.getD m' 0 → m = m') → (isL (runF (seenS l n) k i seen) = true ↔ IsPm l n)
  | 0, i, seen, hk, _, _, hr, hi => by
    simp only [runF, isL, true_iff]
    exact ⟨fun m hm => hr m (by omega), fun m m' h1 h2 => hi m m' (by omega) (by omega)⟩
  | k + 1, i, seen, hk, hl, hs, hr, hi => by
    simp only [runF]
    cases hc : orr (orr (decide (l.getD i 0 < 0)) (decide (l.getD i 0 ≥ (n : Int)))) (seen.getD (l.getD i 0).toNat false) with
    | true =>
      have e : seenS l n i seen = .inr () := by unfold seenS; rw [hc]; rfl
      rw [e]
      constructor
      · intro h; cases h
      · intro h
        exfalso
        have hx := h.rng i (by omega)
        have : seen.getD (l.getD i 0).toNat false = true := by
          unfold orr at hc
          rw [decide_eq_false (by omega), decide_eq_false (by omega)] at hc
          exact hc
        obtain ⟨m, h1, h2⟩ := (hs _ (by omega)).1 this
        have := h.inj m i (by omega) (by omega) (by omega)
        omega
    | false =>
      have e : seenS l n i seen = .inl (seen.set (l.getD i 0).toNat true) := by unfold seenS; rw [hc]; rfl
      rw [e]
      obtain ⟨hc, h3⟩ := of_orr hc
      obtain ⟨h1, h2⟩ := of_orr hc
      have h1 := of_decide_eq_false h1
      have h2 := of_decide_eq_false h2
      refine seen_run l n k (i + 1) _ (by omega) (by rw [List.length_set]; exact hl) (fun j hj => ?_) (fun m hm => ?_) (fun m m' hm hm' he => ?_)
      · rw [getD_set _ _ _ _ _ (by omega)]
        by_cases e : (l.getD i 0).toNat = j
        · rw [if_pos e]
          exact ⟨fun _ => ⟨i, by omega, by omega⟩, fun _ => rfl⟩
        · rw [if_neg e, hs j hj]
          constructor
          · rintro ⟨m, h4, h5⟩; exact ⟨m, by omega, h5⟩
          · rintro ⟨m, h4, h5⟩
            refine ⟨m, ?_, h5⟩
            by_cases em : m = i
            · subst em; omega
            · omega
      · by_cases em : m = i
        · subst em; omega
        · exact hr m (by omega)
      · have hno : ∀ m, m < i → l.getD m 0 ≠ l.getD i 0 := fun m hm he => by
          have h4 := (hs (l.getD i 0).toNat (by omega)).2 ⟨m, hm, by omega⟩
          rw [h4] at h3; cases h3
        by_cases em : m = i
        · by_cases em' : m' = i
          · omega
          · subst em; exact absurd he.symm (hno m' (by omega))
        · by_cases em' : m' = i
          · subst em'; exact absurd he (hno m (by omega))
          · exact hi m m' (by omega) (by omega) he
theorem isPn_iff (l : List Int) (n : Nat) : isPn l n = true ↔ IsPm l n :=
  seen_run l n l.length 0 _ (by omega) (by simp) (fun j hj => by rw [getD_replicate _ _ hj]; simp) (fun m hm => by omega) (fun m m' hm => by omega)
theorem isP_iff (l : List Int) : isP l = true ↔ IsPm l l.length := isPn_iff l l.length
theorem IsPm.surj {l : List Int} (h : IsPm l l.length) : ∀ j, j < l.length → ∃ i, i < l.length ∧ l.getD i 0 = j := by
  intro j hj
  obtain ⟨i, h1, h2⟩ := php l.length (fun i => (l.getD i 0).toNat) (fun i hi => by have := h.rng i hi; omega) (fun i k hi hk e => h.inj i k hi hk (by
    have := h.rng i hi; have := h.rng k hk; have e : (l.getD i 0).toNat = (l.getD k 0).toNat := e; omega)) j hj
  exact ⟨i, h1, by have := h.rng i h1; have h2 : (l.getD i 0).toNat = j := h2; omega⟩

/-! ### where a number stands -/
theorem idxF_spec {α : Type} (d : α) (p : α → Bool) (l : List α) : (idxF d p l = -1 ∧ ∀ i, i < l.length → p (l.getD i d) = false) ∨ (∃ i, i < l.length ∧ idxF d p l = (i : Int) ∧ p (l.getD i d) = true) := by
  unfold idxF
  cases e : idxRun d p l with
  | inl x =>
    left
    refine ⟨rfl, fun i hi => ?_⟩
    have h : isL (idxRun d p l) = true := by rw [e]; rfl
    exact isL_get (p := fun i => p (l.getD i d)) (e := fun i => (i : Int)) h i (Nat.zero_le _) (by omega)
  | inr x =>
    right
    have key : ∀ (k i : Nat), i + k = l.length → ∀ x, runF (fun i (_ : Unit) => bif p (l.getD i d) then Sum.inr (i : Int) else .inl ()) k i () = .inr x → ∃ m, m < l.length ∧ x = (m : Int) ∧ p (l.getD m d) = true := by
      intro k
      induction k with
      | zero => intro i _ x hx; cases hx
      | succ k ih =>
        intro i hi x hx
        simp only [runF] at hx
        cases hp : p (l.getD i d) with
        | true => rw [hp] at hx; cases hx; exact ⟨i, by omega, rfl, hp⟩
        | false => rw [hp] at hx; exact ih (i + 1) (by omega) x hx
    obtain ⟨m, h1, h2, h3⟩ := key l.length 0 (by omega) x e
    exact ⟨m, h1, h2, h3⟩
def ix (l : List Int) (x : Int) : Int := idxF 0 (fun y => y == x) l
theorem ix_of {l : List Int} {x : Int} {i : Nat} (hi : i < l.length) (h : l.getD i 0 = x) : ∃ m, m < l.length ∧ ix l x = (m : Int) ∧ l.getD m 0 = x := by
  rcases idxF_spec 0 (fun y => y == x) l with ⟨_, h2⟩ | ⟨m, h1, h2, h3⟩
  · have := h2 i hi
    rw [h] at this; simp at this
  · exact ⟨m, h1, h2, by simpa using h3⟩
theorem ix_nn {l : List Int} {x : Int} (h : ¬ ix l x < 0) : ∃ m, m < l.length ∧ ix l x = (m : Int) ∧ l.getD m 0 = x := by
  rcases idxF_spec 0 (fun y => y == x) l with ⟨h1, _⟩ | ⟨m, h1, h2, h3⟩
  · unfold ix at h; omega
  · exact ⟨m, h1, h2, by simpa using h3⟩
def isPR (l : List Int) : Bool := isL (runF (fun i (_ : Unit) => bif decide (ix l i < 0) then Sum.inr () else Sum.inl ()) l.length 0 ())
theorem isPR_eq (l : List Int) : isPR l = isP l := by
  apply bool_ext
  rw [isP_iff]
  constructor
  · intro h
    have h0 : ∀ j : Nat, j < l.length → ¬ ix l j < 0 := fun j hj => of_decide_eq_false (isL_get (p := fun i => decide (ix l i < 0)) (e := fun _ => ()) h j (Nat.zero_le _) (by omega))
    have h1 : ∀ j : Nat, j < l.length → (ix l j).toNat < l.length ∧ l.getD (ix l j).toNat 0 = j := fun j hj => by
      obtain ⟨m, h2, h3, h4⟩ := ix_nn (h0 j hj)
      rw [h3]; exact ⟨by omega, h4⟩
    have hs := php l.length (fun j => (ix l j).toNat) (fun j hj => (h1 j hj).1) (fun i j hi hj e => by
      have e : (ix l i).toNat = (ix l j).toNat := e
      have a := (h1 i hi).2; have b := (h1 j hj).2
      rw [e, b] at a; omega)
    constructor
    · intro i hi
      obtain ⟨j, h2, h3⟩ := hs i hi
      have h3 : (ix l j).toNat = i := h3
      have := (h1 j h2).2
      rw [h3] at this; omega
    · intro i k hi hk e
      obtain ⟨j, h2, h3⟩ := hs i hi
      obtain ⟨j', h2', h3'⟩ := hs k hk
      have h3 : (ix l j).toNat = i := h3
      have h3' : (ix l j').toNat = k := h3'
      have a := (h1 j h2).2; have b := (h1 j' h2').2
      rw [h3] at a; rw [h3'] at b
      have : j = j' := by omega
      subst this; omega
  · intro h
    exact isL_all (p := fun i => decide (ix l i < 0)) (e := fun _ => ()) _ _ fun j _ hj => by
      obtain ⟨i, h1, h2⟩ := h.surj j (by omega)
      obtain ⟨m, _, h3, _⟩ := ix_of h1 h2
      exact decide_eq_false (by omega)

/-! ### inverse, composition, order -/
def mapN {α : Type} (n : Nat) (f : Nat → α) : List α := (List.range' 0 n).map f
theorem mapN_len {α : Type} (n : Nat) (f : Nat → α) : (mapN n f).length = n := by simp [mapN]
theorem mapN_get {α : Type} {n i : Nat} (f : Nat → α) (d : α) (h : i < n) : (mapN n f).getD i d = f i := getD_map_range f d h
theorem mapN_congr {α : Type} {n : Nat} {f g : Nat → α} (h : ∀ i, i < n → f i = g i) : mapN n f = mapN n g := by
  refine List.map_congr_left fun i hi => h i ?_
  simp [List.mem_range'] at hi
  omega
def invP (l : List Int) : List Int := foldN (fun i out => out.set (l.getD i 0).toNat (i : Int)) l.length 0 (List.replicate l.length 0)
def invR' (l : List Int) : List Int := foldN (fun i out => out ++ [ix l i]) l.length 0 []
def pinv (l : List Int) : List Int := bif isP l then mapN l.length (fun i => ix l i) else []
theorem invR_eq' (l : List Int) : invR' l = mapN l.length (fun i => ix l i) := by unfold invR'; rw [foldN_app]; simp [mapN]
theorem invP_eq {l : List Int} (h : IsPm l l.length) : invP l = mapN l.length (fun i => ix l i) := by
  have hf := foldN_inv (f := fun i (out : List Int) => out.set (l.getD i 0).toNat (i : Int)) (fun i out => out.length = l.length ∧ ∀ m, m < i → out.getD (l.getD m 0).toNat 0 = m) l.length 0 (List.replicate l.length 0) ⟨by simp, fun m hm => by omega⟩ (fun j out _ hj hp => by
    have hx := h.rng j (by omega)
    refine ⟨by rw [List.length_set]; exact hp.1, fun m hm => ?_⟩
    rw [getD_set _ _ _ _ _ (by omega)]
    by_cases e : (l.getD j 0).toNat = (l.getD m 0).toNat
    · rw [if_pos e]
      have hy := h.rng m (by omega)
      have := h.inj j m (by omega) (by omega) (by omega)
      omega
    · rw [if_neg e]
      refine hp.2 m ?_
      by_cases em : m = j
      · subst em; exact absurd rfl e
      · omega)
  rw [Nat.zero_add] at hf
  refine ext_getD 0 (by unfold invP; rw [hf.1, mapN_len]) fun j hj => ?_
  have hj : j < l.length := by unfold invP at hj; rw [hf.1] at hj; exact hj
  rw [mapN_get _ _ hj]
  obtain ⟨m, h1, h2⟩ := h.surj j hj
  obtain ⟨m', h3, h4, h5⟩ := ix_of h1 h2
  have := h.inj m m' h1 h3 (by omega)
  subst this
  rw [h4]
  have := hf.2 m h1
  rw [h2] at this
  simpa [invP] using this
def pinvP (l : List Int) : List Int := bif !isP l then [] else invP l
def pinvR (l : List Int) : List Int := bif !isPR l then [] else invR' l
theorem pinvP_eq (l : List Int) : pinvP l = pinv l := by
  unfold pinvP pinv
  cases h : isP l with
  | false => rfl
  | true => exact invP_eq ((isP_iff l).1 h)
theorem pinvR_eq (l : List Int) : pinvR l = pinv l := by
  unfold pinvR pinv
  rw [isPR_eq, invR_eq']
  cases isP l <;> rfl
def appP {α : Type} (d : α) (l : List α) (o : List Int) : List α := foldN (fun i out => out ++ [l.getD (o.getD i 0).toNat d]) o.length 0 []
def appl {α : Type} (d : α) (l : List α) (o : List Int) : List α := bif an ((l.length : Int) == o.length) (isP o) then mapN o.length (fun i => l.getD (o.getD i 0).toNat d) else []
theorem appP_eq {α : Type} (d : α) (l : List α) (o : List Int) : appP d l o = mapN o.length (fun i => l.getD (o.getD i 0).toNat d) := by unfold appP; rw [foldN_app]; simp [mapN]
def comp (a b : List Int) : List Int := bif !isP a then [] else appl 0 a b
theorem mapN_isPm {n : Nat} {f : Nat → Int} (h1 : ∀ i, i < n → 0 ≤ f i ∧ f i < n) (h2 : ∀ i j, i < n → j < n → f i = f j → i = j) : IsPm (mapN n f) (mapN n f).length := by
  rw [mapN_len]
  constructor
  · intro i hi; rw [mapN_len] at hi; rw [mapN_get _ _ hi]; exact h1 i hi
  · intro i j hi hj e
    rw [mapN_len] at hi hj
    rw [mapN_get _ _ hi, mapN_get _ _ hj] at e
    exact h2 i j hi hj e
/-- The inverse is a permutation too, and the two undo one another. -/
structure InvOf (l r : List Int) : Prop where
  len : r.length = l.length
  rng : ∀ i, i < l.length → 0 ≤ r.getD i 0 ∧ r.getD i 0 < l.length
  lr : ∀ i, i < l.length → l.getD (r.getD i 0).toNat 0 = i
  rl : ∀ i, i < l.length → r.getD (l.getD i 0).toNat 0 = i
theorem pinv_of {l : List Int} (h : IsPm l l.length) : InvOf l (pinv l) := by
  have e : pinv l = mapN l.length (fun i => ix l i) := by unfold pinv; rw [(isP_iff l).2 h]; rfl
  rw [e]
  have key : ∀ i, i < l.length → ∃ m, m < l.length ∧ ix l i = (m : Int) ∧ l.getD m 0 = i := fun i hi => by
    obtain ⟨m, h1, h2⟩ := h.surj i hi
    exact ix_of h1 h2
  refine ⟨mapN_len _ _, fun i hi => ?_, fun i hi => ?_, fun i hi => ?_⟩
  · rw [mapN_get _ _ hi]
    obtain ⟨m, h1, h2, _⟩ := key i hi
    rw [h2]; omega
  · rw [mapN_get _ _ hi]
    obtain ⟨m, h1, h2, h3⟩ := key i hi
    rw [h2]; exact h3
  · have hx := h.rng i hi
    rw [mapN_get _ _ (by omega)]
    obtain ⟨m, h1, h2, h3⟩ := key (l.getD i 0).toNat (by omega)
    rw [h2]
    have := h.inj m i h1 hi (by omega)
    omega
theorem InvOf.pm {l r : List Int} (h : InvOf l r) : IsPm r r.length := by
  rw [h.len]
  constructor
  · intro i hi; rw [h.len] at hi; exact h.rng i hi
  · intro i j hi hj e
    rw [h.len] at hi hj
    have a := h.lr i hi; have b := h.lr j hj
    rw [e, b] at a; omega
theorem comp_of {a b : List Int} (ha : IsPm a a.length) (hb : IsPm b b.length) (hl : a.length = b.length) : comp a b = mapN b.length (fun i => a.getD (b.getD i 0).toNat 0) ∧ IsPm (comp a b) (comp a b).length := by
  have e : comp a b = mapN b.length (fun i => a.getD (b.getD i 0).toNat 0) := by
    unfold comp appl
    rw [(isP_iff a).2 ha, (isP_iff b).2 hb, hl]
    simp [an]
  refine ⟨e, ?_⟩
  rw [e]
  exact mapN_isPm (fun i hi => by have := hb.rng i hi; have := ha.rng (b.getD i 0).toNat (by omega); omega) (fun i j hi hj he => by
    have h1 := hb.rng i hi; have h2 := hb.rng j hj
    have := ha.inj _ _ (by omega) (by omega) he
    exact hb.inj i j hi hj (by omega))
theorem appl_of {α : Type} {d : α} {l : List α} {o : List Int} (ho : IsPm o o.length) (hl : l.length = o.length) : appl d l o = mapN o.length (fun i => l.getD (o.getD i 0).toNat d) := by
  unfold appl
  rw [(isP_iff o).2 ho, hl]
  simp [an]
/-- Applied and applied back. -/
theorem restores {α : Type} {d : α} {l : List α} {o : List Int} (ho : IsPm o o.length) (hl : l.length = o.length) : appl d (appl d l o) (pinv o) = l := by
  have hi := pinv_of ho
  rw [appl_of hi.pm (by rw [appl_of ho hl, mapN_len, hi.len]), hi.len]
  refine ext_getD d (by rw [mapN_len, hl]) fun i h => ?_
  rw [mapN_len] at h
  rw [mapN_get _ _ h, appl_of ho hl]
  have hx := hi.rng i h
  rw [mapN_get _ _ (by omega), hi.lr i h]
  rfl
theorem comp_inv {o : List Int} (ho : IsPm o o.length) : comp o (pinv o) = mapN o.length (fun i => (i : Int)) := by
  have hi := pinv_of ho
  rw [(comp_of ho hi.pm hi.len.symm).1, hi.len]
  exact mapN_congr fun i h => hi.lr i h
theorem app_comp {α : Type} {d : α} {l : List α} {a b : List Int} (ha : IsPm a a.length) (hb : IsPm b b.length) (hla : l.length = a.length) (hlb : a.length = b.length) : appl d (appl d l a) b = appl d l (comp a b) := by
  have hc := comp_of ha hb hlb
  rw [appl_of hb (by rw [appl_of ha hla, mapN_len, hlb]), appl_of hc.2 (by rw [hc.1, mapN_len]; omega), appl_of ha hla, hc.1, mapN_len]
  refine mapN_congr fun i h => ?_
  have hx := hb.rng i h
  rw [mapN_get _ _ (by omega), mapN_get _ _ h]
theorem inv_unique {l r : List Int} (h : IsPm l l.length) (hr : r.length = l.length) (hlr : ∀ i, i < l.length → 0 ≤ r.getD i 0 ∧ r.getD i 0 < l.length ∧ l.getD (r.getD i 0).toNat 0 = i) : pinv l = r := by
  have hi := pinv_of h
  refine ext_getD 0 (by rw [hi.len, hr]) fun i hj => ?_
  rw [hi.len] at hj
  have a := hi.rng i hj; have b := hlr i hj
  have := h.inj _ _ (by omega) (by omega) ((hi.lr i hj).trans b.2.2.symm)
  omega
theorem inv_comp {a b : List Int} (ha : IsPm a a.length) (hb : IsPm b b.length) (hl : a.length = b.length) : pinv (comp a b) = comp (pinv b) (pinv a) := by
  have hc := comp_of ha hb hl
  have ia := pinv_of ha; have ib := pinv_of hb
  have hd := comp_of ib.pm ia.pm (by rw [ib.len, ia.len, hl])
  refine inv_unique hc.2 (by rw [hc.1, hd.1, mapN_len, mapN_len, ia.len]; exact hl) fun i hi => ?_
  rw [hc.1, mapN_len] at hi
  have h1 := ia.rng i (by omega)
  have h2 := ib.rng ((pinv a).getD i 0).toNat (by omega)
  rw [hd.1, ia.len, mapN_get _ _ (by omega), hc.1, mapN_len]
  refine ⟨h2.1, by omega, ?_⟩
  rw [mapN_get _ _ (by omega), ib.lr _ (by omega)]
  have := ia.lr i (by omega)
  rw [show ((((pinv a).getD i 0).toNat : Nat) : Int).toNat = ((pinv a).getD i 0).toNat by omega]
  exact this

/-! ### shuffling -/
def swp (l : List Int) (i k : Nat) : List Int := (l.set i (l.getD k 0)).set k (l.getD i 0)
theorem swp_len (l : List Int) (i k : Nat) : (swp l i k).length = l.length := by simp [swp]
theorem swp_get {l : List Int} {i k m : Nat} (hi : i < l.length) (hk : k < l.length) : (swp l i k).getD m 0 = l.getD (if m = k then i else if m = i then k else m) 0 := by
  unfold swp
  rw [getD_set _ _ _ _ _ (by rw [List.length_set]; exact hk), getD_set _ _ _ _ _ hi]
  by_cases e1 : k = m
  · rw [if_pos e1, if_pos e1.symm]
  · rw [if_neg e1, if_neg (show ¬ m = k from fun e => e1 e.symm)]
    by_cases e2 : i = m
    · rw [if_pos e2, if_pos e2.symm]
    · rw [if_neg e2, if_neg (show ¬ m = i from fun e => e2 e.symm)]
theorem swp_pm {l : List Int} {i k : Nat} (h : IsPm l l.length) (hi : i < l.length) (hk : k < l.length) : IsPm (swp l i k) (swp l i k).length := by
  rw [swp_len]
  constructor
  · intro m hm
    rw [swp_len] at hm
    rw [swp_get hi hk]
    exact h.rng _ (by split <;> (try split) <;> omega)
  · intro m m' hm hm' e
    rw [swp_len] at hm hm'
    rw [swp_get hi hk, swp_get hi hk] at e
    have := h.inj _ _ (by split <;> (try split) <;> omega) (by split <;> (try split) <;> omega) e
    revert this
    repeat' split
    all_goals omega
theorem ident_pm (n : Nat) : IsPm (mapN n (fun i => (i : Int))) (mapN n (fun i => (i : Int))).length := mapN_isPm (fun i hi => by omega) (fun i j _ _ e => by omega)
def fillP (n : Nat) : List Int := foldN (fun i l => l.set i (i : Int)) n 0 (List.replicate n 0)
def fillR (n : Nat) : List Int := foldN (fun i l => l ++ [(i : Int)]) n 0 []
theorem fillR_eq (n : Nat) : fillR n = mapN n (fun i => (i : Int)) := by unfold fillR; rw [foldN_app]; simp [mapN]
theorem fillP_eq (n : Nat) : fillP n = mapN n (fun i => (i : Int)) := by
  have hf := foldN_inv (f := fun i (l : List Int) => l.set i (i : Int)) (fun i l => l.length = n ∧ ∀ m, m < i → l.getD m 0 = (m : Int)) n 0 (List.replicate n 0) ⟨by simp, fun m hm => by omega⟩ (fun j l _ hj hp => by
    refine ⟨by rw [List.length_set]; exact hp.1, fun m hm => ?_⟩
    rw [getD_set _ _ _ _ _ (by have := hp.1; omega)]
    by_cases e : j = m
    · rw [if_pos e, e]
    · rw [if_neg e]; exact hp.2 m (by omega))
  rw [Nat.zero_add] at hf
  refine ext_getD 0 (by rw [mapN_len]; exact hf.1) fun j hj => ?_
  have hj : j < n := by have := hf.1; unfold fillP at hj; omega
  rw [mapN_get _ _ hj]
  exact hf.2 j hj
end Go.Fx

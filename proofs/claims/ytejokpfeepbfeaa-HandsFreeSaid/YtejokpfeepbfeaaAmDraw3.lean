/-
  The abstract machine: a region that draws its order (the law).
-/
import Derived.Test.YtejokpfeepbfeaaAmDraw2
namespace Go.AM

/-- Has operation i been carried out? -/
def Li (listed : Array Bool) (i : Nat) : Prop := listed.getD i false = true

/-- The frame behind the listed ones. -/
noncomputable def ES (ops : Array Oper) (ord : List Nat) (t0 : Env) (V : Nat → Value) (listed : Array Bool) : Env := fun x =>
  open Classical in
  if h : ∃ q, ∃ i, ord[q]? = some i ∧ (opAt ops i).dst = some x ∧ Li listed i then V (Classical.choose h) else t0 x

theorem filter_lt {α : Type} {p p' : α → Bool} : ∀ {l : List α}, (∀ x ∈ l, p' x = true → p x = true) → (∃ x ∈ l, p x = true ∧ p' x = false) → (l.filter p').length < (l.filter p).length
  | [], _, h => by obtain ⟨x, hx, _⟩ := h; simp at hx
  | y :: l, hs, h => by
    have hle : (l.filter p').length ≤ (l.filter p).length := by
      have : ∀ {l : List α}, (∀ x ∈ l, p' x = true → p x = true) → (l.filter p').length ≤ (l.filter p).length := by
        intro l hs
        induction l with
        | nil => simp
        | cons z l ih =>
          have := ih fun x hx => hs x (by simp [hx])
          have h0 := hs z (by simp)
          simp only [List.filter_cons]
          cases h1 : p' z with
          | true => rw [h0 h1]; simp; exact this
          | false => cases p z <;> simp <;> omega
      exact this fun x hx => hs x (by simp [hx])
    obtain ⟨x, hx, h1, h2⟩ := h
    simp only [List.filter_cons]
    rcases List.mem_cons.1 hx with rfl | hx
    · rw [h1, h2]; simp; omega
    · have ih := filter_lt (l := l) (fun x hx => hs x (by simp [hx])) ⟨x, hx, h1, h2⟩
      have h0 := hs y (by simp)
      cases h3 : p' y with
      | true => rw [h0 h3]; simp; exact ih
      | false => cases p y <;> simp <;> omega

section
variable {P : Program} {C : Cfg} {callR : FuncId → List Value → Heap → Res} {ops : Array Oper} {pl : Plan} {μ0 : Pl} {h0 : Heap} {w0 : World} {N : Nat} {Q : Exit → Act → World → Prop}

structure PlanFacts (P : Program) (ops : Array Oper) (pl : Plan) : Prop where
  len : pl.ord.length = ops.size
  lt : ∀ {p i : Nat}, pl.ord[p]? = some i → i < ops.size
  pos : ∀ {i : Nat}, i < ops.size → ∃ p : Nat, pl.ord[p]? = some i
  pair : ∀ {p q i j : Nat}, pl.ord[p]? = some i → pl.ord[q]? = some j → p < q → pairOk P ops pl i j = true
  edge : ∀ {j : Nat}, j < ops.size → ∀ e ∈ (opAt ops j).after, Region.binds .any e = true → bitP pl e.on j = true ∧ e.on < ops.size
  irr : ∀ {j : Nat}, j < ops.size → bitP pl j j = false
  self : ∀ {j : Nat}, j < ops.size → clsT P (opAt ops j) = .load → notIn (opAt ops j).dst ((opAt ops j).looksAt ops) = true ∧ (opAt ops j).dst.isSome = true
  chain : ∀ {i j : Nat}, j < ops.size → i < ops.size → bitP pl i j = true → ∃ e ∈ (opAt ops j).after, Region.binds .any e = true ∧ e.on < j ∧ (e.on = i ∨ bitP pl i e.on = true)

theorem planOk_facts (h : planOk P ops pl = true) : PlanFacts P ops pl := by
  simp only [planOk, Bool.and_eq_true, List.all_eq_true] at h
  obtain ⟨⟨⟨⟨h1, h2⟩, h3⟩, h4⟩, h5⟩ := h
  have hlt : ∀ {p i : Nat}, pl.ord[p]? = some i → i < ops.size := fun hp => by simpa using h2 _ (List.mem_of_getElem? hp)
  refine ⟨Nat.eq_of_beq_eq_true h1, hlt, fun {i} hi => ?_, fun hp hq hlt => pairsOk_spec h4 _ _ _ _ hp hq hlt, fun {j} hj e he hb => ?_, fun {j} hj => ?_, fun {j} hj hc => ?_, fun {i j} hj hi hb => ?_⟩
  · exact List.mem_iff_getElem?.1 (memN_iff.1 (h3 i (by simpa using hi)))
  · have := h5 j (by simpa using hj)
    simp only [preOk, Bool.and_eq_true, Bool.or_eq_true, Bool.not_eq_true', List.all_eq_true] at this
    rcases this.1.1.1 e (by simpa using he) with hh | hh
    · rw [hb] at hh; simp at hh
    · exact ⟨hh.1, by simpa using hh.2⟩
  · have := h5 j (by simpa using hj)
    simp only [preOk, Bool.and_eq_true, Bool.or_eq_true, Bool.not_eq_true'] at this
    exact this.1.2
  · have := h5 j (by simpa using hj)
    simp only [preOk, Bool.and_eq_true, Bool.or_eq_true, Bool.not_eq_true'] at this
    rcases this.1.1.2 with hh | hh
    · simp [hc] at hh
    · exact hh
  · have := h5 j (by simpa using hj)
    simp only [preOk, Bool.and_eq_true, Bool.or_eq_true, Bool.not_eq_true', List.all_eq_true, List.any_eq_true] at this
    rcases this.2 i (by simpa using hi) with hh | ⟨e, he, hh⟩
    · rw [hb] at hh; simp at hh
    · refine ⟨e, by simpa using he, hh.1.1, by simpa using hh.1.2, ?_⟩
      rcases hh.2 with h6 | h6
      · exact .inl (Nat.eq_of_beq_eq_true h6)
      · exact .inr h6

variable (F : PlanFacts P ops pl)
include F

theorem PlanFacts.inj {p q i : Nat} (hp : pl.ord[p]? = some i) (hq : pl.ord[q]? = some i) : p = q := by
  rcases Nat.lt_trichotomy p q with h | h | h
  · have := F.pair hp hq h; simp [pairOk] at this
  · exact h
  · have := F.pair hq hp h; simp [pairOk] at this

omit F in
theorem opAt_eq {i : Nat} (hi : i < ops.size) : ops[i]? = some (opAt ops i) := by simp [opAt, hi]

/-- No two operations write one slot. -/
theorem PlanFacts.writer {p q i j x : Nat} (hp : pl.ord[p]? = some i) (hq : pl.ord[q]? = some j) (hi : (opAt ops i).dst = some x) (hj : (opAt ops j).dst = some x) : p = q := by
  have key : ∀ {p q i j : Nat}, pl.ord[p]? = some i → pl.ord[q]? = some j → (opAt ops i).dst = some x → (opAt ops j).dst = some x → ¬ p < q := fun hp hq hi hj h => by
    have := F.pair hp hq h
    simp [pairOk, hi, hj, dstNe] at this
  rcases Nat.lt_trichotomy p q with h | h | h
  · exact absurd h (key hp hq hi hj)
  · exact h
  · exact absurd h (key hq hp hj hi)

theorem PlanFacts.es_writer {t0 : Env} {V : Nat → Value} {listed : Array Bool} {q i x : Nat} (hq : pl.ord[q]? = some i) (hi : (opAt ops i).dst = some x) :
    (Li listed i → ES ops pl.ord t0 V listed x = V q) ∧ (¬ Li listed i → ES ops pl.ord t0 V listed x = t0 x) := by
  refine ⟨fun hl => ?_, fun hl => ?_⟩
  · have hex : ∃ q, ∃ i, pl.ord[q]? = some i ∧ (opAt ops i).dst = some x ∧ Li listed i := ⟨q, i, hq, hi, hl⟩
    unfold ES
    rw [dif_pos hex]
    obtain ⟨j, h1, h2, _⟩ := Classical.choose_spec hex
    rw [F.writer h1 hq h2 hi]
  · unfold ES
    rw [dif_neg]
    rintro ⟨q', j, h1, h2, h3⟩
    have := F.writer h1 hq h2 hi; subst this
    rw [h1] at hq; simp at hq; subst hq
    exact hl h3

omit F in
theorem es_none {t0 : Env} {V : Nat → Value} {listed : Array Bool} {x : Nat} (h : ∀ (q i : Nat), pl.ord[q]? = some i → (opAt ops i).dst ≠ some x) : ES ops pl.ord t0 V listed x = t0 x := by
  unfold ES
  rw [dif_neg]
  rintro ⟨q, i, h1, h2, _⟩
  exact h q i h1 h2

/-- What is ahead of a listed or ready one is listed. -/
theorem PlanFacts.closed {listed : Array Bool} (hdc : ∀ j, Li listed j → ∀ e ∈ (opAt ops j).after, Region.binds .any e = true → Li listed e.on) :
    ∀ (m j : Nat), j ≤ m → j < ops.size → (∀ e ∈ (opAt ops j).after, Region.binds .any e = true → Li listed e.on) → ∀ i, i < ops.size → bitP pl i j = true → Li listed i
  | m, j, hm, hj, hr, i, hi, hb => by
    obtain ⟨e, he, h1, h2, h3⟩ := F.chain hj hi hb
    have hl := hr e he h1
    rcases h3 with rfl | h3
    · exact hl
    · have hen := (F.edge hj e he h1).2
      cases m with
      | zero => omega
      | succ m => exact PlanFacts.closed hdc m e.on (by omega) hen (hdc _ hl) i hi h3

variable {T : Nat → Env} {H : Nat → Heap} {V : Nat → Value} (R : Ran P C callR ops pl ops.size T H V)
include R

omit F in
theorem Ran.tval (hlen : pl.ord.length = ops.size) : ∀ (p : Nat), p ≤ ops.size → ∀ x, (∃ q i, q < p ∧ pl.ord[q]? = some i ∧ (opAt ops i).dst = some x ∧ T p x = V q) ∨
    ((∀ q i, q < p → pl.ord[q]? = some i → (opAt ops i).dst ≠ some x) ∧ T p x = T 0 x)
  | 0, _, x => .inr ⟨fun q i hq => by omega, rfl⟩
  | p + 1, hp, x => by
    obtain ⟨i, hi⟩ : ∃ i, pl.ord[p]? = some i := ⟨_, List.getElem?_eq_getElem (by omega)⟩
    have he := R.env p i (by omega) hi
    by_cases hx : (opAt ops i).dst = some x
    · exact .inl ⟨p, i, by omega, hi, hx, by rw [he, hx]; simp [put]⟩
    · have hT : T (p + 1) x = T p x := by
        rw [he]
        cases hd : (opAt ops i).dst with
        | none => rfl
        | some d =>
          simp only [put, cond_eq_ite]
          rw [if_neg]
          intro hh; exact hx (by rw [hd, Nat.eq_of_beq_eq_true hh])
      rcases Ran.tval hlen p (by omega) x with ⟨q, j, h1, h2, h3, h4⟩ | ⟨h1, h2⟩
      · exact .inl ⟨q, j, by omega, h2, h3, by rw [hT]; exact h4⟩
      · refine .inr ⟨fun q j hq hj => ?_, by rw [hT]; exact h2⟩
        by_cases hqp : q = p
        · subst hqp; rw [hi] at hj; simp at hj; subst hj; exact hx
        · exact h1 q j (by omega) hj

omit F in
/-- An operation that is no link of the chain leaves the heap. -/
theorem Ran.still {p i : Nat} (hp : p < ops.size) (hi : pl.ord[p]? = some i) (hc : isChain (clsT P (opAt ops i)) = false) : H (p + 1) = H p := by
  have he := R.op p i hp hi
  cases hcl : clsT P (opAt ops i) <;> simp [hcl, isChain] at hc
  · obtain ⟨v, h1, _⟩ := gpure_any (h' := H p) hcl he; simp at h1; exact h1.2
  · obtain ⟨v, h1⟩ := gload_same hcl he; simp at h1; exact h1.2
  · obtain ⟨v, h1⟩ := gread_same hcl he; simp at h1; exact h1.2

omit F in
theorem Ran.const : ∀ (d p : Nat), p + d ≤ ops.size → (∀ r i, p ≤ r → r < p + d → pl.ord[r]? = some i → isChain (clsT P (opAt ops i)) = false) → pl.ord.length = ops.size → H (p + d) = H p
  | 0, p, _, _, _ => rfl
  | d + 1, p, hp, hn, hl => by
    obtain ⟨i, hi⟩ : ∃ i, pl.ord[p + d]? = some i := ⟨_, List.getElem?_eq_getElem (by omega)⟩
    rw [show p + (d + 1) = p + d + 1 from by omega, Ran.still R (by omega) hi (hn _ i (by omega) (by omega) hi)]
    exact Ran.const d p (by omega) (fun r i h1 h2 => hn r i h1 (by omega)) hl

/-- Where the chain stands. -/
def ChainAt (P : Program) (ops : Array Oper) (pl : Plan) (listed : Array Bool) (p : Nat) : Prop :=
  p ≤ ops.size ∧ ∀ (q i : Nat), pl.ord[q]? = some i → isChain (clsT P (opAt ops i)) = true → (Li listed i ↔ q < p)

omit F in
theorem ChainAt.same {listed : Array Bool} {p q : Nat} (hp : ChainAt P ops pl listed p) (hq : ChainAt P ops pl listed q) (hl : pl.ord.length = ops.size) : H p = H q := by
  have key : ∀ {p q : Nat}, ChainAt P ops pl listed p → ChainAt P ops pl listed q → p ≤ q → H q = H p := fun {p q} hp hq hle => by
    have := Ran.const R (q - p) p (by have := hq.1; omega) (fun r i h1 h2 hr => by
      cases hc : isChain (clsT P (opAt ops i)) with
      | false => rfl
      | true =>
        have k1 := (hp.2 r i hr hc).1
        have k2 := (hq.2 r i hr hc).2 (by omega)
        have := k1 k2; omega) hl
    rwa [show p + (q - p) = q from by omega] at this
  rcases Nat.le_total p q with h | h
  · exact (key hp hq h).symm
  · exact key hq hp h

/-- A ready operation, carried out where the chain stands, gives what it gave. -/
theorem ready_same {listed : Array Bool} (hdc : ∀ j, Li listed j → ∀ e ∈ (opAt ops j).after, Region.binds .any e = true → Li listed e.on) {q j : Nat} (hq : pl.ord[q]? = some j)
    (hj : ¬ Li listed j) (hr : ∀ e ∈ (opAt ops j).after, Region.binds .any e = true → Li listed e.on) {p : Nat} (hp : ChainAt P ops pl listed p) :
    ∃ p', ChainAt P ops pl listed p' ∧ H p' = H p ∧ ∃ h1, gopR P C callR ops (opAt ops j) (ES ops pl.ord (T 0) V listed) (H p') = some (.ret (V q) h1) ∧
      (isChain (clsT P (opAt ops j)) = true → p' = q ∧ h1 = H (q + 1)) ∧ (isChain (clsT P (opAt ops j)) = false → h1 = H p') := by
  have hqn : q < ops.size := by rw [← F.len]; exact (List.getElem?_eq_some_iff.1 hq).1
  have hjn := F.lt hq
  have hcl := F.closed hdc
  have hjl : ∀ i, i < ops.size → bitP pl i j = true → Li listed i := fun i hi hb => hcl j j (Nat.le_refl _) hjn hr i hi hb
  have hnl : ∀ i, i < ops.size → bitP pl j i = true → ¬ Li listed i := fun i hi hb hl => hj (hcl i i (Nat.le_refl _) hi (hdc i hl) j hjn hb)
  -- the operands
  have henv : ∀ x ∈ (opAt ops j).looksAt ops, ES ops pl.ord (T 0) V listed x = T q x := by
    intro x hx
    rcases R.tval F.len q (by omega) x with ⟨r, i, h1, h2, h3, h4⟩ | ⟨h1, h2⟩
    · rw [h4]
      refine (F.es_writer h2 h3).1 ?_
      have := F.pair h2 hq h1
      simp only [pairOk, Bool.and_eq_true, Bool.or_eq_true, Bool.not_eq_true'] at this
      rcases this.2 with hb | hb
      · exact hjl i (F.lt h2) hb
      · have hn := hb.1.2
        simp only [notIn, h3, Bool.not_eq_true'] at hn
        exact absurd (memN_iff.2 hx) (by rw [hn]; simp)
    · rw [h2]
      by_cases hw : ∃ r i : Nat, pl.ord[r]? = some i ∧ (opAt ops i).dst = some x
      · obtain ⟨r, i, h3, h4⟩ := hw
        refine (F.es_writer h3 h4).2 fun hl => ?_
        rcases Nat.lt_trichotomy r q with h | h | h
        · exact h1 r i h h3 h4
        · subst h; rw [hq] at h3; simp at h3; subst h3; exact hj hl
        · have := F.pair hq h3 h
          simp only [pairOk, Bool.and_eq_true, Bool.or_eq_true, Bool.not_eq_true'] at this
          rcases this.2 with hb | hb
          · exact hnl i (F.lt h3) hb hl
          · have hn := hb.2
            simp only [notIn, h4, Bool.not_eq_true'] at hn
            exact absurd (memN_iff.2 hx) (by rw [hn]; simp)
      · exact es_none fun r i h3 h4 => hw ⟨r, i, h3, h4⟩
  have hop := R.op q j hqn hq
  have hopq : gopR P C callR ops (opAt ops j) (ES ops pl.ord (T 0) V listed) (H q) = some (.ret (V q) (H (q + 1))) := by rw [gopR_congr henv]; exact hop
  -- the chain stands at q, where the operation is ordered with all of it
  have atq : (∀ (r i : Nat), pl.ord[r]? = some i → isChain (clsT P (opAt ops i)) = true → r ≠ q → (r < q → bitP pl i j = true) ∧ (q < r → bitP pl j i = true)) → (isChain (clsT P (opAt ops j)) = true ∨ True) → ChainAt P ops pl listed q := fun ho _ => by
    refine ⟨by omega, fun r i hri hc => ?_⟩
    rcases Nat.lt_trichotomy r q with h | h | h
    · exact ⟨fun _ => h, fun _ => hjl i (F.lt hri) ((ho r i hri hc (by omega)).1 h)⟩
    · subst h; rw [hq] at hri; simp at hri; subst hri; exact ⟨fun hl => absurd hl hj, fun h => by omega⟩
    · exact ⟨fun hl => absurd hl (hnl i (F.lt hri) ((ho r i hri hc (by omega)).2 h)), fun h' => by omega⟩
  cases hcj : clsT P (opAt ops j) with
  | pure =>
    obtain ⟨v, h1, h2⟩ := gpure_any (h' := H p) hcj hopq
    simp at h1; obtain ⟨rfl, _⟩ := h1
    exact ⟨p, hp, rfl, H p, h2, by simp [isChain], fun _ => rfl⟩
  | alloc =>
    have ha := atq (fun r i hri hc hne => by
      refine ⟨fun h => ?_, fun h => ?_⟩
      · have := F.pair hri hq h
        simp only [pairOk, Bool.and_eq_true, Bool.or_eq_true, Bool.not_eq_true'] at this
        rcases this.2 with hb | hb
        · exact hb
        · simp only [hc, hcj] at hb; simp [isChain] at hb
      · have := F.pair hq hri h
        simp only [pairOk, Bool.and_eq_true, Bool.or_eq_true, Bool.not_eq_true'] at this
        rcases this.2 with hb | hb
        · exact hb
        · simp only [hc, hcj] at hb; simp [isChain] at hb) (.inr trivial)
    exact ⟨q, ha, ChainAt.same R ha hp F.len, _, hopq, fun _ => ⟨rfl, rfl⟩, by simp [isChain]⟩
  | eff =>
    have ha := atq (fun r i hri hc hne => by
      refine ⟨fun h => ?_, fun h => ?_⟩
      · have := F.pair hri hq h
        simp only [pairOk, Bool.and_eq_true, Bool.or_eq_true, Bool.not_eq_true'] at this
        rcases this.2 with hb | hb
        · exact hb
        · simp only [hc, hcj] at hb; simp [isChain] at hb
      · have := F.pair hq hri h
        simp only [pairOk, Bool.and_eq_true, Bool.or_eq_true, Bool.not_eq_true'] at this
        rcases this.2 with hb | hb
        · exact hb
        · simp only [hc, hcj] at hb; simp [isChain] at hb) (.inr trivial)
    exact ⟨q, ha, ChainAt.same R ha hp F.len, _, hopq, fun _ => ⟨rfl, rfl⟩, by simp [isChain]⟩
  | read =>
    have ha := atq (fun r i hri hc hne => by
      refine ⟨fun h => ?_, fun h => ?_⟩
      · have := F.pair hri hq h
        simp only [pairOk, Bool.and_eq_true, Bool.or_eq_true, Bool.not_eq_true'] at this
        rcases this.2 with hb | hb
        · exact hb
        · simp only [hc, hcj] at hb; simp at hb
      · have := F.pair hq hri h
        simp only [pairOk, Bool.and_eq_true, Bool.or_eq_true, Bool.not_eq_true'] at this
        rcases this.2 with hb | hb
        · exact hb
        · simp only [hc, hcj] at hb; simp at hb) (.inr trivial)
    obtain ⟨v, h1⟩ := gread_same hcj hopq
    simp at h1
    exact ⟨q, ha, ChainAt.same R ha hp F.len, _, hopq, by simp [isChain], fun _ => h1.2⟩
  | load =>
    refine ⟨p, hp, rfl, H p, ?_, by simp [isChain], fun _ => rfl⟩
    obtain ⟨v, h1⟩ := gload_same hcj hopq
    simp at h1; obtain ⟨_, hqq⟩ := h1
    rw [hqq] at hopq
    let o := opAt ops j
    -- behind q: links that are not ordered with it
    have up : ∀ d, q + d ≤ ops.size → (∀ r i : Nat, q ≤ r → r < q + d → pl.ord[r]? = some i → isChain (clsT P (opAt ops i)) = true → bitP pl j i = false) →
        gopR P C callR ops (opAt ops j) (ES ops pl.ord (T 0) V listed) (H (q + d)) = some (.ret (V q) (H (q + d))) := by
      intro d
      induction d with
      | zero => intro _ _; exact hopq
      | succ d ih =>
        intro hd hn
        have ih := ih (by omega) (fun r i h1 h2 => hn r i h1 (by omega))
        obtain ⟨i, hi⟩ : ∃ i, pl.ord[q + d]? = some i := ⟨_, List.getElem?_eq_getElem (by rw [F.len]; omega)⟩
        rw [show q + (d + 1) = q + d + 1 from by omega]
        have hri := R.op (q + d) i (by omega) hi
        cases hci : clsT P (opAt ops i) with
        | pure => rw [R.still (by omega) hi (by rw [hci]; rfl)]; exact ih
        | load => rw [R.still (by omega) hi (by rw [hci]; rfl)]; exact ih
        | read => rw [R.still (by omega) hi (by rw [hci]; rfl)]; exact ih
        | alloc =>
          obtain ⟨v, h1, h2, h3⟩ := galloc_push hci hri
          simp at h2; obtain ⟨_, rfl⟩ := h2
          rcases h3 with h3 | ⟨x, h3⟩
          · rw [h3]; exact ih
          · rw [h3]; exact gload_push hcj ih x
        | eff =>
          have hd0 : d ≠ 0 := fun e => by
            subst e; rw [Nat.add_zero, hq] at hi; simp at hi; subst hi; rw [hcj] at hci; simp at hci
          have hpr := F.pair hq hi (by omega)
          simp only [pairOk, Bool.and_eq_true, Bool.or_eq_true, Bool.not_eq_true'] at hpr
          have hbf := hn (q + d) i (by omega) (by omega) hi (by rw [hci]; rfl)
          rcases hpr.2 with hb | hb
          · rw [hbf] at hb; simp at hb
          · have hpost : memN j (assocL pl.post i) = true := by
              rcases hb.1.1.1.2 with hh | hh
              · simp [hcj, hci] at hh
              · exact hh
            have hag := R.post (q + d) i (by omega) hi j (memN_iff.1 hpost)
            obtain ⟨hs1, hs2⟩ := F.self hjn hcj
            -- the value that the load left, and its operands, are still there
            have hTv : T (q + d) (dstOf ops j) = V q := by
              obtain ⟨x, hx⟩ := Option.isSome_iff_exists.1 hs2
              have hx' : dstOf ops j = x := by simp [dstOf, hx]
              rw [hx']
              rcases R.tval F.len (q + d) (by omega) x with ⟨r, k, h1, h2, h3, h4⟩ | ⟨h1, _⟩
              · rw [h4, F.writer h2 hq h3 hx]
              · exact absurd hx (h1 q j (by omega) hq)
            have hTl : ∀ x ∈ (opAt ops j).looksAt ops, T (q + d) x = ES ops pl.ord (T 0) V listed x := by
              intro x hx
              rw [henv x hx]
              rcases R.tval F.len (q + d) (by omega) x with ⟨r, k, h1, h2, h3, h4⟩ | ⟨h1, h2⟩
              · rcases R.tval F.len q (by omega) x with ⟨r', k', g1, g2, g3, g4⟩ | ⟨g1, g2⟩
                · rw [h4, g4, F.writer h2 g2 h3 g3]
                · exfalso
                  rcases Nat.lt_trichotomy r q with h | h | h
                  · exact g1 r k h h2 h3
                  · subst h; rw [hq] at h2; simp at h2; subst h2
                    simp only [notIn, h3, Bool.not_eq_true'] at hs1
                    rw [memN_iff.2 hx] at hs1; simp at hs1
                  · have := F.pair hq h2 h
                    simp only [pairOk, Bool.and_eq_true, Bool.or_eq_true, Bool.not_eq_true'] at this
                    rcases this.1.2 with hh | hh
                    · simp [hcj] at hh
                    · simp only [notIn, h3, Bool.not_eq_true'] at hh
                      rw [memN_iff.2 hx] at hh; simp at hh
              · rcases R.tval F.len q (by omega) x with ⟨r', k', g1, g2, g3, g4⟩ | ⟨g1, g2⟩
                · exact absurd g3 (h1 r' k' (by omega) g2)
                · rw [h2, g2]
            rw [againG_congr hTl, hTv] at hag
            exact gload_again hopq hag
    -- ahead of q: links that are not ordered with it
    have down : ∀ d, d ≤ q → (∀ r i : Nat, q - d ≤ r → r < q → pl.ord[r]? = some i → isChain (clsT P (opAt ops i)) = true → bitP pl i j = false) →
        gopR P C callR ops (opAt ops j) (ES ops pl.ord (T 0) V listed) (H (q - d)) = some (.ret (V q) (H (q - d))) := by
      intro d
      induction d with
      | zero => intro _ _; exact hopq
      | succ d ih =>
        intro hd hn
        have ih := ih (by omega) (fun r i h1 h2 => hn r i (by omega) h2)
        obtain ⟨i, hi⟩ : ∃ i, pl.ord[q - (d + 1)]? = some i := ⟨_, List.getElem?_eq_getElem (by rw [F.len]; omega)⟩
        have hpr := F.pair hi hq (by omega)
        simp only [pairOk, Bool.and_eq_true, Bool.or_eq_true, Bool.not_eq_true'] at hpr
        have e1 : q - (d + 1) + 1 = q - d := by omega
        cases hci : clsT P (opAt ops i) with
        | pure => have := R.still (by omega) hi (by rw [hci]; rfl); rw [e1] at this; rw [← this]; exact ih
        | load => have := R.still (by omega) hi (by rw [hci]; rfl); rw [e1] at this; rw [← this]; exact ih
        | read => have := R.still (by omega) hi (by rw [hci]; rfl); rw [e1] at this; rw [← this]; exact ih
        | alloc =>
          have hbf := hn _ i (Nat.le_refl _) (by omega) hi (by rw [hci]; rfl)
          rcases hpr.2 with hb | hb
          · rw [hbf] at hb; simp at hb
          · simp [hcj, hci, isChain] at hb
        | eff =>
          have hbf := hn _ i (Nat.le_refl _) (by omega) hi (by rw [hci]; rfl)
          rcases hpr.2 with hb | hb
          · rw [hbf] at hb; simp at hb
          · have hprev : memN i (assocL pl.prev j) = true := by
              rcases hb.1.1.2 with hh | hh
              · simp [hcj, hci] at hh
              · exact hh
            obtain ⟨q', h1, h2, h3⟩ := R.prev q j hqn hq i (memN_iff.1 hprev)
            have := F.inj h2 hi; subst this
            rw [againG_congr (fun x hx => (henv x hx).symm)] at h3
            exact gload_again hopq h3
    rcases Nat.lt_or_ge q p with h | h
    · have := up (p - q) (by have := hp.1; omega) (fun r i h1 h2 hri hc => by
        cases hb : bitP pl j i with
        | false => rfl
        | true => exact absurd ((hp.2 r i hri hc).2 (by omega)) (hnl i (F.lt hri) hb))
      rwa [show q + (p - q) = p from by omega] at this
    · have := down (q - p) (by omega) (fun r i h1 h2 hri hc => by
        cases hb : bitP pl i j with
        | false => rfl
        | true => have := (hp.2 r i hri hc).1 (hjl i (F.lt hri) hb); omega)
      rwa [show q - (q - p) = p from by omega] at this

end
end Go.AM

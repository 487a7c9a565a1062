/-
  The abstract machine: a region that draws its order: whatever the order, it comes to what the plan's order came to.
-/
import Derived.Test.YtejokpfeepbfeaaAmDraw
namespace Go.AM

def bitP (pl : Plan) (i j : Nat) : Bool := (pl.pre.getD j 0).testBit i
def dstNe (a b : Option Tmp) : Bool :=
  match a, b with
  | some x, some y => !Nat.beq x y
  | _, _ => true
def notIn (d : Option Tmp) (l : List Tmp) : Bool :=
  match d with
  | some x => !memN x l
  | none => true
def isChain : Cls → Bool
  | .alloc | .eff => true
  | _ => false

def pairOk (P : Program) (ops : Array Oper) (pl : Plan) (i j : Nat) : Bool :=
  let oi := opAt ops i
  let oj := opAt ops j
  let ci := clsT P oi
  let cj := clsT P oj
  !Nat.beq i j && !bitP pl j i && dstNe oi.dst oj.dst && (!decide (ci = .load) || notIn oj.dst (oi.looksAt ops)) &&
    (bitP pl i j || (!(isChain ci && isChain cj) && !(decide (ci = .alloc) && decide (cj = .load)) && !(isChain ci && decide (cj = .read)) && !(decide (ci = .read) && isChain cj) &&
      (!(decide (ci = .load) && decide (cj = .eff)) || memN i (assocL pl.post j)) && (!(decide (ci = .eff) && decide (cj = .load)) || memN i (assocL pl.prev j)) &&
      notIn oi.dst (oj.looksAt ops) && notIn oj.dst (oi.looksAt ops)))

def pairsOk (P : Program) (ops : Array Oper) (pl : Plan) : List Nat → Bool
  | [] => true
  | i :: r => r.all (fun j => pairOk P ops pl i j) && pairsOk P ops pl r

def preOk (P : Program) (ops : Array Oper) (pl : Plan) (n j : Nat) : Bool :=
  (opAt ops j).after.toList.all (fun e => !Region.binds .any e || (bitP pl e.on j && Nat.blt e.on n)) &&
    (!decide (clsT P (opAt ops j) = .load) || (notIn (opAt ops j).dst ((opAt ops j).looksAt ops) && (opAt ops j).dst.isSome)) && !bitP pl j j &&
    (List.range n).all fun i => !bitP pl i j || (opAt ops j).after.toList.any fun e => Region.binds .any e && Nat.blt e.on j && (Nat.beq e.on i || bitP pl i e.on)

def planOk (P : Program) (ops : Array Oper) (pl : Plan) : Bool :=
  Nat.beq pl.ord.length ops.size && pl.ord.all (fun i => Nat.blt i ops.size) && (List.range ops.size).all (fun i => memN i pl.ord) && pairsOk P ops pl pl.ord &&
    (List.range ops.size).all (preOk P ops pl ops.size)

theorem memN_iff {x : Nat} : ∀ {l : List Nat}, memN x l = true ↔ x ∈ l
  | [] => by simp [memN]
  | y :: l => by
    simp only [memN, Bool.or_eq_true, memN_iff (l := l), List.mem_cons]
    constructor
    · rintro (h | h)
      · exact .inl (Nat.eq_of_beq_eq_true h)
      · exact .inr h
    · rintro (h | h)
      · exact .inl (by rw [h]; exact Nat.beq_refl y)
      · exact .inr h

theorem pairsOk_spec {P : Program} {ops : Array Oper} {pl : Plan} : ∀ {l : List Nat}, pairsOk P ops pl l = true → ∀ (p q i j : Nat), l[p]? = some i → l[q]? = some j → p < q → pairOk P ops pl i j = true
  | [], _, p, q, i, j, hp, _, _ => by simp at hp
  | x :: l, h, p, q, i, j, hp, hq, hlt => by
    simp only [pairsOk, Bool.and_eq_true, List.all_eq_true] at h
    cases q with
    | zero => omega
    | succ q =>
      simp at hq
      cases p with
      | zero => simp at hp; subst hp; exact h.1 j (List.mem_of_getElem? hq)
      | succ p => exact pairsOk_spec h.2 p q i j (by simpa using hp) hq (by omega)

section
variable {P : Program} {C : Cfg} {callR : FuncId → List Value → Heap → Res} {ops : Array Oper} {pl : Plan}

/-- What happened in the plan's order. -/
structure Ran (P : Program) (C : Cfg) (callR : FuncId → List Value → Heap → Res) (ops : Array Oper) (pl : Plan) (m : Nat) (T : Nat → Env) (H : Nat → Heap) (V : Nat → Value) : Prop where
  op : ∀ p i, p < m → pl.ord[p]? = some i → gopR P C callR ops (opAt ops i) (T p) (H p) = some (.ret (V p) (H (p + 1)))
  env : ∀ p i, p < m → pl.ord[p]? = some i → T (p + 1) = put (T p) (opAt ops i).dst (V p)
  post : ∀ p i, p < m → pl.ord[p]? = some i → ∀ j ∈ assocL pl.post i, againG P C ops (opAt ops j) (T p) (H (p + 1)) (T p (dstOf ops j)) = true
  prev : ∀ p i, p < m → pl.ord[p]? = some i → ∀ e ∈ assocL pl.prev i, ∃ q, q < p ∧ pl.ord[q]? = some e ∧ againG P C ops (opAt ops i) (T p) (H q) (V p) = true

theorem allAgain_mem {t : Env} {h : Heap} : ∀ {l : List Nat}, allAgain P C ops t h l = true → ∀ j ∈ l, againG P C ops (opAt ops j) t h (t (dstOf ops j)) = true
  | [], _, j, hj => by simp at hj
  | x :: l, e, j, hj => by
    simp only [allAgain, Bool.and_eq_true] at e
    rcases List.mem_cons.1 hj with rfl | hj
    · exact e.1
    · exact allAgain_mem e.2 j hj

theorem allBefore_mem {t : Env} {o : Oper} {saved : List (Nat × Heap)} {v : Value} : ∀ {l : List Nat}, allBefore P C ops o t saved v l = true → ∀ e ∈ l, ∃ h, heapOf saved e = some h ∧ againG P C ops o t h v = true
  | [], _, j, hj => by simp at hj
  | x :: l, e, j, hj => by
    simp only [allBefore, Bool.and_eq_true] at e
    rcases List.mem_cons.1 hj with rfl | hj
    · cases hh : heapOf saved j with
      | none => rw [hh] at e; simp at e
      | some h => rw [hh] at e; exact ⟨h, rfl, e.1⟩
    · exact allBefore_mem e.2 j hj

theorem upd_fun {α : Type} (f : Nat → α) (k : Nat) (x : α) : (fun i => if i = k then x else f i) k = x := by simp

theorem planR_ran {K : Env → Heap → Res} {out : Out} : ∀ (l : List Nat) (m : Nat) (T : Nat → Env) (H : Nat → Heap) (V : Nat → Value) (saved : List (Nat × Heap)),
    pl.ord.drop m = l → Ran P C callR ops pl m T H V → (∀ e h, heapOf saved e = some h → ∃ q, q < m ∧ pl.ord[q]? = some e ∧ h = H q) →
    planR P C callR ops pl K l saved (T m) (H m) = some out →
    ∃ T' H' V', Ran P C callR ops pl (m + l.length) T' H' V' ∧ T' 0 = T 0 ∧ H' 0 = H 0 ∧ K (T' (m + l.length)) (H' (m + l.length)) = some out
  | [], m, T, H, V, saved, _, hran, _, e => ⟨T, H, V, hran, rfl, rfl, e⟩
  | i :: l, m, T, H, V, saved, hl, hran, hsv, e => by
    have hi : pl.ord[m]? = some i := by have := congrArg (·[0]?) hl; simpa using this
    simp only [planR] at e
    unfold noPan at e
    split at e
    · rename_i v h' hg
      unfold guardR at e
      simp only [cond_eq_ite] at e
      split at e
      · rename_i hck
        simp only [Bool.and_eq_true] at hck
        let T' : Nat → Env := fun q => if q = m + 1 then put (T m) (opAt ops i).dst v else T q
        let H' : Nat → Heap := fun q => if q = m + 1 then h' else H q
        let V' : Nat → Value := fun q => if q = m then v else V q
        have hT : ∀ q, q ≤ m → T' q = T q := fun q hq => by simp only [T']; rw [if_neg (by omega)]
        have hH : ∀ q, q ≤ m → H' q = H q := fun q hq => by simp only [H']; rw [if_neg (by omega)]
        have hV : ∀ q, q < m → V' q = V q := fun q hq => by simp only [V']; rw [if_neg (by omega)]
        have hT1 : T' (m + 1) = put (T m) (opAt ops i).dst v := by simp [T']
        have hH1 : H' (m + 1) = h' := by simp [H']
        have hV1 : V' m = v := by simp [V']
        have hr' : Ran P C callR ops pl (m + 1) T' H' V' := by
          refine ⟨fun p k hp hk => ?_, fun p k hp hk => ?_, fun p k hp hk j hj => ?_, fun p k hp hk ef he => ?_⟩ <;> by_cases hpm : p = m
          · subst hpm; rw [hi] at hk; simp at hk; subst hk; rw [hT p (Nat.le_refl _), hH p (Nat.le_refl _), hV1, hH1]; exact hg
          · rw [hT p (by omega), hH p (by omega), hV p (by omega), hH (p + 1) (by omega)]; exact hran.op p k (by omega) hk
          · subst hpm; rw [hi] at hk; simp at hk; subst hk; rw [hT p (Nat.le_refl _), hV1, hT1]
          · rw [hT p (by omega), hV p (by omega), hT (p + 1) (by omega)]; exact hran.env p k (by omega) hk
          · subst hpm; rw [hi] at hk; simp at hk; subst hk; rw [hT p (Nat.le_refl _), hH1]; exact allAgain_mem hck.1 j hj
          · rw [hT p (by omega), hH (p + 1) (by omega)]; exact hran.post p k (by omega) hk j hj
          · subst hpm; rw [hi] at hk; simp at hk; subst hk
            obtain ⟨h, h1, h2⟩ := allBefore_mem hck.2 ef he
            obtain ⟨q, h3, h4, rfl⟩ := hsv ef h h1
            exact ⟨q, h3, h4, by rw [hT p (Nat.le_refl _), hH q (by omega), hV1]; exact h2⟩
          · obtain ⟨q, h3, h4, h5⟩ := hran.prev p k (by omega) hk ef he
            exact ⟨q, h3, h4, by rw [hT p (by omega), hH q (by omega), hV p (by omega)]; exact h5⟩
        obtain ⟨T2, H2, V2, g1, g2, g3, g4⟩ := planR_ran l (m + 1) T' H' V' ((i, H m) :: saved) (by rw [← List.drop_drop, hl]; rfl) hr' (fun e h he => by
          simp only [heapOf, cond_eq_ite] at he
          split at he
          · rename_i hh
            have hh := Nat.eq_of_beq_eq_true hh; subst hh
            simp at he; subst he
            exact ⟨m, by omega, hi, (hH m (Nat.le_refl _)).symm⟩
          · obtain ⟨q, h3, h4, rfl⟩ := hsv e h he
            exact ⟨q, by omega, h4, (hH q (by omega)).symm⟩) (by rw [hT1, hH1]; exact e)
        refine ⟨T2, H2, V2, ?_, g2.trans (hT 0 (by omega)), g3.trans (hH 0 (by omega)), ?_⟩
        · rw [List.length_cons, show m + (l.length + 1) = m + 1 + l.length from by omega]; exact g1
        · rw [List.length_cons, show m + (l.length + 1) = m + 1 + l.length from by omega]; exact g4
      · simp at e
    · simp at e

-- what the kinds say of a guarded operation

theorem gopR_off {o : Oper} {t : Env} {h h' : Heap} {out : Out} (e : gopR P C callR ops o t h = some out) :
    (gopR P C callR ops o t h = opR P C callR o (ev C t) h ∧ gopR P C callR ops o t h' = opR P C callR o (ev C t) h') ∨ (out = .ret skipV h ∧ gopR P C callR ops o t h' = some (.ret skipV h')) := by
  unfold gopR at e ⊢
  cases hg : o.guard with
  | none => exact .inl ⟨rfl, rfl⟩
  | some g =>
    obtain ⟨j, want⟩ := g
    simp only [hg] at e ⊢
    cases hd : guardTmp ops j with
    | none => simp [hd] at e
    | some d =>
      simp only [hd] at e ⊢
      cases ht : t d <;> simp only [ht] at e ⊢ <;> try (simp at e; done)
      · rename_i b
        cases b <;> cases want <;> simp at e ⊢
        · exact .inr e.symm
        · exact .inr e.symm
      · rename_i r
        cases r <;> simp at e ⊢
        exact .inr e.symm

theorem gpure_any {o : Oper} {t : Env} {h h' : Heap} {out : Out} (hc : clsT P o = .pure) (e : gopR P C callR ops o t h = some out) : ∃ v, out = .ret v h ∧ gopR P C callR ops o t h' = some (.ret v h') := by
  rcases gopR_off (h' := h') e with ⟨h1, h2⟩ | ⟨h1, h2⟩
  · rw [h1] at e
    obtain ⟨v, rfl, h3⟩ := pure_any hc e
    exact ⟨v, rfl, by rw [h2]; exact h3 h'⟩
  · exact ⟨skipV, h1, h2⟩

theorem gload_same {o : Oper} {t : Env} {h : Heap} {out : Out} (hc : clsT P o = .load) (e : gopR P C callR ops o t h = some out) : ∃ v, out = .ret v h := by
  rcases gopR_off (h' := h) e with ⟨h1, _⟩ | ⟨h1, _⟩
  · rw [h1] at e; exact load_same hc e
  · exact ⟨skipV, h1⟩

theorem read_same {o : Oper} {ρ : Operand → Value} {h : Heap} {out : Out} (hc : clsT P o = .read) (e : opR P C callR o ρ h = some out) : ∃ v, out = .ret v h := by
  obtain ⟨dst, op, type, pos, after, guard⟩ := o
  cases op <;> simp only [clsT] at hc <;> simp only [opR] at e <;> try (simp at hc; done)
  case slice t x lo hi mx =>
    split at e
    · simp at e
    · split at e
      · obtain ⟨j, hj, e⟩ := opt_some e
        obtain ⟨v, _, rfl⟩ := pureR_some e; exact ⟨v, rfl⟩
      · obtain ⟨j, hj, e⟩ := opt_some e
        obtain ⟨v, _, rfl⟩ := pureR_some e; exact ⟨v, rfl⟩
      · obtain ⟨v, _, rfl⟩ := pureR_some e; exact ⟨v, rfl⟩
      · simp at e
  case binOp => obtain ⟨v, _, rfl⟩ := pureR_some e; exact ⟨v, rfl⟩
  all_goals (first | (split at hc <;> simp at hc; done) | (split at hc <;> (try split at hc) <;> simp at hc; done))

theorem gread_same {o : Oper} {t : Env} {h : Heap} {out : Out} (hc : clsT P o = .read) (e : gopR P C callR ops o t h = some out) : ∃ v, out = .ret v h := by
  rcases gopR_off (h' := h) e with ⟨h1, _⟩ | ⟨h1, _⟩
  · rw [h1] at e; exact read_same hc e
  · exact ⟨skipV, h1⟩

theorem alloc_push {o : Oper} {ρ : Operand → Value} {h : Heap} {out : Out} (hc : clsT P o = .alloc) (e : opR P C callR o ρ h = some out) : ∃ v x, out = .ret v (h.push x) := by
  have nw : ∀ {c : List Value} {out : Out}, newR h c = some out → ∃ v x, out = .ret v (h.push x) := fun {c out} e => by
    simp only [newR, cond_eq_ite] at e
    split at e
    · simp at e; exact ⟨_, _, e.symm⟩
    · simp at e
  obtain ⟨dst, op, type, pos, after, guard⟩ := o
  cases op <;> simp only [clsT] at hc <;> simp only [opR] at e <;> try (simp at hc; done)
  case alloc t =>
    obtain ⟨z, hz, e⟩ := opt_some e
    exact nw e
  case box t x =>
    simp only [boxR, cond_eq_ite] at e
    split at e
    · exact nw e
    · simp at e
  case buildSlice t len ps =>
    obtain ⟨el, he, e⟩ := opt_some e
    obtain ⟨z, hz, e⟩ := opt_some e
    obtain ⟨l, hl, e⟩ := opt_some e
    simp only [cond_eq_ite] at e
    split at e
    · simp only [buildSliceR, cond_eq_ite] at e
      obtain ⟨c, hc', e⟩ := opt_some e
      split at e
      · simp at e; exact ⟨_, _, e.symm⟩
      · simp at e
    · simp at e
  case makeSlice t l c =>
    obtain ⟨el, he, e⟩ := opt_some e
    obtain ⟨z, hz, e⟩ := opt_some e
    simp only [makeR, cond_eq_ite] at e
    obtain ⟨n1, h1, e⟩ := opt_some e
    obtain ⟨n2, h2, e⟩ := opt_some e
    split at e
    · simp at e; exact ⟨_, _, e.symm⟩
    · simp at e
  all_goals (first | (split at hc <;> simp at hc; done) | (split at hc <;> (try split at hc) <;> simp at hc; done))

theorem row_push {h : Heap} {x : Blk} {b : Nat} {c : List Value} (e : h.row b = some c) : (h.push x).row b = some c := by
  unfold Heap.row at e ⊢
  have hb : b < h.len := by
    rcases Nat.lt_or_ge b h.len with h' | h'
    · exact h'
    · rw [List.getElem?_eq_none h'] at e; simp at e
  rw [push_old hb]; exact e

theorem load_push {o : Oper} {ρ : Operand → Value} {h : Heap} {v : Value} (hc : clsT P o = .load) (e : opR P C callR o ρ h = some (.ret v h)) (x : Blk) : opR P C callR o ρ (h.push x) = some (.ret v (h.push x)) := by
  obtain ⟨dst, op, type, pos, after, guard⟩ := o
  cases op <;> simp only [clsT] at hc <;> simp only [opR] at e ⊢ <;> try (simp at hc; done)
  case load t a =>
    obtain ⟨g, hg, e⟩ := opt_some e
    simp only [hg, Option.bind_some]
    cases g
    · simp only [cond_false, ldR] at e ⊢
      obtain ⟨u, h1, h2⟩ := pureR_some e
      simp at h2; subst h2
      have : ld1 (h.push x) (ρ a) = some v := by
        unfold ld1 at h1 ⊢
        split at h1
        · obtain ⟨c, h3, h4⟩ := Option.bind_eq_some_iff.1 h1
          rw [row_push h3]; exact h4
        · simp at h1
      rw [this]; rfl
    · simp only [cond_true, ldNR] at e ⊢
      obtain ⟨u, h1, h2⟩ := pureR_some e
      simp at h2; subst h2
      obtain ⟨l, hl, rfl⟩ := Option.map_eq_some_iff.1 h1
      clear h1
      have : ldN (h.push x) (sizeT P t) (ρ a) = some l := by
        unfold ldN at hl ⊢
        split at hl
        · obtain ⟨c, h3, h4⟩ := Option.bind_eq_some_iff.1 hl
          rw [row_push h3]; exact h4
        · simp at hl
      rw [this]; rfl
  all_goals (first | (split at hc <;> simp at hc; done) | (split at hc <;> (try split at hc) <;> simp at hc; done))

theorem gload_push {o : Oper} {t : Env} {h : Heap} {v : Value} (hc : clsT P o = .load) (e : gopR P C callR ops o t h = some (.ret v h)) (x : Blk) : gopR P C callR ops o t (h.push x) = some (.ret v (h.push x)) := by
  rcases gopR_off (h' := h.push x) e with ⟨h1, h2⟩ | ⟨h1, h2⟩
  · rw [h1] at e; rw [h2]; exact load_push hc e x
  · simp at h1; subst h1; exact h2

theorem galloc_push {o : Oper} {t : Env} {h : Heap} {out : Out} (hc : clsT P o = .alloc) (e : gopR P C callR ops o t h = some out) : ∃ v h1, out = .ret v h1 ∧ (h1 = h ∨ ∃ x, h1 = h.push x) := by
  rcases gopR_off (h' := h) e with ⟨h1, _⟩ | ⟨h1, _⟩
  · rw [h1] at e; obtain ⟨v, x, rfl⟩ := alloc_push hc e; exact ⟨v, _, rfl, .inr ⟨x, rfl⟩⟩
  · exact ⟨_, _, h1, .inl rfl⟩

theorem gload_again {o : Oper} {t : Env} {h h' : Heap} {v : Value} (e : gopR P C callR ops o t h = some (.ret v h)) (ha : againG P C ops o t h' v = true) : gopR P C callR ops o t h' = some (.ret v h') := by
  rcases gopR_off (h' := h') e with ⟨h1, h2⟩ | ⟨h1, h2⟩
  · unfold againG at ha
    unfold gopR at h1 h2 ⊢
    cases hg : o.guard with
    | none => simp only [hg] at ha ⊢; exact again_load ha
    | some g =>
      obtain ⟨j, want⟩ := g
      simp only [hg] at ha ⊢
      cases hd : guardTmp ops j with
      | none => simp [hd] at ha
      | some d =>
        simp only [hd] at ha ⊢
        cases ht : t d <;> simp only [ht] at ha ⊢ <;> try (simp at ha; done)
        · rename_i b
          unfold gopR at e
          simp only [hg, hd, ht] at e
          cases b <;> cases want <;> simp at ha e ⊢
          · exact again_load ha
          · exact e
          · exact e
          · exact again_load ha
        · rename_i r
          unfold gopR at e
          simp only [hg, hd, ht] at e
          cases r <;> simp at ha e ⊢
          exact e
  · simp at h1; subst h1; exact h2

theorem againG_congr {o : Oper} {t t' : Env} {h : Heap} {v : Value} (ht : ∀ x ∈ o.looksAt ops, t x = t' x) : againG P C ops o t h v = againG P C ops o t' h v := by
  have h1 : again P C o t h v = again P C o t' h v := by
    unfold again
    split
    · rename_i ty a ho
      have : ev C t a = ev C t' a := ev_congr fun i hi => by
        subst hi
        exact ht i (by simp only [Oper.looksAt, List.mem_append, List.mem_filterMap]; exact .inl ⟨.tmp i, by simp [ho, Op.operands], rfl⟩)
      rw [this]
    · rfl
  unfold againG
  cases hg : o.guard with
  | none => exact h1
  | some g =>
    obtain ⟨j, want⟩ := g
    simp only
    cases hd : guardTmp ops j with
    | none => rfl
    | some d =>
      simp only
      rw [ht d (by simp only [Oper.looksAt, hg, List.mem_append]; exact .inr (by simp only [guardTmp] at hd; simp [hd])), h1]

end
end Go.AM

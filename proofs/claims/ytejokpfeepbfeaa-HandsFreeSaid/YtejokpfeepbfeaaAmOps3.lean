/-
  The abstract machine: numbers, comparisons, addresses, parts, in both worlds.
-/
import Derived.Test.YtejokpfeepbfeaaAmOps2
namespace Go.AM

/-- What the table says of a type whose values are compared part by part. -/
def AggEq (P : Program) (t : TypeId) (ts : List Tag) : Prop :=
  (∀ (x y : Operand) (op : BinOp) (xs ys : Array Value) (w : World), (eqGuard op t x y (.agg xs) (.agg ys)).run P w = .ok () w) ∧
  ∀ (xs ys : Array Value) (w : World) (b : Bool), eqCells ts xs.toList ys.toList = some b → (Op.equal t (.agg xs) (.agg ys)).run P w = .ok b w

section
variable {P : Program} {μ : Pl} {h : Heap} {w : World}

theorem intB_run {op : BinOp} {t : TypeId} {X Y : Operand} {x y x' y' v : Value} (e : intB op x y = some v) (hx : VP μ h.len x x') (hy : VP μ h.len y y') :
    (do eqGuard op t X Y x' y'; binOp op t x' y' : Sem Value).run P w = .ok v w ∧ VR μ h.len v v := by
  unfold intB at e
  split at e
  · rename_i k a k' b
    cases hx.clean rfl
    cases hy.clean rfl
    simp only [eqGuard_at_int, pure_bind]
    simp only [cond_eq_ite] at e
    split at e
    · rename_i hs
      simp only [shiftV, cond_eq_ite] at e
      split at e
      · simp at e
      · rename_i hb
        simp at hb
        have hb' : ¬ b < 0 := by omega
        cases op <;> simp [isShift] at hs
        · simp at e; subst e; exact ⟨by simp [binOp, Op.shift, hb'], .int _ _⟩
        · simp at e; subst e; exact ⟨by simp [binOp, Op.shift, hb'], .int _ _⟩
    · rename_i hs
      split at e
      · rename_i hk
        simp at hk; subst hk
        cases op <;> simp only [intV, cond_eq_ite] at e <;> simp [isShift] at hs
        case quo => split at e <;> simp at e; rename_i hb; simp at hb; subst e; exact ⟨by simp [binOp, Op.intDiv, hb], .int _ _⟩
        case rem => split at e <;> simp at e; rename_i hb; simp at hb; subst e; exact ⟨by simp [binOp, Op.intDiv, hb], .int _ _⟩
        all_goals
          simp at e; subst e
          refine ⟨?_, by constructor⟩
          simp [binOp, Op.intArith, Op.intBits, Op.intCmp]
      · simp at e
  · simp at e

theorem strB_run {op : BinOp} {t : TypeId} {X Y : Operand} {x y x' y' v : Value} (e : strB op x y = some v) (hx : VP μ h.len x x') (hy : VP μ h.len y y') :
    (do eqGuard op t X Y x' y'; binOp op t x' y' : Sem Value).run P w = .ok v w ∧ VR μ h.len v v := by
  unfold strB at e
  split at e
  · rename_i a b
    cases hx.clean rfl
    cases hy.clean rfl
    simp only [eqGuard_at_string, pure_bind]
    cases op <;> simp only [strV, cond_eq_ite] at e
    case add =>
      split at e
      · rename_i hb
        rw [Nat.ble_eq] at hb
        simp at e; subst e
        have : ¬ (9223372036854775807 < (a.size : Int) + (b.size : Int)) := by omega
        exact ⟨by simp [binOp, Op.stringOp, this], .string _⟩
      · simp at e
    all_goals
      simp at e
      try (subst e; refine ⟨?_, by constructor⟩; simp [binOp, Op.stringOp])
  · simp at e

theorem eqNeq_run {op : BinOp} {t : TypeId} {X Y : Operand} {r : Option Bool} {v x' y' : Value} (e : eqNeq op r = some v)
    (hk : ∀ b, r = some b → (eqGuard op t X Y x' y').run P w = .ok () w ∧ (Op.equal t x' y').run P w = .ok b w ∧
      (∀ k a, x' ≠ .int k a) ∧ (∀ s, x' ≠ .string s) ∧ (∀ k a, x' ≠ .float k a) ∧ (∀ k a c, x' ≠ .complex k a c)) :
    (do eqGuard op t X Y x' y'; binOp op t x' y' : Sem Value).run P w = .ok v w ∧ VR μ h.len v v := by
  unfold eqNeq at e
  split at e
  · simp only [Option.map_eq_some_iff] at e
    obtain ⟨b, hb, rfl⟩ := e
    obtain ⟨h1, h2, h3, h4, h5, h6⟩ := hk b hb
    refine ⟨?_, .bool _⟩
    rw [Sem.run_bind, h1, Result.andThen_ok]
    have : binOp .eql t x' y' = (do pure (.bool (← Op.equal t x' y'))) := by
      cases x' <;> first | rfl | exact absurd rfl (h3 _ _) | exact absurd rfl (h4 _) | exact absurd rfl (h5 _ _) | exact absurd rfl (h6 _ _ _)
    rw [this]; simp [h2]
  · simp only [Option.map_eq_some_iff] at e
    obtain ⟨b, hb, rfl⟩ := e
    obtain ⟨h1, h2, h3, h4, h5, h6⟩ := hk b hb
    refine ⟨?_, .bool _⟩
    rw [Sem.run_bind, h1, Result.andThen_ok]
    have : binOp .neq t x' y' = (do pure (.bool (!(← Op.equal t x' y')))) := by
      cases x' <;> first | rfl | exact absurd rfl (h3 _ _) | exact absurd rfl (h4 _) | exact absurd rfl (h5 _ _) | exact absurd rfl (h6 _ _ _)
    rw [this]; simp [h2]
  · simp at e

theorem equal_run {t : TypeId} {x y : Value} {r : Result Bool} (h : ∀ d, (Op.equalIn (d + 1) t x y).run P w = r) : (Op.equal t x y).run P w = r := h 9999

theorem VR.ptr_inv {n : Nat} {a : Addr} {v' : Value} (h : VR μ n (.pointer (some a)) v') : ∃ b o, a = ⟨b, o, none⟩ ∧ b < n ∧ v' = .pointer (some ⟨(μ b).block, (μ b).base + o, none⟩) := by
  cases h with
  | ptr b o h => exact ⟨b, o, rfl, h, rfl⟩

theorem eqP_run (hr : HR μ h w) {a b a' b' : Addr} {r : Bool} (e : eqP h a b = some r) (ha : VR μ h.len (.pointer (some a)) (.pointer (some a')))
    (hb : VR μ h.len (.pointer (some b)) (.pointer (some b'))) : (sameAddr a' b').run P w = .ok r w := by
  cases ha with
  | ptr x o hx =>
  cases hb with
  | ptr y q hy =>
  simp only [eqP, cond_eq_ite] at e
  split at e
  · rename_i hh
    have := Nat.eq_of_beq_eq_true hh; subst this
    simp at e; subst e
    simp only [sameAddr, beq_self_eq_true, if_true, Sem.run_pure]
    congr 1
    by_cases ho : o = q
    · subst ho; simp
    · rw [show Nat.beq o q = false from by rw [Bool.eq_false_iff]; intro hc; exact ho (Nat.eq_of_beq_eq_true hc)]
      simp; omega
  · rename_i hne
    split at e
    · rename_i hp
      simp at e; subst e
      simp only [Bool.and_eq_true] at hp
      have pl : ∀ z, plainRow h z = true → ∃ c k, h.bs[z]? = some (.cells c k false) := fun z hz => by
        unfold plainRow at hz; split at hz
        · rename_i c k s hh; simp at hz; subst hz; exact ⟨c, k, hh⟩
        · simp at hz
      obtain ⟨c1, k1, h1⟩ := pl x hp.1
      obtain ⟨c2, k2, h2⟩ := pl y hp.2
      obtain ⟨C1, e1, fz1, g1, _, _, _, z1⟩ := hr.blk x _ h1
      obtain ⟨C2, e2, fz2, g2, _, _, _, z2⟩ := hr.blk y _ h2
      simp at z1 z2; subst z1; subst z2
      have hbl : (μ x).block ≠ (μ y).block := fun e => by
        have := hr.apart x y _ _ h1 h2 rfl rfl e
        subst this; simp at hne
      have f1 : ∀ o, w.frozen? ⟨(μ x).block, o, none⟩ = false := fun o => by simp [World.frozen?, g1]
      have f2 : ∀ o, w.frozen? ⟨(μ y).block, o, none⟩ = false := fun o => by simp [World.frozen?, g2]
      have s1 : w.shape? (μ x).block = some (e1, C1.size) := by simp [World.shape?, g1]
      have s2 : w.shape? (μ y).block = some (e2, C2.size) := by simp [World.shape?, g2]
      simp [sameAddr, hbl, f1, f2, noView, viewAt, s1, s2, mayBeOne, stringish]
    · simp at e

theorem tagged_same {n : Nat} {t : Tag} {x y x' y' : Value} {b : Bool} (e : tagged t x y = some b) (hx : VR μ n x x') (hy : VR μ n y y') : x' = x ∧ y' = y := by
  unfold tagged at e
  split at e <;> first | (simp at e; done) | (cases hx; cases hy; exact ⟨rfl, rfl⟩)

theorem eqCells_same {n : Nat} : ∀ (ts : List Tag) (xs ys xs' ys' : List Value) (b : Bool), eqCells ts xs ys = some b → VL (VR μ n) xs xs' → VL (VR μ n) ys ys' → xs' = xs ∧ ys' = ys
  | [], [], [], xs', ys', b, _, hx, hy => ⟨hx.isNil, hy.isNil⟩
  | t :: ts, x :: xs, y :: ys, xs', ys', b, e, hx, hy => by
    obtain ⟨x', l, rfl, h1, h2⟩ := hx.head
    obtain ⟨y', m, rfl, h3, h4⟩ := hy.head
    simp only [eqCells, Option.bind_eq_some_iff, Option.map_eq_some_iff] at e
    obtain ⟨c, hc, d, hd, rfl⟩ := e
    obtain ⟨rfl, rfl⟩ := tagged_same hc h1 h3
    obtain ⟨rfl, rfl⟩ := eqCells_same ts xs ys l m d hd h2 h4
    exact ⟨rfl, rfl⟩
  | [], _ :: _, _, _, _, _, e, _, _ => by simp [eqCells] at e
  | [], [], _ :: _, _, _, _, e, _, _ => by simp [eqCells] at e
  | _ :: _, [], _, _, _, _, e, _, _ => by simp [eqCells] at e
  | _ :: _, _ :: _, [], _, _, _, e, _, _ => by simp [eqCells] at e

theorem binV_gives (hr : HR μ h w) {C : Cfg} (hC : ∀ t ts, C.eqT t = some ts → AggEq P t ts) {op : BinOp} {t : TypeId} {X Y : Operand} {x y x' y' v : Value}
    (e : binV P C h op t x y = some v) (hx : VP μ h.len x x') (hy : VP μ h.len y y') :
    (do eqGuard op t X Y x' y'; binOp op t x' y' : Sem Value).run P w = .ok v w ∧ VR μ h.len v v := by
  unfold binV at e
  split at e
  · exact intB_run e hx hy
  · exact strB_run e hx hy
  · rename_i hu
    refine eqNeq_run e fun b hb => ?_
    unfold boolE at hb; split at hb <;> simp at hb; subst hb
    cases hx.clean rfl
    cases hy.clean rfl
    exact ⟨by rw [eqGuard_at_bool]; rfl, equal_run fun d => by simp [Op.equalIn, run_underlying hu], by simp, by simp, by simp, by simp⟩
  · rename_i el hu
    simp only [cond_eq_ite] at e
    split at e
    · simp at e
    · rename_i hsz
      refine eqNeq_run e fun b hb => ?_
      have hsz' : sizeT P el ≠ 0 := fun hh => by rw [hh] at hsz; simp at hsz
      obtain ⟨i, hi⟩ : ∃ i, P.info? el = some i := by
        cases hi : P.info? el with
        | none => simp [sizeT, Program.cellsOf, hi] at hsz'
        | some i => exact ⟨i, rfl⟩
      unfold ptrE at hb; split at hb
      · rename_i p
        simp at hb; subst hb
        cases hx.clean rfl
        cases p with
        | none => cases hy.clean rfl; exact ⟨by rw [eqGuard_at_pointer]; rfl, equal_run fun d => by simp [Op.equalIn, run_underlying hu], by simp, by simp, by simp, by simp⟩
        | some p =>
          obtain ⟨c, o, rfl, _, rfl⟩ := (hy.clean rfl).ptr_inv
          exact ⟨by rw [eqGuard_at_pointer]; rfl, equal_run fun d => by simp [Op.equalIn, run_underlying hu], by simp, by simp, by simp, by simp⟩
      · simp at hb; subst hb
        obtain ⟨c, o, rfl, _, rfl⟩ := (hx.clean rfl).ptr_inv
        cases hy.clean rfl
        exact ⟨by rw [eqGuard_at_pointer]; rfl, equal_run fun d => by simp [Op.equalIn, run_underlying hu], by simp, by simp, by simp, by simp⟩
      · have hx' := hx.clean rfl
        have hy' := hy.clean rfl
        obtain ⟨c, o, rfl, hc, rfl⟩ := hx'.ptr_inv
        obtain ⟨d, q, rfl, hd, rfl⟩ := hy'.ptr_inv
        have := eqP_run (P := P) hr hb hx' hy'
        exact ⟨by rw [eqGuard_at_pointer]; rfl, equal_run fun d => by simp [Op.equalIn, run_underlying hu, run_size hi, hsz', this], by simp, by simp, by simp, by simp⟩
      · simp at hb
  · rename_i hu
    refine eqNeq_run e fun b hb => ?_
    unfold sliceE at hb; split at hb
    · rename_i p l c
      simp at hb; subst hb
      cases hx.clean rfl
      cases hy.clean rfl <;> exact ⟨by rw [eqGuard_at_slice]; rfl, equal_run fun d => by simp [Op.equalIn, run_underlying hu], by simp, by simp, by simp, by simp⟩
    · simp at hb; subst hb
      have hx' := hx.clean rfl
      cases hy.clean rfl
      cases hx' <;> exact ⟨by rw [eqGuard_at_slice]; rfl, equal_run fun d => by simp [Op.equalIn, run_underlying hu], by simp, by simp, by simp, by simp⟩
    · simp at hb
  · rename_i hu
    refine eqNeq_run e fun b hb => ?_
    unfold mapE at hb; split at hb
    · rename_i p
      simp at hb; subst hb
      cases hx.clean rfl
      cases hy.clean rfl <;> exact ⟨by rw [eqGuard_at_map]; rfl, equal_run fun d => by simp [Op.equalIn, run_underlying hu], by simp, by simp, by simp, by simp⟩
    · simp at hb; subst hb
      have hx' := hx.clean rfl
      cases hy.clean rfl
      cases hx' <;> exact ⟨by rw [eqGuard_at_map]; rfl, equal_run fun d => by simp [Op.equalIn, run_underlying hu], by simp, by simp, by simp, by simp⟩
    · simp at hb
  · rename_i hu
    refine eqNeq_run e fun b hb => ?_
    unfold funcE at hb; split at hb
    · simp at hb; subst hb
      cases hx.clean rfl
      cases hy.clean rfl
      exact ⟨by rw [eqGuard_at_nilFunc]; rfl, equal_run fun d => by simp [Op.equalIn, run_underlying hu], by simp, by simp, by simp, by simp⟩
    · simp at hb; subst hb
      cases hx.clean rfl
      cases hy.clean rfl
      exact ⟨by rw [eqGuard_at_nilFunc]; rfl, equal_run fun d => by simp [Op.equalIn, run_underlying hu], by simp, by simp, by simp, by simp⟩
    · simp at hb; subst hb
      have hx' := hx.clean rfl
      cases hy.clean rfl
      cases hx'
      exact ⟨by rw [eqGuard_at_func]; rfl, equal_run fun d => by simp [Op.equalIn, run_underlying hu], by simp, by simp, by simp, by simp⟩
    · simp at hb
  · rename_i hu
    refine eqNeq_run e fun b hb => ?_
    unfold ifaceE at hb; split at hb
    · simp at hb; subst hb
      cases hx.clean rfl
      cases hy.clean rfl
      exact ⟨by rw [eqGuard_nil_iface]; rfl, equal_run fun d => by simp [Op.equalIn, run_underlying hu], by simp, by simp, by simp, by simp⟩
    · simp at hb; subst hb
      have hx' := hx.clean rfl
      cases hy.clean rfl
      cases hx'
      exact ⟨by rw [eqGuard_at_iface]; rfl, equal_run fun d => by simp [Op.equalIn, run_underlying hu], by simp, by simp, by simp, by simp⟩
    · simp at hb
  all_goals try (simp at e; done)
  all_goals
    refine eqNeq_run e fun b hb => ?_
    simp only [Option.bind_eq_some_iff] at hb
    obtain ⟨ts, h1, h2⟩ := hb
    unfold aggE at h2
    split at h2
    · have hx' := hx.clean rfl
      have hy' := hy.clean rfl
      cases hx' with
      | agg a a' hsa hha =>
      cases hy' with
      | agg c c' hsc hhc =>
      obtain ⟨k1, k2⟩ := eqCells_same ts _ _ _ _ _ h2 (VR.agg_iff.1 (.agg _ _ hsa hha)) (VR.agg_iff.1 (.agg _ _ hsc hhc))
      have k1 := Array.ext' k1
      have k2 := Array.ext' k2
      subst k1; subst k2
      obtain ⟨g1, g2⟩ := hC t ts h1
      exact ⟨g1 _ _ _ _ _ _, g2 _ _ _ _ h2, by simp, by simp, by simp, by simp⟩
    · simp at h2

end
end Go.AM

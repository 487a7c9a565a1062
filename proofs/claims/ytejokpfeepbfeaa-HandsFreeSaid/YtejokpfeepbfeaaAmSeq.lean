/-
  The abstract machine: a region in the order of the text; what an operation's kind says of it.
-/
import Derived.Test.YtejokpfeepbfeaaAmOp
import Derived.Orders
namespace Go.AM

/-- The frame of the abstract machine and the model's. -/
structure ER (μ : Pl) (n : Nat) (t : Env) (N : Nat) (a : Act) : Prop where
  defers : a.defers = []
  size : a.tmps.size = N
  vals : ∀ i, VP μ n (t i) (a.tmps.getD i undef)

theorem cst_VP (μ : Pl) (n : Nat) (v : Value) : VP μ n (cst v) v := by
  unfold cst; split <;> first | exact .of (by constructor) | exact .undef _ _ _

theorem ER.eval {C : Cfg} {μ : Pl} {n N : Nat} {t : Env} {a : Act} (h : ER μ n t N a) (hg : GL C μ n) (x : Operand) : VP μ n (ev C t x) (a.eval x) := by
  cases x with
  | tmp i => exact h.vals i
  | const v => exact cst_VP _ _ _
  | global g =>
    simp only [ev, cond_eq_ite, Act.eval]
    split
    · rename_i hh
      rw [Nat.blt_eq] at hh
      obtain ⟨h1, h2, h3⟩ := hg g hh
      have := VR.ptr (μ := μ) g 0 h1
      rw [h2, h3] at this
      exact .of this
    · exact .undef _ _ _
  | func f => exact .of (.func f #[] #[] #[] #[] rfl rfl (fun i hi => by simp at hi) (fun i hi => by simp at hi))

theorem ER.mono {μ μ' : Pl} {n n' N : Nat} {t : Env} {a : Act} (h : ER μ n t N a) (hm : ∀ b, b < n → μ' b = μ b) (hn : n ≤ n') : ER μ' n' t N a :=
  ⟨h.defers, h.size, fun i => (h.vals i).mono hm hn⟩

theorem getD_set (t : Array Value) (d i : Nat) (v : Value) (hd : d < t.size) : (t.setIfInBounds d v).getD i undef = if i = d then v else t.getD i undef := by
  simp only [Array.getD_eq_getD_getElem?, Array.getElem?_setIfInBounds]
  by_cases h : i = d
  · subst h; simp [hd]
  · simp [h, Ne.symm h]

theorem ER.put {μ : Pl} {n N : Nat} {t : Env} {a : Act} (h : ER μ n t N a) {d : Option Tmp} (hd : ∀ x, d = some x → x < N) {v v' : Value} (hv : VP μ n v v') : ER μ n (put t d v) N (a.put d v') := by
  cases d with
  | none => exact h
  | some x =>
    refine ⟨h.defers, by simp [Act.put, h.size], fun i => ?_⟩
    simp only [AM.put, Act.put, cond_eq_ite]
    rw [getD_set _ _ _ _ (by rw [h.size]; exact hd x rfl)]
    by_cases e : i = x
    · subst e; simpa using hv
    · rw [if_neg e, if_neg (by intro hh; exact e (Nat.eq_of_beq_eq_true hh))]; exact h.vals i

theorem GL.mono {C : Cfg} {μ μ' : Pl} {n n' : Nat} (h : GL C μ n) (hm : ∀ b, b < n → μ' b = μ b) (hn : n ≤ n') : GL C μ' n' := fun g hg => by
  obtain ⟨h1, h2, h3⟩ := h g hg
  rw [hm g h1]; exact ⟨by omega, h2, h3⟩

theorem Step.gl {C : Cfg} {μ μ1 : Pl} {h h1 : Heap} {w w1 : World} (s : Step μ h w μ1 h1 w1) (hg : GL C μ h.len) : GL C μ1 h1.len := hg.mono s.pl s.len

/-- Where the abstract machine stands, and the model. -/
def At (μ0 : Pl) (h0 : Heap) (w0 : World) (N : Nat) (t : Env) (h : Heap) (a : Act) (w : World) : Prop :=
  ∃ μ, Step μ0 h0 w0 μ h w ∧ ER μ h.len t N a

/-- A panic that leaves the function. -/
def PanOk (μ0 : Pl) (h0 : Heap) (w0 : World) (out : Out) (Q : Exit → Act → World → Prop) : Prop :=
  ∀ v h1, out = .pan v h1 → ∀ μ1 v' a w, Step μ0 h0 w0 μ1 h1 w → VR μ1 h1.len v v' → a.defers = [] → Q (.panic [{ v := v', recovered := false }]) a w

section
variable {P : Program} {C : Cfg} {callR : FuncId → List Value → Heap → Res} {μ0 : Pl} {h0 : Heap} {w0 : World} {N : Nat} {ops : Array Oper} {Q : Exit → Act → World → Prop}

theorem bindR_some {r : Res} {k : Value → Heap → Res} {out : Out} (e : bindR r k = some out) : (∃ v h, r = some (.ret v h) ∧ k v h = some out) ∨ (∃ v h, r = some (.pan v h) ∧ out = .pan v h) := by
  unfold bindR at e; split at e
  · simp at e
  · rename_i v h; exact .inl ⟨v, h, rfl, e⟩
  · rename_i v h; simp at e; exact .inr ⟨v, h, rfl, e.symm⟩

/-- The guard, in both worlds. -/
theorem gopR_cases {o : Oper} {t : Env} {h : Heap} {out : Out} {μ : Pl} {a : Act} (e : gopR P C callR ops o t h = some out) (he : ER μ h.len t N a) :
    (Region.wanted o (yielded ops a.tmps) = true ∧ opR P C callR o (ev C t) h = some out) ∨ (Region.wanted o (yielded ops a.tmps) = false ∧ out = .ret skipV h) := by
  unfold gopR at e
  split at e
  · rename_i hg; exact .inl ⟨by simp [Region.wanted, hg], e⟩
  · rename_i j want hg
    split at e
    · rename_i d hd
      split at e
      · rename_i b hb
        have hv := he.vals d
        rw [hb] at hv
        have hv := hv.clean rfl
        generalize hcv : a.tmps.getD d undef = cv at hv
        cases hv
        have hy : yielded ops a.tmps j = some b := by
          simp only [guardTmp] at hd
          have : a.tmps[d]? = some (.bool b) := by
            rw [Array.getD_eq_getD_getElem?] at hcv
            cases hh : a.tmps[d]? with
            | none => rw [hh] at hcv; simp [Go.undef] at hcv
            | some u => rw [hh] at hcv; simpa using hcv
          simp [yielded, hd, this]
        cases b <;> cases want <;> simp at e
        · exact .inl ⟨by simp [Region.wanted, hg, hy], e⟩
        · exact .inr ⟨by simp [Region.wanted, hg, hy], e.symm⟩
        · exact .inr ⟨by simp [Region.wanted, hg, hy], e.symm⟩
        · exact .inl ⟨by simp [Region.wanted, hg, hy], e⟩
      · rename_i hb
        have hv := he.vals d
        rw [hb] at hv
        have hcv : a.tmps.getD d undef = Go.undef := by
          generalize a.tmps.getD d undef = cv at hv
          rcases hv with hh | hh
          · cases hh
          · cases hh; rfl
        simp at e
        refine .inr ⟨?_, e.symm⟩
        have hy : yielded ops a.tmps j = none := by
          simp only [guardTmp] at hd
          rw [Array.getD_eq_getD_getElem?] at hcv
          cases hh : a.tmps[d]? with
          | none => simp [yielded, hd, hh]
          | some u => rw [hh] at hcv; simp at hcv; subst hcv; simp [yielded, hd, hh, Go.undef]
        simp [Region.wanted, hg, hy]
      · simp at e
    · simp at e

/-- One operation, its guard with it. -/
theorem gopR_wp (hC : C.Ok P) (hcall : CallsOk P C callR) (hgl0 : GL C μ0 h0.len) {i : Nat} {o : Oper} {t : Env} {h : Heap} {out : Out} {a : Act} {w : World} {K : Act → World → Prop}
    (hi : ops[i]? = some o) (e : gopR P C callR ops o t h = some out) (hat : At μ0 h0 w0 N t h a w) (hd : ∀ x, o.dst = some x → x < N)
    (hk : ∀ v h1, out = .ret v h1 → ∀ v' w1 μ1, Step μ0 h0 w0 μ1 h1 w1 → VP μ1 h1.len v v' → ER μ1 h1.len (put t o.dst v) N (a.put o.dst v') → K (a.put o.dst v') w1)
    (hp : PanOk μ0 h0 w0 out Q) : wpOp P ops Q i K a w := by
  obtain ⟨μ, hs, he⟩ := hat
  unfold wpOp
  simp only [hi]
  rcases gopR_cases e he with ⟨hw, ho⟩ | ⟨hw, rfl⟩
  · simp only [hw, if_true]
    refine .inl (opR_wp hC hcall hs.hr (hs.gl hgl0) ho (fun x => he.eval (hs.gl hgl0) x) (fun v h1 hout μ1 v' w1 s1 hv => ?_) (fun v h1 hout μ1 v' w1 s1 hv => ?_))
    · exact hk v h1 hout v' w1 μ1 (hs.trans s1) hv ((he.mono s1.pl s1.len).put hd hv)
    · exact hp v h1 hout μ1 v' a w1 (hs.trans s1) hv he.defers
  · simp only [hw, Bool.false_eq_true, if_false]
    exact hk skipV h rfl undef w μ hs (.of .skip) (he.put hd (.of .skip))

/-- A region in the order of the text. -/
theorem opsR_wp (hC : C.Ok P) (hcall : CallsOk P C callR) (hgl0 : GL C μ0 h0.len) {out : Out} {K : Env → Heap → Res} (hp : PanOk μ0 h0 w0 out Q)
    (hK : ∀ t h a w, K t h = some out → At μ0 h0 w0 N t h a w → Q .normal a w) :
    ∀ (l : List Oper) (k : Nat) (t : Env) (h : Heap) (a : Act) (w : World), ops.toList.drop k = l → (∀ o ∈ l, ∀ x, o.dst = some x → x < N) → opsR P C callR ops K l t h = some out →
      At μ0 h0 w0 N t h a w → wpOps P ops Q (List.range' k l.length) a w
  | [], k, t, h, a, w, _, _, e, hat => hK t h a w e hat
  | o :: l, k, t, h, a, w, hl, hd, e, hat => by
    have hi : ops[k]? = some o := by
      rw [← Array.getElem?_toList]
      have := congrArg (·[0]?) hl
      simpa using this
    simp only [opsR] at e
    rw [List.length_cons, List.range'_succ, wpOps_cons]
    rcases bindR_some e with ⟨v, h1, h2, h3⟩ | ⟨v, h1, h2, rfl⟩
    · refine gopR_wp (Q := Q) hC hcall hgl0 hi h2 hat (hd o (by simp)) (fun v1 h2 hout v' w1 μ1 hs hv her => ?_) (fun v h1 hh => by simp at hh)
      simp at hout; obtain ⟨rfl, rfl⟩ := hout
      refine opsR_wp hC hcall hgl0 hp hK l (k + 1) _ _ _ _ ?_ (fun o ho => hd o (by simp [ho])) h3 ⟨μ1, hs, her⟩
      rw [← List.drop_drop, hl]; rfl
    · exact gopR_wp hC hcall hgl0 hi h2 hat (hd o (by simp)) (fun v1 h2 hout => by simp at hout) hp

theorem region_wp (hC : C.Ok P) (hcall : CallsOk P C callR) (hgl0 : GL C μ0 h0.len) {out : Out} {K : Env → Heap → Res} (hp : PanOk μ0 h0 w0 out Q)
    (hK : ∀ t h a w, K t h = some out → At μ0 h0 w0 N t h a w → Q .normal a w) {id : Nat} {t : Env} {h : Heap} {a : Act} {w : World}
    (hd : ∀ o ∈ ops.toList, ∀ x, o.dst = some x → x < N) (e : opsR P C callR ops K ops.toList t h = some out) (hat : At μ0 h0 w0 N t h a w) : (Code.region id ops false).wp P Q a w := by
  refine wp_region ?_
  have := opsR_wp hC hcall hgl0 hp hK ops.toList 0 t h a w rfl hd e hat
  rwa [Array.length_toList, ← List.range_eq_range'] at this

end

-- kinds of operations

inductive Cls where
  | pure | load | read | alloc | eff
  deriving DecidableEq

def clsT (P : Program) (o : Oper) : Cls :=
  match o.op with
  | .move _ | .assign _ | .pick .. | .build .. | .nilCheck _ | .unOp .. | .makeInterface .. | .makeFunc .. | .fieldAddr .. | .field .. | .indexAddr .. | .index .. | .extract .. => .pure
  | .convert _ d _ => match P.underlying d with
    | some (.int _) => .pure
    | _ => .eff
  | .slice t _ _ _ _ => match P.underlying t with
    | some (.array _ _) => .read
    | _ => .pure
  | .binOp _ t _ _ _ => match P.underlying t with
    | some (.pointer _) => .read
    | _ => .pure
  | .load .. => .load
  | .alloc _ | .box .. | .buildSlice .. | .makeSlice .. => .alloc
  | .call c => match c.callee with
    | .builtin .len | .builtin .min | .builtin .max => .pure
    | _ => .eff
  | _ => .eff

section
variable {P : Program} {C : Cfg} {callR : FuncId → List Value → Heap → Res}

/-- What is pure hangs on no heap. -/
theorem pure_any {o : Oper} {ρ : Operand → Value} {h : Heap} {out : Out} (hc : clsT P o = .pure) (e : opR P C callR o ρ h = some out) :
    ∃ v, out = .ret v h ∧ ∀ h', opR P C callR o ρ h' = some (.ret v h') := by
  have pr : ∀ {x : Option Value} {out : Out}, pureR x h = some out → ∃ v, out = .ret v h ∧ ∀ h', pureR x h' = some (.ret v h') := fun {x out} e => by
    obtain ⟨v, rfl, rfl⟩ := pureR_some e; exact ⟨v, rfl, fun _ => rfl⟩
  obtain ⟨dst, op, type, pos, after, guard⟩ := o
  cases op <;> simp only [clsT] at hc <;> simp only [opR] at e ⊢ <;> try (simp at hc; done)
  case move x => simp at e; exact ⟨_, e.symm, fun _ => rfl⟩
  case assign x => simp at e; exact ⟨_, e.symm, fun _ => rfl⟩
  case pick => exact pr e
  case build t ps =>
    obtain ⟨z, hz, e⟩ := opt_some e
    obtain ⟨pl, hpl, e⟩ := opt_some e
    obtain ⟨l, hl, e⟩ := opt_some e
    simp only [hz, hpl, hl, Option.bind_some]
    exact pr e
  case nilCheck => exact pr e
  case unOp => exact pr e
  case makeInterface t x =>
    split at e
    · simp at e
    · exact pr e
    · simp at e
  case makeFunc => exact pr e
  case fieldAddr s x f =>
    obtain ⟨fd, hf, e⟩ := opt_some e
    simp only [hf, Option.bind_some]
    simp only [cond_eq_ite] at e ⊢
    split at e
    · simp at e
    · rename_i hs; simp only [if_neg hs]; exact pr e
  case field s x f =>
    obtain ⟨fd, hf, e⟩ := opt_some e
    obtain ⟨g, hg, e⟩ := opt_some e
    simp only [hf, hg, Option.bind_some]
    exact pr e
  case indexAddr t x i =>
    split at e
    · obtain ⟨j, hj, e⟩ := opt_some e; simp only [hj, Option.bind_some]; exact pr e
    · obtain ⟨j, hj, e⟩ := opt_some e; simp only [hj, Option.bind_some]; exact pr e
    · simp at e
  case index t x i =>
    split at e
    · exact pr e
    · obtain ⟨j, hj, e⟩ := opt_some e; simp only [hj, Option.bind_some]; exact pr e
    · simp at e
  case extract => exact pr e
  case convert s d x =>
    obtain ⟨sd, h1, e⟩ := opt_some e
    obtain ⟨k, h2, e⟩ := opt_some e
    simp only [h1, h2, Option.bind_some]
    exact pr e
  case slice t x lo hi mx =>
    split at e
    · simp at e
    · split at e
      · rename_i hu; rw [hu] at hc; simp at hc
      · obtain ⟨j, hj, e⟩ := opt_some e; simp only [hj, Option.bind_some]; exact pr e
      · exact pr e
      · simp at e
  case binOp op t x y ty =>
    obtain ⟨v, hv, rfl⟩ := pureR_some e
    refine ⟨v, rfl, fun h' => ?_⟩
    have : binV P C h' op t (ρ x) (ρ y) = some v := by
      unfold binV at hv ⊢
      split at hv <;> first | exact hv | (rename_i hu; rw [hu] at hc; simp at hc)
    rw [this]; rfl
  case call c =>
    obtain ⟨cal, args, ats⟩ := c
    cases cal <;> simp at hc
    case builtin b =>
      cases b <;> simp at hc <;> simp only at e ⊢
      case len =>
        cases htl : ats.toList with
        | nil => simp [htl] at e
        | cons t r =>
          cases hal : args.toList with
          | nil => simp [htl, hal] at e
          | cons x r2 =>
            cases r2 with
            | nil =>
              simp only [htl, hal, cond_eq_ite] at e ⊢
              split at e
              · rename_i hl; simp only [if_pos hl]; exact pr e
              · simp at e
            | cons => simp [htl, hal] at e
      case max =>
        cases hal : args.toList with
        | nil => simp [hal] at e
        | cons x r2 =>
          cases r2 with
          | nil => simp [hal] at e
          | cons y r3 =>
            cases r3 with
            | nil => simp only [hal] at e ⊢; exact pr e
            | cons => simp [hal] at e
      case min =>
        cases hal : args.toList with
        | nil => simp [hal] at e
        | cons x r2 =>
          cases r2 with
          | nil => simp [hal] at e
          | cons y r3 =>
            cases r3 with
            | nil => simp only [hal] at e ⊢; exact pr e
            | cons => simp [hal] at e

theorem load_same {o : Oper} {ρ : Operand → Value} {h : Heap} {out : Out} (hc : clsT P o = .load) (e : opR P C callR o ρ h = some out) : ∃ v, out = .ret v h := by
  obtain ⟨dst, op, type, pos, after, guard⟩ := o
  cases op <;> simp only [clsT] at hc <;> simp only [opR] at e <;> try (simp at hc; done)
  case load t x =>
    obtain ⟨g, hg, e⟩ := opt_some e
    cases g
    · obtain ⟨v, _, rfl⟩ := pureR_some (by simpa [ldR] using e); exact ⟨v, rfl⟩
    · obtain ⟨v, _, rfl⟩ := pureR_some (by simpa [ldNR] using e); exact ⟨v, rfl⟩
  all_goals (first | (split at hc <;> simp at hc; done) | (split at hc <;> (try split at hc) <;> simp at hc; done))

end
end Go.AM

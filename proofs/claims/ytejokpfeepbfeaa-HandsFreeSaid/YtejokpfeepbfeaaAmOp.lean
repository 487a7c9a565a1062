/-
  The abstract machine: one operation, in both worlds; what is asked of the tables and of a call.
-/
import Derived.Test.YtejokpfeepbfeaaAmOps7
namespace Go.AM

/-- The package variables lie where they lie. -/
def GL (C : Cfg) (μ : Pl) (n : Nat) : Prop := ∀ g, g < C.ng → g < n ∧ (μ g).block = g ∧ (μ g).base = 0

/-- What a call leaves. -/
def CallPost (μ : Pl) (h : Heap) (w : World) (out : Out) (e : Ending) (w1 : World) : Prop :=
  match out with
  | .ret v h1 => ∃ μ1 v', e = .returned v' ∧ VP μ1 h1.len v v' ∧ Step μ h w μ1 h1 w1
  | .pan v h1 => ∃ μ1 v', e = .panicked [{ v := v', recovered := false }] ∧ VR μ1 h1.len v v' ∧ Step μ h w μ1 h1 w1

structure CallsOk (P : Program) (C : Cfg) (callR : FuncId → List Value → Heap → Res) : Prop where
  calls : ∀ {g args h out}, callR g args h = some out → ∀ {μ w args'}, HR μ h w → GL C μ h.len → VL (VP μ h.len) args args' → Calls P g args'.toArray w (CallPost μ h w out)
  body : ∀ {g args h out}, callR g args h = some out → ∃ fn c, P.funcs[g]? = some fn ∧ fn.body = some c

structure Cfg.Ok (P : Program) (C : Cfg) : Prop where
  eqT : ∀ t ts, C.eqT t = some ts → AggEq P t ts
  name : ∀ (f : FuncId) (fn : Func), P.funcs[f]? = some fn → fn.name ≠ "runtime.NumGoroutine"

section
variable {P : Program} {C : Cfg} {callR : FuncId → List Value → Heap → Res} {μ : Pl} {h : Heap} {w : World} {a : Act} {K : Act → World → Prop} {Q : Exit → Act → World → Prop}

theorem wp_of_gives {o : Oper} {s : Sem Value} {v : Value} {h1 : Heap} (hg : Gives P μ h w s v h1) (he : execOp a.eval o = (do pure (.value (← s))))
    (hk : ∀ μ1 v' w1, Step μ h w μ1 h1 w1 → VP μ1 h1.len v v' → K (a.put o.dst v') w1) : o.wp P a w K Q := by
  obtain ⟨μ1, v', w1, hrun, hv, hs⟩ := hg
  unfold Oper.wp
  rw [he]
  simp only [Sem.run_bind, hrun, Result.andThen_ok, Sem.run_pure, Oper.upon]
  exact hk μ1 v' w1 hs hv

theorem wp_of_givesU {o : Oper} {s : Sem Unit} {h1 : Heap} (hg : GivesU P μ h w s h1) (he : execOp a.eval o = (do s; pure .skip))
    (hk : ∀ μ1 v' w1, Step μ h w μ1 h1 w1 → VP μ1 h1.len undef v' → K (a.put o.dst v') w1) : o.wp P a w K Q := by
  obtain ⟨μ1, w1, hrun, hs⟩ := hg
  unfold Oper.wp
  rw [he]
  simp only [Sem.run_bind, hrun, Result.andThen_ok, Sem.run_pure, Oper.upon]
  exact hk μ1 undef w1 hs (.undef _ _ _)

theorem wp_value {o : Oper} {v v' : Value} (hr : HR μ h w) (he : (execOp a.eval o).run P w = .ok (.value v') w) (hv : VP μ h.len v v')
    (hk : ∀ μ1 v' w1, Step μ h w μ1 h w1 → VP μ1 h.len v v' → K (a.put o.dst v') w1) : o.wp P a w K Q := by
  unfold Oper.wp
  rw [he]
  exact hk μ v' w (.refl hr) hv

theorem opt_some {α : Type} {o : Option α} {r : Out} {f : α → Res} (e : o.bind f = some r) : ∃ x, o = some x ∧ f x = some r := by
  simpa [Option.bind_eq_some_iff] using e

theorem opR_wp (hC : C.Ok P) (hcall : CallsOk P C callR) (hr : HR μ h w) (hgl : GL C μ h.len) {o : Oper} {ρ : Operand → Value} {out : Out} (e : opR P C callR o ρ h = some out)
    (hρ : ∀ x, VP μ h.len (ρ x) (a.eval x))
    (hk : ∀ v h1, out = .ret v h1 → ∀ μ1 v' w1, Step μ h w μ1 h1 w1 → VP μ1 h1.len v v' → K (a.put o.dst v') w1)
    (hp : ∀ v h1, out = .pan v h1 → ∀ μ1 v' w1, Step μ h w μ1 h1 w1 → VR μ1 h1.len v v' → Q (.panic [{ v := v', recovered := false }]) a w1) : o.wp P a w K Q := by
  obtain ⟨dst, op, type, pos, after, guard⟩ := o
  cases op <;> simp only [opR] at e
  case move x => simp at e; subst e; exact wp_value hr rfl (hρ x) (hk _ _ rfl)
  case assign x => simp at e; subst e; exact wp_value hr rfl (hρ x) (hk _ _ rfl)
  case pick c x y =>
    obtain ⟨v, hv, rfl⟩ := pureR_some e
    unfold pickV at hv; split at hv
    · rename_i b hb
      simp at hv; subst hv
      have hc := hρ c
      rw [hb] at hc
      have hc := hc.clean rfl
      generalize hcv : a.eval c = cv at hc
      cases hc
      refine wp_value (v' := if b = true then a.eval x else a.eval y) hr ?_ ?_ (hk _ _ rfl)
      · simp [execOp, hcv, asBool]
      · cases b <;> simp <;> exact hρ _
    · simp at hv
  case alloc t =>
    obtain ⟨z, hz, e⟩ := opt_some e
    obtain ⟨u, h1, rfl, hg⟩ := alloc_gives hr hz e
    exact wp_of_gives hg rfl (hk _ _ rfl)
  case box t x =>
    obtain ⟨u, h1, rfl, hg⟩ := box_gives (P := P) hr e (hρ x)
    exact wp_of_gives hg rfl (hk _ _ rfl)
  case build t ps =>
    obtain ⟨z, hz, e⟩ := opt_some e
    obtain ⟨pl, hpl, e⟩ := opt_some e
    obtain ⟨l, hl, e⟩ := opt_some e
    obtain ⟨u, rfl, hg⟩ := build_gives hr hz hpl hl e hρ
    exact wp_of_gives hg rfl (hk _ _ rfl)
  case buildSlice t len ps =>
    obtain ⟨el, he, e⟩ := opt_some e
    obtain ⟨z, hz, e⟩ := opt_some e
    obtain ⟨l, hl, e⟩ := opt_some e
    simp only [cond_eq_ite] at e
    split at e
    · rename_i hb
      rw [Nat.ble_eq] at hb
      obtain ⟨u, h1, rfl, hg⟩ := buildSlice_gives hr he hz hl hb e hρ
      exact wp_of_gives hg rfl (hk _ _ rfl)
    · simp at e
  case load t x =>
    obtain ⟨g, hg, e⟩ := opt_some e
    obtain ⟨v, rfl, hgv⟩ := load_gives hr hg e (hρ x)
    exact wp_of_gives hgv rfl (hk _ _ rfl)
  case store t x y =>
    obtain ⟨g, hg, e⟩ := opt_some e
    obtain ⟨h1, rfl, hgu⟩ := store_gives hr hg e (hρ x) (hρ y)
    exact wp_of_givesU hgu rfl (hk _ _ rfl)
  case nilCheck x =>
    obtain ⟨v, hv, rfl⟩ := pureR_some e
    unfold nonnil at hv; split at hv
    · rename_i b o hb
      simp at hv; subst hv
      have hx := hρ x
      rw [hb] at hx
      obtain ⟨b', o', he, hlt, hx'⟩ := (hx.clean rfl).ptr_inv
      refine wp_value (v' := a.eval x) hr ?_ hx (hk _ _ rfl)
      simp [execOp, hx']
    · rename_i f x1 c1 hb
      simp at hv; subst hv
      have hx := hρ x
      rw [hb] at hx
      refine wp_value (v' := a.eval x) hr ?_ hx (hk _ _ rfl)
      have hx := hx.clean rfl
      generalize hcv : a.eval x = cv at hx
      cases hx
      simp [execOp, hcv]
    · simp at hv
  case binOp op t x y yt =>
    obtain ⟨v, hv, rfl⟩ := pureR_some e
    obtain ⟨h1, h2⟩ := binV_gives (X := x) (Y := y) hr hC.eqT hv (hρ x) (hρ y)
    exact wp_of_gives (s := do eqGuard op t x y (a.eval x) (a.eval y); binOp op t (a.eval x) (a.eval y)) (.still hr h1 (.of h2)) rfl (hk _ _ rfl)
  case unOp op t x =>
    obtain ⟨v, hv, rfl⟩ := pureR_some e
    exact wp_of_gives (unV_gives hr hv (hρ x)) rfl (hk _ _ rfl)
  case convert src dt x =>
    obtain ⟨sd, hsd, e⟩ := opt_some e
    obtain ⟨k, hk', e⟩ := opt_some e
    obtain ⟨v, hv, rfl⟩ := pureR_some e
    unfold convI at hv; split at hv
    · rename_i kx n hx
      simp at hv; subst hv
      have hxx := hρ x
      rw [hx] at hxx
      have hxx := hxx.clean rfl
      generalize hcv : a.eval x = cv at hxx
      cases hxx
      have hu : P.underlying dt = some (.int k) := by
        unfold intT at hk'; split at hk'
        · rename_i hh; simp at hk'; subst hk'; exact hh
        · simp at hk'
      refine wp_value (v' := .int k (k.wrap n)) hr ?_ (.of (.int _ _)) (hk _ _ rfl)
      simp [execOp, hcv, convert, run_underlying hsd, run_underlying hu, Conv.intToInt]
    · simp at hv
  case makeInterface t x =>
    split at e
    · simp at e
    · rename_i d hd hu
      obtain ⟨v, hv, rfl⟩ := pureR_some e
      exact wp_of_gives (ifaceV_gives hr hu (fun ms hh => hd ms (by rw [hh])) hv (hρ x)) rfl (hk _ _ rfl)
    · simp at e
  case makeFunc fn first captured =>
    obtain ⟨v, hv, rfl⟩ := pureR_some e
    exact wp_of_gives (funcV_gives hr hv hρ) rfl (hk _ _ rfl)
  case makeMap t r =>
    cases r with
    | some _ => simp at e
    | none =>
      simp only at e
      split at e
      · obtain ⟨b, hb, e⟩ := opt_some e
        obtain ⟨v, h1, rfl, hg⟩ := newMap_gives (P := P) (t := t) hr e
        exact wp_of_gives hg rfl (hk _ _ rfl)
      · simp at e
  case insert t m k x =>
    split at e
    · rename_i kt el hu
      obtain ⟨b, hb, e⟩ := opt_some e
      obtain ⟨h1, rfl, hg⟩ := upd_gives hr hu hb e (hρ m) (hρ k) (hρ x)
      exact wp_of_givesU hg rfl (hk _ _ rfl)
    · simp at e
  case mapUpdate t m k x =>
    split at e
    · rename_i kt el hu
      obtain ⟨b, hb, e⟩ := opt_some e
      obtain ⟨h1, rfl, hg⟩ := upd_gives hr hu hb e (hρ m) (hρ k) (hρ x)
      exact wp_of_givesU hg rfl (hk _ _ rfl)
    · simp at e
  case lookup t m k ok =>
    split at e
    · rename_i kt el hu
      obtain ⟨b, hb, e⟩ := opt_some e
      obtain ⟨z, hz, e⟩ := opt_some e
      simp only [cond_eq_ite] at e
      split at e
      · rename_i hzc
        obtain ⟨v, rfl, hg⟩ := look_gives hr hu hb hz hzc e (hρ m) (hρ k)
        exact wp_of_gives hg rfl (hk _ _ rfl)
      · simp at e
    · simp at e
  case makeSlice t l c =>
    obtain ⟨el, he, e⟩ := opt_some e
    obtain ⟨z, hz, e⟩ := opt_some e
    obtain ⟨u, h1, rfl, hg⟩ := make_gives hr he hz e (hρ l) (hρ c)
    exact wp_of_gives hg rfl (hk _ _ rfl)
  case slice t x lo hi mx =>
    cases mx with
    | some _ => simp at e
    | none =>
      simp only at e
      split at e
      · rename_i n el hu
        obtain ⟨i, hi', e⟩ := opt_some e
        obtain ⟨v, hv, rfl⟩ := pureR_some e
        exact wp_of_gives (sliceA_gives hr hρ hu ⟨i, hi'⟩ hv (hρ x)) rfl (hk _ _ rfl)
      · rename_i el hu
        obtain ⟨i, hi', e⟩ := opt_some e
        obtain ⟨v, hv, rfl⟩ := pureR_some e
        exact wp_of_gives (sliceS_gives hr hρ hu ⟨i, hi'⟩ hv (hρ x)) rfl (hk _ _ rfl)
      · rename_i hu
        obtain ⟨v, hv, rfl⟩ := pureR_some e
        exact wp_of_gives (sliceStr_gives hr hρ hu hv (hρ x)) rfl (hk _ _ rfl)
      · simp at e
  case fieldAddr s x f =>
    obtain ⟨fd, hf, e⟩ := opt_some e
    simp only [cond_eq_ite] at e
    split at e
    · simp at e
    · rename_i hs
      obtain ⟨v, hv, rfl⟩ := pureR_some e
      exact wp_of_gives (fieldAddr_gives hr hf (fun hh => by rw [hh] at hs; simp at hs) hv (hρ x)) rfl (hk _ _ rfl)
  case field s x f =>
    obtain ⟨fd, hf, e⟩ := opt_some e
    obtain ⟨g, hg, e⟩ := opt_some e
    obtain ⟨v, hv, rfl⟩ := pureR_some e
    exact wp_of_gives (field_gives hr hf hg hv (hρ x)) rfl (hk _ _ rfl)
  case indexAddr t x i =>
    split at e
    · rename_i el hu
      obtain ⟨j, hj, e⟩ := opt_some e
      obtain ⟨v, hv, rfl⟩ := pureR_some e
      exact wp_of_gives (idxS_gives hr hu ⟨j, hj⟩ hv (hρ x) (hρ i)) rfl (hk _ _ rfl)
    · rename_i n el hu
      obtain ⟨j, hj, e⟩ := opt_some e
      obtain ⟨v, hv, rfl⟩ := pureR_some e
      exact wp_of_gives (idxA_gives hr hu ⟨j, hj⟩ hv (hρ x) (hρ i)) rfl (hk _ _ rfl)
    · simp at e
  case index t x i =>
    split at e
    · rename_i hu
      obtain ⟨v, hv, rfl⟩ := pureR_some e
      exact wp_of_gives (strAt_gives hr hu hv (hρ x) (hρ i)) rfl (hk _ _ rfl)
    · rename_i n el hu
      obtain ⟨g, hg, e⟩ := opt_some e
      obtain ⟨v, hv, rfl⟩ := pureR_some e
      exact wp_of_gives (idxAgg_gives hr hu hg hv (hρ x) (hρ i)) rfl (hk _ _ rfl)
    · simp at e
  case extract x i =>
    obtain ⟨v, hv, rfl⟩ := pureR_some e
    exact wp_of_gives (extr_gives hr hv (hρ x)) rfl (hk _ _ rfl)
  case panic x =>
    unfold panR at e; split at e
    · rename_i t u hu
      simp at e; subst e
      have hx := hρ x
      rw [hu] at hx
      have hx := hx.clean rfl
      have hp := hp _ _ rfl μ (a.eval x) w (.refl hr) hx
      generalize hcv : a.eval x = cv at hx hp
      cases hx
      unfold Oper.wp
      have : (execOp a.eval ⟨dst, .panic x, type, pos, after, guard⟩).run P w = .halt (.panic (a.eval x)) w := by
        rw [hcv]; simp [execOp, Instr.panic, hcv]
      rw [this, hcv]
      exact hp
    · simp at e
  case call c =>
    obtain ⟨cal, args, ats⟩ := c
    cases cal <;> simp only at e
    case value f =>
      simp only [callV] at e
      obtain ⟨⟨g, first, captured⟩, hcal, e⟩ := opt_some e
      have hf := hρ f
      unfold callee at hcal; split at hcal
      · rename_i f1 fs cs hfv
        simp at hcal
        obtain ⟨rfl, rfl, rfl⟩ := hcal
        rw [hfv] at hf
        have hf := hf.clean rfl
        generalize hcv : a.eval f = cv at hf
        cases hf with
        | func _ _ _ fs' cs' hx hc h1 h2 =>
        obtain ⟨fn, cd, hfn, hbody⟩ := hcall.body e
        have hname := hC.name _ _ hfn
        have hl1 : VL (VP μ h.len) fs.toList fs'.toList := (VR.agg_iff.1 (.agg fs fs' hx h1)).mono fun _ _ => .of
        have hl2 : VL (VP μ h.len) cs.toList cs'.toList := (VR.agg_iff.1 (.agg cs cs' hc h2)).mono fun _ _ => .of
        have hl := (hl1.append (VL.map (l := args.toList) (f := ρ) (g := a.eval) fun x _ => hρ x)).append hl2
        have hcl := hcall.calls e hr hgl hl
        have hrun : (execOp a.eval ⟨dst, .call ⟨.value f, args, ats⟩, type, pos, after, guard⟩).run P w = .ok (.enter f1 (fs'.toList ++ args.toList.map a.eval ++ cs'.toList).toArray) w := by
          have : (fs'.toList ++ args.toList.map a.eval ++ cs'.toList).toArray = fs' ++ args.map a.eval ++ cs' := by apply Array.ext'; simp
          rw [this]
          simp [execOp, resolve, hcv, Deferred.ofValue, invoke, callFunc, hfn, hbody, hname]
        unfold Oper.wp
        rw [hrun]
        simp only [Oper.upon]
        refine hcl.mono fun en w1 hpost => ?_
        cases out with
        | ret v h1 =>
          obtain ⟨μ1, v', rfl, hv, hs⟩ := hpost
          exact hk _ _ rfl μ1 v' w1 hs hv
        | pan v h1 =>
          obtain ⟨μ1, v', rfl, hv, hs⟩ := hpost
          exact hp _ _ rfl μ1 v' w1 hs hv
      · simp at hcal
    case invoke => simp at e
    case builtin b =>
      have hb : ∀ (x : Operand) (ts : List TypeId), args.toList = [x] → args = #[x] := fun x ts hh => by apply Array.ext'; simpa using hh
      have hb2 : ∀ (x y : Operand), args.toList = [x, y] → args = #[x, y] := fun x y hh => by apply Array.ext'; simpa using hh
      split at e
      · rename_i t r x hts hargs
        simp only [cond_eq_ite] at e
        split at e
        · rename_i hl
          obtain ⟨v, hv, rfl⟩ := pureR_some e
          have := hb x [] hargs; subst this
          have ht : ats[0]? = some t := by rw [← Array.getElem?_toList, hts]; rfl
          exact wp_of_gives (len_gives (ts := ats) (ty := type) hr ht hl hv (hρ x)) (by simp [execOp, resolve, invoke, builtin]) (hk _ _ rfl)
        · simp at e
      · rename_i t u r s x hts hargs
        obtain ⟨el, he, e⟩ := opt_some e
        obtain ⟨z, hz, e⟩ := opt_some e
        simp only [cond_eq_ite] at e
        split at e
        · rename_i hu
          have := hb2 s x hargs; subst this
          have ht : ats[0]? = some t := by rw [← Array.getElem?_toList, hts]; rfl
          have ht1 : ats[1]? = some u := by rw [← Array.getElem?_toList, hts]; rfl
          obtain ⟨v, h2, rfl, hg⟩ := app_gives (ty := type) hr ht ht1 he hz hu e (hρ s) (hρ x)
          exact wp_of_gives hg (by simp [execOp, resolve, invoke, builtin]) (hk _ _ rfl)
        · simp at e
      · rename_i t r d x hts hargs
        obtain ⟨el, he, e⟩ := opt_some e
        obtain ⟨i, hi, e⟩ := opt_some e
        have := hb2 d x hargs; subst this
        have ht : ats[0]? = some t := by rw [← Array.getElem?_toList, hts]; rfl
        obtain ⟨v, h2, rfl, hg⟩ := copy_gives (ty := type) hr ht he hi e (hρ d) (hρ x)
        exact wp_of_gives hg (by simp [execOp, resolve, invoke, builtin]) (hk _ _ rfl)
      · rename_i t r x hts hargs
        obtain ⟨el, he, e⟩ := opt_some e
        obtain ⟨z, hz, e⟩ := opt_some e
        have := hb x [] hargs; subst this
        have ht : ats[0]? = some t := by rw [← Array.getElem?_toList, hts]; rfl
        obtain ⟨h2, rfl, hg⟩ := clear_gives (ty := type) hr ht he hz e (hρ x)
        exact wp_of_gives hg (by simp [execOp, resolve, invoke, builtin]) (hk _ _ rfl)
      · rename_i ts x y hargs
        obtain ⟨v, hv, rfl⟩ := pureR_some e
        have := hb2 x y hargs; subst this
        exact wp_of_gives (minV_gives (ts := ats) (ty := type) hr hv (hρ x) (hρ y)) (by simp [execOp, resolve, invoke, builtin]) (hk _ _ rfl)
      · rename_i ts x y hargs
        obtain ⟨v, hv, rfl⟩ := pureR_some e
        have := hb2 x y hargs; subst this
        exact wp_of_gives (maxV_gives (ts := ats) (ty := type) hr hv (hρ x) (hρ y)) (by simp [execOp, resolve, invoke, builtin]) (hk _ _ rfl)
      · simp at e
  all_goals simp at e

end
end Go.AM

/-
  The abstract machine: code and calls, in both worlds: what it computes is what 'Calls' says.
-/
import Derived.Test.YtejokpfeepbfeaaAmDraw4
import Derived.LoopN
namespace Go.AM

def dstsC : Code → List Tmp
  | .region _ ops _ => ops.toList.filterMap (·.dst)
  | .seq a b => dstsC a ++ dstsC b
  | .cond _ a b => dstsC a ++ dstsC b
  | .block _ b => dstsC b
  | .loop b => dstsC b
  | .scope b => dstsC b
  | _ => []

/-- The tables fit a function's text. X: the slots that an outer loop keeps. -/
def codeOk (P : Program) (C : Cfg) (f : FuncId) (M : Nat) : List Tmp → Nat → Code → Bool
  | _, _, .region id ops draw => (ops.toList.filterMap (·.dst)).all (fun x => Nat.blt x M) && (match draw, C.plan f id with
    | true, some pl => planOk P ops pl
    | _, _ => true)
  | X, cur, .seq a b => codeOk P C f M X cur a && codeOk P C f M X cur b
  | X, cur, .cond _ a b => codeOk P C f M X cur a && codeOk P C f M X cur b
  | X, _, .block id b => codeOk P C f M X id b
  | X, cur, .loop b => (C.keep f cur).all (fun x => !memN x (dstsC b)) && X.all (fun x => memN x (dstsC b) || memN x (C.keep f cur)) && codeOk P C f M (C.keep f cur) cur b
  | _, _, _ => true

def exOf : Exi → Exit
  | .normal => .normal
  | .exit i => .exit i
  | .ret => .ret

section
variable {P : Program} {C : Cfg} {callR : FuncId → List Value → Heap → Res} {μ0 : Pl} {h0 : Heap} {w0 : World} {N : Nat}

/-- The frame's slots of X that are not in D are as in t0. -/
def Same (X D : List Tmp) (t0 t : Env) : Prop := ∀ x ∈ X, x ∉ D → t x = t0 x

open Classical in
noncomputable def onlySame (X D : List Tmp) (t0 : Env) (K : Env → Heap → Res) : Env → Heap → Res := fun t h => if Same X D t0 t then K t h else none

theorem Same.put {X D : List Tmp} {t0 t : Env} (h : Same X D t0 t) {d : Option Tmp} (hd : ∀ x, d = some x → x ∈ D) (v : Value) : Same X D t0 (AM.put t d v) := by
  intro x hx hn
  cases d with
  | none => exact h x hx hn
  | some y =>
    simp only [AM.put, cond_eq_ite]
    rw [if_neg]
    · exact h x hx hn
    · intro hh; rw [Nat.eq_of_beq_eq_true hh] at hn; exact hn (hd y rfl)

theorem onlySame_some {X D : List Tmp} {t0 t : Env} {K : Env → Heap → Res} {h : Heap} {out : Out} (e : onlySame X D t0 K t h = some out) : Same X D t0 t ∧ K t h = some out := by
  unfold onlySame at e
  split at e
  · exact ⟨‹_›, e⟩
  · simp at e

theorem opsR_same {ops : Array Oper} {X D : List Tmp} {t0 : Env} {K : Env → Heap → Res} {out : Out} : ∀ (l : List Oper) (t : Env) (h : Heap), Same X D t0 t → (∀ o ∈ l, ∀ x, o.dst = some x → x ∈ D) →
    opsR P C callR ops K l t h = some out → opsR P C callR ops (onlySame X D t0 K) l t h = some out
  | [], t, h, hs, _, e => by simp only [opsR] at e ⊢; unfold onlySame; rw [if_pos hs]; exact e
  | o :: l, t, h, hs, hd, e => by
    simp only [opsR] at e ⊢
    rcases bindR_some e with ⟨v, h1, h2, h3⟩ | ⟨v, h1, h2, rfl⟩
    · rw [h2]; exact opsR_same l _ _ (hs.put (hd o (by simp)) v) (fun o ho => hd o (by simp [ho])) h3
    · rw [h2]; rfl

theorem planR_same {ops : Array Oper} {pl : Plan} {X D : List Tmp} {t0 : Env} {K : Env → Heap → Res} {out : Out} : ∀ (l : List Nat) (saved : List (Nat × Heap)) (t : Env) (h : Heap), Same X D t0 t →
    (∀ i ∈ l, ∀ x, (opAt ops i).dst = some x → x ∈ D) → planR P C callR ops pl K l saved t h = some out → planR P C callR ops pl (onlySame X D t0 K) l saved t h = some out
  | [], saved, t, h, hs, _, e => by simp only [planR] at e ⊢; unfold onlySame; rw [if_pos hs]; exact e
  | i :: l, saved, t, h, hs, hd, e => by
    simp only [planR] at e ⊢
    unfold noPan at e ⊢
    split at e
    · rename_i v h' hg
      simp only
      unfold guardR at e ⊢
      simp only [cond_eq_ite] at e ⊢
      split at e
      · rename_i hck; rw [if_pos hck]; exact planR_same l _ _ _ (hs.put (hd i (by simp)) v) (fun i hi => hd i (by simp [hi])) e
      · simp at e
    · simp at e

theorem lk_map (t : Env) (d : Env) : ∀ (l : List Tmp) (x : Tmp), lk l (l.map t) d x = if x ∈ l then t x else d x
  | [], x => by simp [lk]
  | y :: l, x => by
    simp only [lk, List.map_cons, List.headD_cons, List.tail_cons, cond_eq_ite]
    by_cases h : x = y
    · subst h; simp
    · rw [if_neg (by intro hh; exact h (Nat.eq_of_beq_eq_true hh)), lk_map t d l x]
      by_cases hx : x ∈ l
      · simp [hx]
      · simp [hx, h]

theorem headEnv_map (live keep : List Tmp) (t t' : Env) (x : Tmp) : headEnv live keep t (live.map t') x = if x ∈ live then t' x else if x ∈ keep then t x else undef := by
  unfold headEnv
  rw [lk_map]
  split
  · rfl
  · simp only [cond_eq_ite]
    by_cases h : x ∈ keep
    · rw [if_pos h, if_pos (memN_iff.2 h)]
    · rw [if_neg h, if_neg (fun hh => h (memN_iff.1 hh))]

theorem PanOk.then {out : Out} {Q : Exit → Act → World → Prop} (hp : PanOk μ0 h0 w0 out Q) (next : Act → World → Prop) : PanOk μ0 h0 w0 out (Exit.then next Q) := hp
theorem PanOk.inBlock {out : Out} {Q : Exit → Act → World → Prop} (hp : PanOk μ0 h0 w0 out Q) (id : Nat) : PanOk μ0 h0 w0 out (Exit.inBlock id Q) := hp

theorem codeR_wp (hm : P.follows .mixedOrders = true) (hC : C.Ok P) (hcall : CallsOk P C callR) (hgl0 : GL C μ0 h0.len) {n : Nat} {f : FuncId} {M : Nat} (hMN : M ≤ N) {out : Out} :
    ∀ (c : Code) (cur : Nat) (X : List Tmp) (K : Exi → Env → Heap → Res) (Q : Exit → Act → World → Prop) (t : Env) (h : Heap) (a : Act) (w : World), codeOk P C f M X cur c = true →
      codeR P C callR n f cur c t h K = some out → At μ0 h0 w0 N t h a w →
      (∀ e t' h' a' w', K e t' h' = some out → At μ0 h0 w0 N t' h' a' w' → Same X (dstsC c) t t' → Q (exOf e) a' w') → PanOk μ0 h0 w0 out Q → c.wp P Q a w := by
  intro c
  induction c with
  | skip => intro cur X K Q t h a w _ e hat hK _; exact wp_skip (hK _ _ _ _ _ e hat fun _ _ _ => rfl)
  | label l => intro cur X K Q t h a w _ e hat hK _; exact wp_label (hK _ _ _ _ _ e hat fun _ _ _ => rfl)
  | exit id => intro cur X K Q t h a w _ e hat hK _; exact wp_exit (hK _ _ _ _ _ e hat fun _ _ _ => rfl)
  | ret => intro cur X K Q t h a w _ e hat hK _; exact wp_ret (hK _ _ _ _ _ e hat fun _ _ _ => rfl)
  | goto l => intro cur X K Q t h a w _ e; simp [codeR] at e
  | scope b _ => intro cur X K Q t h a w _ e; simp [codeR] at e
  | rangeFunc f ps x y _ _ => intro cur X K Q t h a w _ e; simp [codeR] at e
  | refuse s => intro cur X K Q t h a w _ e; simp [codeR] at e
  | region id ops draw =>
    intro cur X K Q t h a w hok e hat hK hp
    simp only [codeOk, Bool.and_eq_true, List.all_eq_true] at hok
    have hdm : ∀ o ∈ ops.toList, ∀ x, o.dst = some x → x ∈ dstsC (.region id ops draw) := fun o ho x hx => by
      simp only [dstsC, List.mem_filterMap]; exact ⟨o, ho, hx⟩
    have hd : ∀ o ∈ ops.toList, ∀ x, o.dst = some x → x < N := fun o ho x hx => by
      have := hok.1 x (by simpa [dstsC] using hdm o ho x hx)
      have hlt : x < M := by simpa using this
      exact Nat.lt_of_lt_of_le hlt hMN
    cases draw with
    | false =>
      simp only [codeR] at e
      have e := opsR_same (X := X) (D := dstsC (.region id ops false)) (t0 := t) ops.toList t h (fun _ _ _ => rfl) hdm e
      exact region_wp hC hcall hgl0 hp (fun t' h' a' w' hk hat' => by
        obtain ⟨h1, h2⟩ := onlySame_some hk
        exact hK .normal t' h' a' w' h2 hat' h1) hd e hat
    | true =>
      simp only [codeR] at e
      split at e
      · rename_i pl hpl
        have hplan : planOk P ops pl = true := by simpa [hpl] using hok.2
        have e := planR_same (X := X) (D := dstsC (.region id ops true)) (t0 := t) pl.ord [] t h (fun _ _ _ => rfl) (fun i hi x hx => by
          obtain ⟨p, hp⟩ := List.mem_iff_getElem?.1 hi
          have hlt := (planOk_facts hplan).lt hp
          exact hdm _ (List.mem_of_getElem? (by rw [Array.getElem?_toList]; exact opAt_eq hlt)) x hx) e
        exact draw_wp hm hplan hC hcall hgl0 (fun t' h' a' w' hk hat' => by
          obtain ⟨h1, h2⟩ := onlySame_some hk
          exact hK .normal t' h' a' w' h2 hat' h1) hd e hat
      · simp at e
  | seq x y ihx ihy =>
    intro cur X K Q t h a w hok e hat hK hp
    simp only [codeOk, Bool.and_eq_true] at hok
    simp only [codeR] at e
    refine wp_seq (ihx cur X _ _ t h a w hok.1 e hat (fun ex t' h' a' w' hk hat' hs => ?_) (hp.then _))
    cases ex with
    | normal =>
      refine ihy cur X K Q t' h' a' w' hok.2 hk hat' (fun e2 t2 h2 a2 w2 hk2 hat2 hs2 => hK e2 t2 h2 a2 w2 hk2 hat2 fun z hz hn => ?_) hp
      simp only [dstsC, List.mem_append, not_or] at hn
      rw [hs2 z hz hn.2, hs z hz hn.1]
    | exit i => exact hK _ _ _ _ _ hk hat' fun z hz hn => hs z hz (by simp only [dstsC, List.mem_append, not_or] at hn; exact hn.1)
    | ret => exact hK _ _ _ _ _ hk hat' fun z hz hn => hs z hz (by simp only [dstsC, List.mem_append, not_or] at hn; exact hn.1)
  | cond cd x y ihx ihy =>
    intro cur X K Q t h a w hok e hat hK hp
    simp only [codeOk, Bool.and_eq_true] at hok
    simp only [codeR] at e
    split at e
    · rename_i b hb
      obtain ⟨μ, hs, he⟩ := hat
      have hv := he.eval (C := C) (hs.gl hgl0) cd
      rw [hb] at hv
      have hv := hv.clean rfl
      generalize hcv : a.eval cd = cv at hv
      cases hv
      cases b with
      | true => exact wp_cond_true hcv (ihx cur X K Q t h a w hok.1 e ⟨μ, hs, he⟩ (fun ex t' h' a' w' hk hat' hs' => hK ex t' h' a' w' hk hat' fun z hz hn => hs' z hz (by simp only [dstsC, List.mem_append, not_or] at hn; exact hn.1)) hp)
      | false => exact wp_cond_false hcv (ihy cur X K Q t h a w hok.2 e ⟨μ, hs, he⟩ (fun ex t' h' a' w' hk hat' hs' => hK ex t' h' a' w' hk hat' fun z hz hn => hs' z hz (by simp only [dstsC, List.mem_append, not_or] at hn; exact hn.2)) hp)
    · simp at e
  | block id b ih =>
    intro cur X K Q t h a w hok e hat hK hp
    simp only [codeOk] at hok
    simp only [codeR] at e
    refine wp_block (ih id X _ _ t h a w hok e hat (fun ex t' h' a' w' hk hat' hs => ?_) (hp.inBlock id))
    cases ex with
    | normal => exact hK _ _ _ _ _ hk hat' hs
    | ret => exact hK _ _ _ _ _ hk hat' hs
    | exit i =>
      simp only [cond_eq_ite] at hk
      simp only [exOf, Exit.inBlock]
      split at hk
      · rename_i hi; rw [if_pos (Nat.eq_of_beq_eq_true hi)]; exact hK _ _ _ _ _ hk hat' hs
      · rename_i hi; rw [if_neg (fun hh => hi (by rw [hh]; exact Nat.beq_refl id))]; exact hK _ _ _ _ _ hk hat' hs
  | loop b ih =>
    intro cur X K Q t h a w hok e hat hK hp
    simp only [codeOk, Bool.and_eq_true, List.all_eq_true, Bool.not_eq_true', Bool.or_eq_true] at hok
    obtain ⟨⟨hok1, hok2⟩, hok3⟩ := hok
    simp only [codeR] at e
    have hkeep : ∀ x ∈ C.keep f cur, x ∉ dstsC b := fun x hx hn => by have := hok1 x hx; rw [memN_iff.2 hn] at this; simp at this
    -- round by round
    have rounds : ∀ (m : Nat) (t' : Env) (h' : Heap) (a' : Act) (w' : World), (∀ x ∈ C.keep f cur, t' x = t x) → At μ0 h0 w0 N t' h' a' w' →
        iterK m (fun next σ h => codeR P C callR n f cur b (headEnv (C.live f cur) (C.keep f cur) t σ) h fun e t h =>
          match e with
          | .normal => next ((C.live f cur).map t) h
          | .exit i => K (.exit i) t h
          | .ret => K .ret t h) ((C.live f cur).map t') h' = some out → Code.rounds P b Q m a' w' := by
      intro m
      induction m with
      | zero => intro t' h' a' w' _ _ e; simp [iterK] at e
      | succ m ihm =>
        intro t' h' a' w' hke hat' e
        rw [rounds_succ]
        simp only [iterK] at e
        have hE : ∀ x ∈ C.keep f cur, headEnv (C.live f cur) (C.keep f cur) t ((C.live f cur).map t') x = t x := fun x hx => by
          rw [headEnv_map]; split
          · exact hke x hx
          · simp
        have hatE : At μ0 h0 w0 N (headEnv (C.live f cur) (C.keep f cur) t ((C.live f cur).map t')) h' a' w' := by
          obtain ⟨μ, hs, he⟩ := hat'
          refine ⟨μ, hs, he.defers, he.size, fun x => ?_⟩
          rw [headEnv_map]
          split
          · exact he.vals x
          · split
            · rename_i hx; rw [← hke x hx]; exact he.vals x
            · exact .undef _ _ _
        refine ih cur (C.keep f cur) _ _ _ h' a' w' hok3 e hatE (fun ex t2 h2 a2 w2 hk hat2 hs2 => ?_) (hp.then _)
        cases ex with
        | normal => exact ihm t2 h2 a2 w2 (fun x hx => by rw [hs2 x hx (hkeep x hx)]; exact hE x hx) hat2 hk
        | exit i =>
          refine hK _ _ _ _ _ hk hat2 fun z hz hn => ?_
          have hz2 : z ∈ C.keep f cur := by
            rcases hok2 z hz with hh | hh
            · exact absurd (memN_iff.1 hh) (by simpa [dstsC] using hn)
            · exact memN_iff.1 hh
          rw [hs2 z hz2 (by simpa [dstsC] using hn)]; exact hE z hz2
        | ret =>
          refine hK _ _ _ _ _ hk hat2 fun z hz hn => ?_
          have hz2 : z ∈ C.keep f cur := by
            rcases hok2 z hz with hh | hh
            · exact absurd (memN_iff.1 hh) (by simpa [dstsC] using hn)
            · exact memN_iff.1 hh
          rw [hs2 z hz2 (by simpa [dstsC] using hn)]; exact hE z hz2
    exact wp_loop_rounds n (rounds n t h a w (fun _ _ => rfl) hat e)

-- results

def resF (tmps : Array Value) : ResultVar → Sem Value
  | .tmp t => pure (tmps.getD t undef)
  | .cell x t => do loadVar t (← asAddr (tmps.getD x undef))

theorem results_run {μ : Pl} {h : Heap} {w : World} {t : Env} {a : Act} (hr : HR μ h w) (he : ER μ h.len t N a) : ∀ (rs : List ResultVar) (l : List Value), resultsV P t h rs = some l →
    ∃ vs : List Value, (rs.mapM (resF a.tmps)).run P w = .ok vs w ∧ VL (VR μ h.len) l vs
  | [], l, e => by simp [resultsV] at e; subst e; exact ⟨[], rfl, .nil _⟩
  | .tmp x :: rs, l, e => by
    simp only [resultsV] at e
    obtain ⟨l', h1, e⟩ := Option.bind_eq_some_iff.1 e
    simp only [cond_eq_ite] at e
    split at e
    · rename_i hc
      simp at e; subst e
      obtain ⟨vs, h2, h3⟩ := results_run hr he rs l' h1
      refine ⟨a.tmps.getD x undef :: vs, ?_, .cons ((he.vals x).clean hc) h3⟩
      simp only [List.mapM_cons, resF, pure_bind, Sem.run_bind, h2, Result.andThen_ok, Sem.run_pure]
    · simp at e
  | .cell x ty :: rs, l, e => by
    simp only [resultsV] at e
    obtain ⟨l', h1, e⟩ := Option.bind_eq_some_iff.1 e
    obtain ⟨g, hg, e⟩ := Option.bind_eq_some_iff.1 e
    obtain ⟨vs, h2, h3⟩ := results_run hr he rs l' h1
    obtain ⟨v, hv, rfl⟩ := Option.map_eq_some_iff.1 e
    obtain ⟨i, hi⟩ := aggT_info hg
    have key : ∃ ad v', a.tmps.getD x undef = .pointer (some ad) ∧ (loadVar ty ad).run P w = .ok v' w ∧ VR μ h.len v v' := by
      cases g with
      | true =>
        simp only [cond_true] at hv
        obtain ⟨c, hc, rfl⟩ := Option.map_eq_some_iff.1 hv
        obtain ⟨ad, c', h4, h5, h6⟩ := ldN_ok (P := P) hr hc (he.vals x)
        exact ⟨ad, .agg c'.toArray, h4, by simp [loadVar, aggT_spec hg, run_size hi, h6], VR.agg_iff.2 (by simpa using h5)⟩
      | false =>
        simp only [cond_false] at hv
        obtain ⟨ad, v', h4, h5, h6⟩ := ld1_ok hr hv (he.vals x)
        exact ⟨ad, v', h4, by simp [loadVar, aggT_spec hg, h5], h6⟩
    obtain ⟨ad, v', h4, h5, h6⟩ := key
    refine ⟨v' :: vs, ?_, .cons h6 h3⟩
    have ha : (asAddr (a.tmps.getD x undef)).run P w = .ok ad w := by rw [h4]; rfl
    simp only [List.mapM_cons, resF, Sem.run_bind, ha, h5, Result.andThen_ok, h2, Sem.run_pure]

theorem results_ok {μ : Pl} {h : Heap} {w : World} {t : Env} {a : Act} {fn : Func} {l : List Value} (hr : HR μ h w) (he : ER μ h.len t N a) (e : resultsV P t h fn.results.toList = some l) :
    ∃ v', (results fn a.tmps).run P w = .ok v' w ∧ VR μ h.len (tup l) v' := by
  obtain ⟨vs, h1, h2⟩ := results_run (P := P) hr he fn.results.toList l e
  have hrun : (results fn a.tmps).run P w = .ok (if h : vs.toArray.size = 1 then vs.toArray[0] else .tuple vs.toArray) w := by
    have hdef : results fn a.tmps = (do let vs ← fn.results.mapM (resF a.tmps); pure (if h : vs.size = 1 then vs[0] else .tuple vs)) := rfl
    rw [hdef, Array.mapM_eq_mapM_toList]
    simp only [Sem.run_bind, Sem.run_map, h1, Result.andThen_ok, Sem.run_pure]
  refine ⟨_, hrun, ?_⟩
  match l, h2 with
  | [], h2 => have := h2.isNil; subst this; exact .tuple #[] #[] rfl (fun i hi => by simp at hi)
  | [x], h2 =>
    obtain ⟨v', l', rfl, h3, h4⟩ := h2.head
    have := h4.isNil; subst this
    simpa [tup] using h3
  | x :: y :: r, h2 =>
    obtain ⟨v', l', rfl, h3, h4⟩ := h2.head
    obtain ⟨v'', l'', rfl, h5, h6⟩ := h4.head
    rw [dif_neg (by simp)]
    exact .tuple _ _ (by simp [h6.1]) (VL.getD h2)

end

/-- The tables fit the program. -/
structure Cfg.Fits (P : Program) (C : Cfg) : Prop where
  ok : C.Ok P
  mixed : P.follows .mixedOrders = true
  code : ∀ (f : FuncId) (fn : Func) (c : Code), P.funcs[f]? = some fn → fn.body = some c → codeOk P C f fn.ntmps [] 0 c = true

/-- WHAT THE ABSTRACT MACHINE COMPUTES IS WHAT 'Calls' SAYS. -/
theorem callR_ok {P : Program} {C : Cfg} (F : C.Fits P) : ∀ n, CallsOk P C (callR P C n)
  | 0 => ⟨fun e => by simp [callR] at e, fun e => by simp [callR] at e⟩
  | n + 1 => by
    have ih := callR_ok F n
    refine ⟨fun {g args h out} e {μ w args'} hr hgl hv => ?_, fun {g args h out} e => ?_⟩
    · simp only [callR] at e
      split at e
      · rename_i fn hf
        split at e
        · rename_i c hb
          refine calls_of_wp hf hb ?_
          have hat : At μ h w (args'.toArray ++ Array.replicate (fn.ntmps - args'.toArray.size) undef).size (argEnv args) h { tmps := args'.toArray ++ Array.replicate (fn.ntmps - args'.toArray.size) undef, defers := [] } w := by
            refine ⟨μ, .refl hr, rfl, rfl, fun i => ?_⟩
            unfold argEnv
            by_cases hi : i < args.length
            · obtain ⟨v', h1, h2⟩ := hv.2 i args[i] (by simp [hi])
              have hi' : i < args'.length := (List.getElem?_eq_some_iff.1 h1).1
              have : (args'.toArray ++ Array.replicate (fn.ntmps - args'.toArray.size) undef).getD i undef = v' := by
                rw [Array.getD_eq_getD_getElem?, Array.getElem?_append_left (by simpa using hi')]
                simp [h1]
              rw [this]
              simpa [hi] using h2
            · have : args.getD i undef = undef := by simp [List.getElem?_eq_none (Nat.le_of_not_lt hi)]
              rw [this]; exact .undef _ _ _
          refine codeR_wp F.mixed F.ok ih hgl (M := fn.ntmps) (by simp; omega) c 0 [] _ _ _ h _ w (F.code g fn c hf hb) e hat (fun ex t' h' a' w' hk hat' _ => ?_) ?_
          · obtain ⟨μ1, hs, he⟩ := hat'
            have fin : ((resultsV P t' h' fn.results.toList).bind fun l => some (.ret (tup l) h')) = some out → a'.defers = [] ∧ ∃ v, (results fn a'.tmps).run P w' = .ok v w' ∧ CallPost μ h w out (.returned v) w' := by
              intro hk
              obtain ⟨l, hl, ho⟩ := Option.bind_eq_some_iff.1 hk
              simp at ho; subst ho
              obtain ⟨v', h1, h2⟩ := results_ok (P := P) hs.hr he hl
              exact ⟨he.defers, v', h1, μ1, v', rfl, .of h2, hs⟩
            cases ex with
            | normal => exact fin hk
            | ret => exact fin hk
            | exit i => simp at hk
          · intro v h1 ho μ1 v' a1 w1 hs hvr hd
            subst ho
            exact ⟨hd, μ1, v', rfl, hvr, hs⟩
        · simp at e
      · simp at e
    · simp only [callR] at e
      split at e
      · rename_i fn hf
        split at e
        · rename_i c hb; exact ⟨fn, c, hf, hb⟩
        · simp at e
      · simp at e

end Go.AM

/-
  The abstract machine: a region that draws its order.
-/
import Derived.Test.YtejokpfeepbfeaaAmSeq
namespace Go.AM

section
variable {P : Program} {C : Cfg} {callR : FuncId → List Value → Heap → Res} {ops : Array Oper}

theorem placesT_congr (pl : Nat → Option (Nat × Nat)) {ρ ρ' : Operand → Value} : ∀ (ps : List (Nat × Operand)), (∀ x ∈ ps, ρ x.2 = ρ' x.2) → placesT pl ρ ps = placesT pl ρ' ps
  | [], _ => rfl
  | (i, x) :: r, h => by
    simp only [placesT]
    rw [h (i, x) (by simp), placesT_congr pl r fun y hy => h y (by simp [hy])]

theorem opR_congr {o : Oper} {ρ ρ' : Operand → Value} {h : Heap} (hρ : ∀ x ∈ o.op.operands, ρ x = ρ' x) : opR P C callR o ρ h = opR P C callR o ρ' h := by
  obtain ⟨dst, op, type, pos, after, guard⟩ := o
  have pl : ∀ ps : Array (Nat × Operand), (∀ x ∈ (ps.toList.map (·.2)), ρ x = ρ' x) → ∀ x ∈ ps.toList, ρ x.2 = ρ' x.2 := fun ps hh x hx => hh x.2 (List.mem_map.2 ⟨x, hx, rfl⟩)
  cases op <;> simp only [Op.operands] at hρ <;> simp only [opR]
  case build t ps => simp only [placesT_congr _ ps.toList (pl ps (fun x hx => hρ x (by simpa using hx)))]
  case buildSlice t n ps => simp only [placesT_congr _ ps.toList (pl ps (fun x hx => hρ x (by simpa using hx)))]
  case makeFunc fn f c =>
    rw [List.map_congr_left (f := ρ) (g := ρ') (l := f.toList) fun x hx => hρ x (by simp at hx ⊢; exact .inl hx),
      List.map_congr_left (f := ρ) (g := ρ') (l := c.toList) fun x hx => hρ x (by simp at hx ⊢; exact .inr hx)]
  case makeMap t r => cases r <;> rfl
  case slice t x lo hi mx => cases lo <;> cases hi <;> cases mx <;> simp_all
  case call c =>
    obtain ⟨cal, args, ats⟩ := c
    have ha : args.toList.map ρ = args.toList.map ρ' := List.map_congr_left fun x hx => hρ x (by simp [Call.operands]; right; simpa using hx)
    cases cal with
    | value f => simp only [ha, hρ f (by simp [Call.operands])]
    | invoke r m => rfl
    | builtin b =>
      have hm : ∀ x ∈ args.toList, ρ x = ρ' x := fun x hx => hρ x (by simp [Call.operands]; simpa using hx)
      generalize args.toList = al at hm ⊢
      generalize ats.toList = tl
      cases al with
      | nil => cases b <;> (rcases tl with _ | ⟨t1, _ | ⟨t2, tr⟩⟩ <;> rfl)
      | cons x r =>
        have hx := hm x (by simp)
        cases r with
        | nil => cases b <;> (rcases tl with _ | ⟨t1, _ | ⟨t2, tr⟩⟩ <;> first | rfl | simp only [hx])
        | cons y r2 =>
          have hy := hm y (by simp)
          cases r2 with
          | nil => cases b <;> (rcases tl with _ | ⟨t1, _ | ⟨t2, tr⟩⟩ <;> first | rfl | simp only [hx, hy])
          | cons z r3 => cases b <;> (rcases tl with _ | ⟨t1, _ | ⟨t2, tr⟩⟩ <;> rfl)
  all_goals (first | rfl | (simp_all; done) | (simp [hρ]; done))

theorem ev_congr {t t' : Env} {x : Operand} (h : ∀ i, x = .tmp i → t i = t' i) : ev C t x = ev C t' x := by
  cases x <;> simp only [ev]
  exact h _ rfl

theorem gopR_congr {o : Oper} {t t' : Env} {h : Heap} (ht : ∀ x ∈ o.looksAt ops, t x = t' x) : gopR P C callR ops o t h = gopR P C callR ops o t' h := by
  have h1 : opR P C callR o (ev C t) h = opR P C callR o (ev C t') h := opR_congr fun x hx => ev_congr fun i hi => by
    subst hi
    exact ht i (by simp only [Oper.looksAt, List.mem_append, List.mem_filterMap]; exact .inl ⟨.tmp i, by simpa using hx, rfl⟩)
  unfold gopR
  cases hg : o.guard with
  | none => exact h1
  | some g =>
    obtain ⟨j, want⟩ := g
    simp only
    cases hd : guardTmp ops j with
    | none => rfl
    | some d =>
      simp only
      rw [ht d (by simp only [Oper.looksAt, hg, List.mem_append]; exact .inr (by simp only [guardTmp] at hd; simp [hd])), h1]

theorem bytes_beq {a b : ByteArray} (h : (a == b) = true) : a = b := by
  rw [beq_toListBytes] at h
  have : a.toList = b.toList := by simpa using h
  rw [ByteArray.toList_eq, ByteArray.toList_eq] at this
  obtain ⟨⟨a⟩⟩ := a
  obtain ⟨⟨b⟩⟩ := b
  simp at this; rw [this]

theorem veq_eq {u v : Value} (h : veq u v = true) : u = v := by
  unfold veq at h
  split at h
  · rw [eq_of_beq h]
  · simp only [Bool.and_eq_true, decide_eq_true_eq, beq_iff_eq] at h; rw [h.1, h.2]
  · rw [bytes_beq h]
  · rw [of_decide_eq_true h]
  · simp only [Bool.and_eq_true, decide_eq_true_eq] at h
    rw [h.1.1, Nat.eq_of_beq_eq_true h.1.2, Nat.eq_of_beq_eq_true h.2]
  · rw [of_decide_eq_true h]
  · rfl
  · simp at h

theorem veqL_eq : ∀ {l m : List Value}, veqL l m = true → l = m
  | [], [], _ => rfl
  | x :: l, y :: m, h => by
    simp only [veqL, Bool.and_eq_true] at h
    rw [veq_eq h.1, veqL_eq h.2]
  | [], _ :: _, h => by simp [veqL] at h
  | _ :: _, [], h => by simp [veqL] at h

theorem again_load {o : Oper} {t : Env} {h : Heap} {v : Value} (e : again P C o t h v = true) : opR P C callR o (ev C t) h = some (.ret v h) := by
  obtain ⟨dst, op, type, pos, after, guard⟩ := o
  unfold again at e
  cases op <;> simp only at e <;> try (simp at e; done)
  case load ty a =>
    simp only [opR]
    split at e
    · rename_i hg
      simp only [hg, Option.bind_some, cond_true, ldNR]
      split at e
      · rename_i l cs hl
        rw [hl]
        have := veqL_eq e; subst this
        simp [pureR]
      · simp at e
    · rename_i hg
      simp only [hg, Option.bind_some, cond_false, ldR]
      split at e
      · rename_i u hu
        rw [hu, veq_eq e]; rfl
      · simp at e
    · simp at e


end
end Go.AM

/-
  The abstract machine: addresses, parts, slices, append, copy, maps, in both worlds.
-/
import Derived.Test.YtejokpfeepbfeaaAmOps3
namespace Go.AM

section
variable {P : Program} {μ : Pl} {h : Heap} {w : World}

theorem inB_spec {i : Int} {n : Nat} (e : inB i n = true) : 0 ≤ i ∧ i < n := by simpa [inB] using e

theorem padd_ok {n k : Nat} {p p' v : Value} (e : padd k p = some v) (hp : VP μ n p p') : ∃ a, p' = .pointer (some a) ∧ VR μ n v (.pointer (some (a.add k))) := by
  unfold padd at e; split at e
  · simp at e; subst e
    obtain ⟨b, o, he, hb, rfl⟩ := (hp.clean rfl).ptr_inv
    simp at he; obtain ⟨rfl, rfl⟩ := he
    refine ⟨_, rfl, ?_⟩
    rw [addr_add, Nat.add_assoc]; exact .ptr _ _ hb
  · simp at e

theorem fieldAt_spec {s f : Nat} {fd : Field} (e : fieldAt P s f = some fd) : ∃ fs, P.underlying s = some (.struct fs) ∧ fs[f]? = some fd := by
  unfold fieldAt at e; split at e
  · exact ⟨_, ‹_›, e⟩
  · simp at e

theorem size_info {t : TypeId} (hs : sizeT P t ≠ 0) : ∃ i, P.info? t = some i := by
  cases hi : P.info? t with
  | none => simp [sizeT, Program.cellsOf, hi] at hs
  | some i => exact ⟨i, rfl⟩

theorem fieldAddr_gives (hr : HR μ h w) {s f : Nat} {fd : Field} {p p' v : Value} (hf : fieldAt P s f = some fd) (hs : sizeT P fd.type ≠ 0) (e : padd fd.offset p = some v) (hp : VP μ h.len p p') :
    Gives P μ h w (Instr.fieldAt s p' f) v h := by
  obtain ⟨fs, h1, h2⟩ := fieldAt_spec hf
  obtain ⟨i, hi⟩ := size_info hs
  obtain ⟨a, rfl, hv⟩ := padd_ok e hp
  exact .still hr (by simp [Instr.fieldAt, run_underlying h1, h2, Instr.sureAddr, fieldPlace, run_size hi, hs]) (.of hv)

theorem idxS_gives (hr : HR μ h w) {t e : TypeId} {x i x' i' v : Value} (hu : P.underlying t = some (.slice e)) (hi : ∃ j, P.info? e = some j) (eq : idxS (sizeT P e) x i = some v) (hx : VP μ h.len x x') (hv : VP μ h.len i i') :
    Gives P μ h w (Instr.indexAt t x' i') v h := by
  unfold idxS at eq; split at eq
  · rename_i b o len cap k n
    simp only [cond_eq_ite] at eq
    split at eq
    · rename_i hb
      obtain ⟨h1, h2⟩ := inB_spec hb
      simp at eq; subst eq
      obtain ⟨j, hj⟩ := hi
      cases hv.clean rfl
      have hx := hx.clean rfl
      cases hx with
      | slice _ _ _ _ hbn =>
        refine .still hr (v' := .pointer (some ⟨(μ b).block, (μ b).base + (o + n.toNat * sizeT P e), none⟩)) ?_ (.of (.ptr _ _ hbn))
        simp [Instr.indexAt, asIntOf, run_underlying hu, run_size hj, h1, h2, addr_add, Nat.add_assoc]
      | empty => simp at h2; omega
    · simp at eq
  · simp at eq

theorem idxA_gives (hr : HR μ h w) {t e : TypeId} {n : Nat} {x i x' i' v : Value} (hu : P.underlying t = some (.array n e)) (hi : ∃ j, P.info? e = some j) (eq : idxA n (sizeT P e) x i = some v) (hx : VP μ h.len x x') (hv : VP μ h.len i i') :
    Gives P μ h w (Instr.indexAt t x' i') v h := by
  unfold idxA at eq; split at eq
  · rename_i b o k m
    simp only [cond_eq_ite] at eq
    split at eq
    · rename_i hb
      obtain ⟨h1, h2⟩ := inB_spec hb
      simp at eq; subst eq
      obtain ⟨j, hj⟩ := hi
      cases hv.clean rfl
      cases hx.clean rfl with
      | ptr _ _ hbn =>
        refine .still hr (v' := .pointer (some ⟨(μ b).block, (μ b).base + (o + m.toNat * sizeT P e), none⟩)) ?_ (.of (.ptr _ _ hbn))
        simp [Instr.indexAt, asIntOf, run_underlying hu, run_size hj, h1, h2, addr_add, Nat.add_assoc, Instr.sureAddr]
    · simp at eq
  · simp at eq

theorem strAt_gives (hr : HR μ h w) {t : TypeId} {x i x' i' v : Value} (hu : P.underlying t = some .string) (eq : strAt x i = some v) (hx : VP μ h.len x x') (hv : VP μ h.len i i') :
    Gives P μ h w (Instr.index t x' i') v h := by
  unfold strAt at eq; split at eq
  · rename_i s k n
    simp only [cond_eq_ite] at eq
    split at eq
    · rename_i h0
      simp only [Option.map_eq_some_iff] at eq
      obtain ⟨b, hb, rfl⟩ := eq
      cases hv.clean rfl
      cases hx.clean rfl
      simp at h0
      exact .still hr (by simp [Instr.index, asIntOf, run_underlying hu, h0, hb]) (.of (.int _ _))
    · simp at eq
  · simp at eq

theorem partOf_ok {n : Nat} {t : TypeId} {g : Bool} (hg : aggT P t = some g) {cs cs' : Array Value} {off : Nat} {v : Value} (e : partOf g (sizeT P t) cs.toList off = some v)
    (hc : VL (VR μ n) cs.toList cs'.toList) : ∃ v', (part t cs' off).run P w = .ok v' w ∧ VR μ n v v' := by
  obtain ⟨i, hi⟩ := aggT_info hg
  cases g with
  | true =>
    simp only [partOf, cond_true] at e
    simp only [cond_eq_ite] at e
    split at e
    · simp at e; subst e
      refine ⟨.agg (cs'.extract off (off + sizeT P t)), by simp [part, aggT_spec hg, run_size hi], VR.agg_iff.2 ?_⟩
      have := (hc.drop off).take (sizeT P t)
      simpa [Array.toList_extract, List.extract_eq_take_drop] using this
    · simp at e
  | false =>
    simp only [partOf, cond_false] at e
    simp only [Option.bind_eq_some_iff, cond_eq_ite] at e
    obtain ⟨u, h1, h2⟩ := e
    split at h2
    · simp at h2; subst h2
      obtain ⟨v', a, b⟩ := hc.2 off u h1
      refine ⟨v', ?_, b⟩
      have a : cs'[off]? = some v' := by simpa using a
      simp [part, aggT_spec hg, a]
    · simp at h2

theorem field_gives (hr : HR μ h w) {s f : Nat} {fd : Field} {g : Bool} {x x' v : Value} (hf : fieldAt P s f = some fd) (hg : aggT P fd.type = some g)
    (e : fieldOf g (sizeT P fd.type) fd.offset x = some v) (hx : VP μ h.len x x') : Gives P μ h w (Instr.field s x' f) v h := by
  obtain ⟨fs, h1, h2⟩ := fieldAt_spec hf
  unfold fieldOf at e; split at e
  · cases hx.clean rfl with
    | agg c c' hs hh =>
    obtain ⟨v', k1, k2⟩ := partOf_ok (w := w) hg e (VR.agg_iff.1 (.agg _ _ hs hh))
    exact .still hr (by simp [Instr.field, run_underlying h1, h2, asAgg, k1]) (.of k2)
  · simp at e

theorem idxAgg_gives (hr : HR μ h w) {t e : TypeId} {n : Nat} {g : Bool} {x i x' i' v : Value} (hu : P.underlying t = some (.array n e)) (hg : aggT P e = some g)
    (eq : idxAgg g n (sizeT P e) x i = some v) (hx : VP μ h.len x x') (hi : VP μ h.len i i') : Gives P μ h w (Instr.index t x' i') v h := by
  unfold idxAgg at eq; split at eq
  · rename_i cs k m
    simp only [cond_eq_ite] at eq
    split at eq
    · rename_i hb
      obtain ⟨h1, h2⟩ := inB_spec hb
      obtain ⟨j, hj⟩ := aggT_info hg
      cases hi.clean rfl
      cases hx.clean rfl with
      | agg c c' hs hh =>
      obtain ⟨v', k1, k2⟩ := partOf_ok (w := w) hg eq (VR.agg_iff.1 (.agg _ _ hs hh))
      exact .still hr (by simp [Instr.index, asIntOf, run_underlying hu, run_size hj, h1, h2, k1]) (.of k2)
    · simp at eq
  · simp at eq

theorem extr_gives (hr : HR μ h w) {i : Nat} {x x' v : Value} (e : extr i x = some v) (hx : x = undef ∨ VR μ h.len x x') : Gives P μ h w (Instr.extract x' i) v h := by
  unfold extr at e; split at e
  · rename_i vs
    rcases hx with hx | hx
    · simp [Go.undef] at hx; subst hx; simp at e
    · cases hx with
      | tuple c c' hs hh =>
      have hi : i < vs.size := by
        rcases Nat.lt_or_ge i vs.size with h | h
        · exact h
        · simp [Array.getElem?_eq_none h] at e
      have hi' : i < c'.size := by omega
      have := hh i hi
      simp [hi] at e; subst e
      simp [hi, hi'] at this
      exact .still hr (v' := c'[i]) (by simp [Instr.extract, hi']) (.of this)
  · simp at e

theorem bnd_some {x x' : Value} {y k : Nat} (e : bnd x y = some k) (hx : VP μ h.len x x') : ∃ kd, x = .int kd k ∧ x' = .int kd k ∧ k ≤ y := by
  unfold bnd at e; split at e
  · simp only [cond_eq_ite] at e
    split at e
    · rename_i hh
      simp at e hh; subst e
      cases hx.clean rfl
      exact ⟨_, by rw [Int.toNat_of_nonneg hh.1], by rw [Int.toNat_of_nonneg hh.1], by omega⟩
    · simp at e
  · simp at e

theorem bndO_some {x x' : Option Value} {y d k : Nat} (e : bndO x y d = some k) (hx : ∀ v, x = some v → ∃ v', x' = some v' ∧ VP μ h.len v v') (hn : x = none → x' = none) :
    k ≤ y ∧ ((x' = none ∧ k = d) ∨ ∃ kd, x' = some (.int kd k)) := by
  cases x with
  | none =>
    simp only [bndO, cond_eq_ite] at e
    split at e
    · rename_i hh; rw [Nat.ble_eq] at hh; simp at e; subst e; exact ⟨hh, .inl ⟨hn rfl, rfl⟩⟩
    · simp at e
  | some v =>
    simp only [bndO] at e
    obtain ⟨v', rfl, hv⟩ := hx v rfl
    obtain ⟨kd, _, rfl, hk⟩ := bnd_some e hv
    exact ⟨hk, .inr ⟨kd, rfl⟩⟩

/-- The bounds of a slice expression, at a capacity that may be greater. -/
theorem run_bounds {isS : Bool} {len cap capc H L : Nat} {lo hi : Option Value} (hH : H ≤ cap ∧ ((hi = none ∧ H = len) ∨ ∃ kd, hi = some (.int kd H))) (hc : cap ≤ capc)
    (hL : L ≤ H ∧ ((lo = none ∧ L = 0) ∨ ∃ kd, lo = some (.int kd L))) : (Instr.sliceBounds isS len capc lo hi none).run P w = .ok (L, H, capc) w := by
  obtain ⟨hh, hH⟩ := hH
  obtain ⟨hl, hL⟩ := hL
  rcases hH with ⟨rfl, rfl⟩ | ⟨kd, rfl⟩ <;> rcases hL with ⟨rfl, rfl⟩ | ⟨kl, rfl⟩
  · simp [Instr.sliceBounds]
  · have := run_sliceBound (P := P) w kl (L : Int) H .sliceB (by omega) (by omega)
    simp [Instr.sliceBounds, this]
  · have := run_sliceBound (P := P) w kd (H : Int) capc (if isS then .sliceAcap else .sliceAlen) (by omega) (by omega)
    simp [Instr.sliceBounds, this]
  · have h1 := run_sliceBound (P := P) w kd (H : Int) capc (if isS then .sliceAcap else .sliceAlen) (by omega) (by omega)
    have h2 := run_sliceBound (P := P) w kl (L : Int) H .sliceB (by omega) (by omega)
    simp [Instr.sliceBounds, h1, h2]

theorem opt_map {ρ ρ' : Operand → Value} (hρ : ∀ x, VP μ h.len (ρ x) (ρ' x)) (x : Option Operand) : ∀ v, x.map ρ = some v → ∃ v', x.map ρ' = some v' ∧ VP μ h.len v v' := by
  intro v hv
  cases x with
  | none => simp at hv
  | some x => simp at hv; subst hv; exact ⟨_, rfl, hρ x⟩

theorem run_sliceS {t e : TypeId} (hu : P.underlying t = some (.slice e)) {j : TypeInfo} (hj : P.info? e = some j) {a : Option Addr} {len cap L H : Nat} {lo hi : Option Value}
    (hb : (Instr.sliceBounds true len cap lo hi none).run P w = .ok (L, H, cap) w) :
    (Instr.sliceAt t (.slice a len cap) lo hi none).run P w = .ok (.slice (if cap = L then a else a.map (·.add (L * sizeT P e))) (H - L) (cap - L)) w := by
  simp only [Instr.sliceAt, Sem.run_bind, run_underlying hu, Result.andThen_ok, Instr.slice, hb, run_size hj, Sem.run_pure]

theorem sliceS_gives (hr : HR μ h w) {t e : TypeId} {x x' v : Value} {lo hi : Option Operand} {ρ ρ' : Operand → Value} (hρ : ∀ x, VP μ h.len (ρ x) (ρ' x))
    (hu : P.underlying t = some (.slice e)) (hi' : ∃ j, P.info? e = some j) (eq : sliceS (sizeT P e) x (lo.map ρ) (hi.map ρ) = some v) (hx : VP μ h.len x x') :
    Gives P μ h w (Instr.sliceAt t x' (lo.map ρ') (hi.map ρ') none) v h := by
  obtain ⟨j, hj⟩ := hi'
  unfold sliceS at eq; split at eq
  · rename_i b o len cap
    simp only [Option.bind_eq_some_iff] at eq
    obtain ⟨H, hH, L, hL, eq⟩ := eq
    have kH := bndO_some hH (opt_map hρ hi) (by intro hh; simpa using hh)
    have kL := bndO_some hL (opt_map hρ lo) (by intro hh; simpa using hh)
    simp only [cond_eq_ite] at eq
    cases hx.clean rfl with
    | slice _ _ _ _ hb =>
      have hrun := run_sliceS (a := some ⟨(μ b).block, (μ b).base + o, none⟩) hu hj (run_bounds (P := P) (w := w) (isS := true) (len := len) (capc := cap + (μ b).extra) kH (by omega) kL)
      split at eq
      · rename_i hl
        rw [Nat.blt_eq] at hl
        simp at eq; subst eq
        refine .still hr hrun (.of ?_)
        rw [if_neg (by omega), Option.map_some, addr_add]
        have := VR.slice (μ := μ) b (o + L * sizeT P e) (H - L) (cap - L) hb
        rw [← Nat.add_assoc] at this
        rwa [show cap + (μ b).extra - L = cap - L + (μ b).extra from by omega]
      · split at eq
        · rename_i hl
          have hl := Nat.eq_of_beq_eq_true hl
          simp at eq; subst eq
          have hHL : H - L = 0 := by have := kH.1; have := kL.1; omega
          rw [hHL] at hrun
          refine .still hr hrun (.of ?_)
          by_cases hx : (μ b).extra = 0
          · rw [if_pos (by omega), show cap + (μ b).extra - L = 0 from by omega]
            exact .empty _ _ _ hb
          · rw [if_neg (by omega), Option.map_some, addr_add, show cap + (μ b).extra - L = 0 + (μ b).extra from by omega]
            have := VR.slice (μ := μ) b (o + L * sizeT P e) 0 0 hb
            rwa [← Nat.add_assoc] at this
        · simp at eq
    | empty _ _ a hb =>
      have hrun := run_sliceS (a := some a) hu hj (run_bounds (P := P) (w := w) (isS := true) (len := 0) (capc := 0) kH (by omega) kL)
      have hH0 : H = 0 := by have := kH.1; omega
      have hL0 : L = 0 := by have := kL.1; omega
      subst hH0; subst hL0
      simp at eq; subst eq
      refine .still hr hrun (.of ?_)
      simpa using VR.empty (μ := μ) b o a hb
  · rename_i len cap
    simp only [Option.bind_eq_some_iff, Option.some.injEq] at eq
    obtain ⟨H, hH, L, hL, rfl⟩ := eq
    have kH := bndO_some hH (opt_map hρ hi) (by intro hh; simpa using hh)
    have kL := bndO_some hL (opt_map hρ lo) (by intro hh; simpa using hh)
    cases hx.clean rfl
    have hrun := run_sliceS (a := none) hu hj (run_bounds (P := P) (w := w) (isS := true) (len := len) (capc := cap) kH (Nat.le_refl _) kL)
    refine .still hr hrun (.of ?_)
    have : (if cap = L then (none : Option Addr) else (none : Option Addr).map (fun a => a.add (L * sizeT P e))) = none := by split <;> rfl
    rw [this]; exact .nilslice _ _
  · simp at eq

theorem sliceStr_gives (hr : HR μ h w) {t : TypeId} {x x' v : Value} {lo hi : Option Operand} {ρ ρ' : Operand → Value} (hρ : ∀ x, VP μ h.len (ρ x) (ρ' x))
    (hu : P.underlying t = some .string) (eq : sliceStr x (lo.map ρ) (hi.map ρ) = some v) (hx : VP μ h.len x x') :
    Gives P μ h w (Instr.sliceAt t x' (lo.map ρ') (hi.map ρ') none) v h := by
  unfold sliceStr at eq; split at eq
  · rename_i s
    simp only [Option.bind_eq_some_iff, Option.some.injEq] at eq
    obtain ⟨H, hH, L, hL, rfl⟩ := eq
    have kH := bndO_some hH (opt_map hρ hi) (by intro hh; simpa using hh)
    have kL := bndO_some hL (opt_map hρ lo) (by intro hh; simpa using hh)
    cases hx.clean rfl
    have hb := run_bounds (P := P) (w := w) (isS := false) (len := s.size) (capc := s.size) kH (Nat.le_refl _) kL
    exact .still hr (by simp [Instr.sliceAt, run_underlying hu, Instr.slice, hb]) (.of (.string _))
  · simp at eq

theorem noRoom_extra (hr : HR μ h w) {b : Nat} (e : noRoom h b = true) : (μ b).extra = 0 := by
  unfold noRoom at e; split at e
  · rename_i c k s hb
    obtain ⟨_, _, _, _, _, _, hk, _⟩ := hr.blk b _ hb
    exact hk (Nat.eq_of_beq_eq_true e)
  · rename_i c hb
    obtain ⟨_, _, _, _, _, hk⟩ := hr.blk b _ hb
    exact hk
  · simp at e

theorem sliceA_gives (hr : HR μ h w) {t e : TypeId} {n : Nat} {x x' v : Value} {lo hi : Option Operand} {ρ ρ' : Operand → Value} (hρ : ∀ x, VP μ h.len (ρ x) (ρ' x))
    (hu : P.underlying t = some (.array n e)) (hi' : ∃ j, P.info? e = some j) (eq : sliceA h n (sizeT P e) x (lo.map ρ) (hi.map ρ) = some v) (hx : VP μ h.len x x') :
    Gives P μ h w (Instr.sliceAt t x' (lo.map ρ') (hi.map ρ') none) v h := by
  obtain ⟨j, hj⟩ := hi'
  unfold sliceA at eq; split at eq
  · rename_i b o
    simp only [cond_eq_ite] at eq
    split at eq
    · rename_i hno
      have hno := noRoom_extra hr hno
      simp only [Option.bind_eq_some_iff] at eq
      obtain ⟨H, hH, L, hL, eq⟩ := eq
      have kH := bndO_some hH (opt_map hρ hi) (by intro hh; simpa using hh)
      have kL := bndO_some hL (opt_map hρ lo) (by intro hh; simpa using hh)
      have hb := run_bounds (P := P) (w := w) (isS := false) (len := n) (capc := n) kH (Nat.le_refl _) kL
      cases hx.clean rfl with
      | ptr _ _ hbn =>
      have hrun : (Instr.sliceAt t (.pointer (some ⟨(μ b).block, (μ b).base + o, none⟩)) (lo.map ρ') (hi.map ρ') none).run P w =
          .ok (.slice (some (if n = L then ⟨(μ b).block, (μ b).base + o, none⟩ else ⟨(μ b).block, (μ b).base + o + L * sizeT P e, none⟩)) (H - L) (n - L)) w := by
        simp only [Instr.sliceAt, Sem.run_bind, run_underlying hu, Result.andThen_ok, Instr.sureAddr, Sem.run_pure, hb, run_size hj, addr_add]
      split at eq
      · rename_i hl
        rw [Nat.blt_eq] at hl
        simp at eq; subst eq
        refine .still hr hrun (.of ?_)
        rw [if_neg (by omega)]
        have := VR.slice (μ := μ) b (o + L * sizeT P e) (H - L) (n - L) hbn
        rwa [← Nat.add_assoc, hno, Nat.add_zero] at this
      · rename_i hl
        rw [Nat.blt_eq] at hl
        simp at eq; subst eq
        have h1 : H - L = 0 := by have := kH.1; omega
        have h2 : n - L = 0 := by omega
        rw [h1, h2] at hrun
        exact .still hr hrun (.of (.empty _ _ _ hbn))
    · simp at eq
  · simp at eq

theorem len_gives (hr : HR μ h w) {ts : Array TypeId} {t ty : TypeId} {x x' v : Value} (ht : ts[0]? = some t) (hl : isLenT P t x = true) (e : lenV x = some v) (hx : VP μ h.len x x') :
    Gives P μ h w (Builtin.len_ ts ty #[x']) v h := by
  unfold isLenT at hl
  split at hl
  · rename_i hu
    simp [lenV] at e; subst e
    cases hx.clean rfl <;> exact .still hr (by simp [Builtin.len_, ht, run_underlying hu, goInt]) (.of (.int _ _))
  · rename_i hu
    simp [lenV] at e; subst e
    cases hx.clean rfl
    exact .still hr (by simp [Builtin.len_, ht, run_underlying hu, goInt]) (.of (.int _ _))
  · rename_i hu
    simp [lenV] at e; subst e
    cases hx.clean rfl
    exact .still hr (by simp [Builtin.len_, ht, run_underlying hu, goInt]) (.of (.int _ _))
  · simp at hl

end
end Go.AM

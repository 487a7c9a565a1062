/-
  The abstract machine: copy, clear, maps, values of functions and interfaces, in both worlds.
-/
import Derived.Test.YtejokpfeepbfeaaAmOps6
namespace Go.AM

section
variable {P : Program} {μ : Pl} {h : Heap} {w : World}

theorem copy_gives (hr : HR μ h w) {ts : Array TypeId} {t e ty : TypeId} {i : TypeInfo} {d x d' x' : Value} {out : Out}
    (h0 : ts[0]? = some t) (he : elemT P t = some e) (hi : P.info? e = some i) (eq : copyR (sizeT P e) h d x = some out) (hd : VP μ h.len d d') (hx : VP μ h.len x x') :
    ∃ v h2, out = .ret v h2 ∧ Gives P μ h w (Builtin.copy_ ts ty #[d', x']) v h2 := by
  have hue := elemT_spec he
  unfold copyR at eq
  split at eq
  · rename_i base len cap
    simp only [Option.bind_eq_some_iff] at eq
    obtain ⟨m, hm, new, hnew, eq⟩ := eq
    have hlm := lenOf_ok (P := P) (w := w) hm hx
    obtain ⟨new', hf, hvl⟩ := firstCells_ok (P := P) hr hnew hx
    have hrun : ∀ (a : Option Addr) (c : Nat) (w1 : World), (∀ b, a = some b → (storeCells b new').run P w = .ok () w1) → (a = none → w1 = w) →
        (Builtin.copy_ ts ty #[.slice a len c, x']).run P w = .ok (.int .i64 (min m len : Nat)) w1 := by
      intro a c w1 hst hno
      have : Nat.min m len = min m len := rfl
      cases a with
      | none => have := hno rfl; subst this; simp [Builtin.copy_, h0, run_underlying hue, hlm, run_size hi, this, hf, goInt]
      | some b => simp [Builtin.copy_, h0, run_underlying hue, hlm, run_size hi, this, hf, hst b rfl, goInt]
    split at eq
    · simp only [Option.bind_eq_some_iff, Option.some.injEq] at eq
      obtain ⟨h2, hst, rfl⟩ := eq
      cases hd.clean rfl with
      | slice b o _ _ hb =>
        obtain ⟨a, w1, ha, h3, h4⟩ := stL_ok (P := P) hr hst (.of (.ptr _ _ hb)) (hvl.mono fun _ _ => .of)
        simp at ha; subst ha
        exact ⟨_, _, rfl, μ, _, w1, hrun _ _ w1 (fun b hb => by simp at hb; subst hb; exact h3) (fun hh => by simp at hh), .of (.int _ _), h4⟩
      | empty b o a hb =>
        have h0 : min m 0 = 0 := by omega
        rw [h0] at hnew
        have := elemsOf_zero hnew; subst this
        have hn := hvl.isNil; subst hn
        obtain ⟨a2, w1, ha, h3, h4⟩ := stL_ok (P := P) hr hst (.of (.ptr _ _ hb)) (vs' := []) (.nil _)
        have : w1 = w := by simp [storeCells] at h3; exact h3.symm
        subst this
        exact ⟨_, _, rfl, μ, _, w1, hrun _ _ w1 (fun b hb => by simp [storeCells]) (fun hh => by simp at hh), .of (.int _ _), h4⟩
    · simp at eq; subst eq
      cases hd.clean rfl
      exact ⟨_, _, rfl, μ, _, w, by simpa using hrun _ _ w (fun b hb => by simp at hb) (fun _ => rfl), .of (.int _ _), .refl hr⟩
  · simp at eq

theorem clear_gives (hr : HR μ h w) {ts : Array TypeId} {t e ty : TypeId} {z : List Value} {x x' : Value} {out : Out}
    (h0 : ts[0]? = some t) (he : elemT P t = some e) (hz : zeroC P e = some z) (eq : clearR z h x = some out) (hx : VP μ h.len x x') :
    ∃ h2, out = .ret undef h2 ∧ Gives P μ h w (Builtin.clear_ ts ty #[x']) undef h2 := by
  obtain ⟨zv, i, hi, hiz, hcs, hcst, hzl, hsz, hrun⟩ := zeroC_spec hz
  have hue := elemT_spec he
  unfold clearR at eq
  split at eq
  · rename_i a n c
    simp only [cond_eq_ite] at eq
    split at eq
    · rename_i hn
      have hn := Nat.eq_of_beq_eq_true hn; subst hn
      simp at eq; subst eq
      cases hx.clean rfl <;> exact ⟨_, rfl, .still hr (v' := .tuple #[]) (by simp [Builtin.clear_, h0, run_underlying hue]) (.undef _ _ _)⟩
    · rename_i hn
      simp only [Option.bind_eq_some_iff, Option.some.injEq] at eq
      obtain ⟨h2, hst, rfl⟩ := eq
      have hn' : n ≠ 0 := fun e => by subst e; simp at hn
      cases hx.clean rfl with
      | slice b o _ _ hb =>
        obtain ⟨a, w1, ha, h3, h4⟩ := stL_ok (P := P) hr hst (.of (.ptr _ _ hb)) ((VL.zeros hcst n).mono fun _ _ => .of)
        simp at ha; subst ha
        have hzc : (Builtin.zeroCells zv.cells n).toList = zeros z n := by
          have : Builtin.zeroCells zv.cells n = madeCells z.toArray (n * z.length) := by rw [hcs]; simp [Builtin.zeroCells, madeCells]
          rw [this, madeCells_eq]
        refine ⟨_, rfl, μ, .tuple #[], w1, ?_, .undef _ _ _, h4⟩
        cases n with
        | zero => exact absurd rfl hn'
        | succ n => simp [Builtin.clear_, h0, run_underlying hue, hrun, hzc, h3]
      | empty => exact absurd rfl hn'
  · simp at eq; subst eq
    cases hx.clean rfl
    exact ⟨_, rfl, .still hr (v' := .tuple #[]) (by simp [Builtin.clear_, h0, run_underlying hue]) (.undef _ _ _)⟩
  · simp at eq

theorem minV_gives (hr : HR μ h w) {ts : Array TypeId} {ty : TypeId} {x y x' y' v : Value} (e : minV x y = some v) (hx : VP μ h.len x x') (hy : VP μ h.len y y') :
    Gives P μ h w (Builtin.min_ ts ty #[x', y']) v h := by
  unfold minV at e; split at e
  · simp only [cond_eq_ite] at e
    split at e
    · simp at e; subst e
      cases hx.clean rfl
      cases hy.clean rfl
      exact .still hr (run_min_int2 w ts ty _ _ _ _) (.of (.int _ _))
    · simp at e
  · simp at e

theorem maxV_gives (hr : HR μ h w) {ts : Array TypeId} {ty : TypeId} {x y x' y' v : Value} (e : maxV x y = some v) (hx : VP μ h.len x x') (hy : VP μ h.len y y') :
    Gives P μ h w (Builtin.max_ ts ty #[x', y']) v h := by
  unfold maxV at e; split at e
  · simp only [cond_eq_ite] at e
    split at e
    · simp at e; subst e
      cases hx.clean rfl
      cases hy.clean rfl
      exact .still hr (run_max_int2 w ts ty _ _ _ _) (.of (.int _ _))
    · simp at e
  · simp at e

theorem unV_gives (hr : HR μ h w) {op : UnOp} {x x' v : Value} (e : unV op x = some v) (hx : VP μ h.len x x') : Gives P μ h w (Op.unary op x') v h := by
  unfold unV at e; split at e
  · simp at e; subst e
    cases hx.clean rfl
    exact .still hr (by simp [Op.unary, Op.intArith]) (.of (.int _ _))
  · rename_i k n
    simp [intV] at e; subst e
    cases hx.clean rfl
    exact .still hr (by simp [Op.unary, Op.intBits]) (.of (.int _ _))
  · simp at e; subst e
    cases hx.clean rfl
    exact .still hr (by simp [Op.unary]) (.of (.bool _))
  · simp at e

theorem ifaceV_gives (hr : HR μ h w) {t : TypeId} {x x' v : Value} {d : TypeDesc} (hu : P.underlying t = some d) (hd : ∀ ms, d ≠ .interface ms) (e : ifaceV t x = some v) (hx : VP μ h.len x x') :
    Gives P μ h w (Instr.makeInterface t x') v h := by
  simp only [ifaceV, cond_eq_ite] at e
  split at e
  · rename_i hc
    simp at e; subst e
    refine .still hr (v' := .iface t x') ?_ (.of (.iface _ _ _ (hx.clean hc)))
    cases d <;> first | (rename_i ms; exact absurd rfl (hd ms)) | simp [Instr.makeInterface, run_underlying hu]
  · simp at e

theorem VL.getD {n : Nat} {l l' : List Value} (hv : VL (VR μ n) l l') : ∀ i, i < l.toArray.size → VR μ n (l.toArray.getD i undef) (l'.toArray.getD i undef) := by
  intro i hi
  simp at hi
  obtain ⟨v', a, b⟩ := hv.2 i l[i] (by simp [hi])
  have hi' : i < l'.length := (List.getElem?_eq_some_iff.1 a).1
  simp [hi'] at a
  simpa [hi, hi', a] using b

theorem VL.clean {n : Nat} {l l' : List Value} (hc : l.all clean = true) (hv : VL (VP μ n) l l') : VL (VR μ n) l l' := ⟨hv.1, fun i v hi => by
  obtain ⟨v', a, b⟩ := hv.2 i v hi
  simp at hc
  exact ⟨v', a, b.clean (hc v (List.mem_of_getElem? hi))⟩⟩

theorem funcV_gives (hr : HR μ h w) {fn : Fn} {first captured : Array Operand} {ρ ρ' : Operand → Value} {v : Value} (e : funcV fn (first.toList.map ρ) (captured.toList.map ρ) = some v)
    (hρ : ∀ x, VP μ h.len (ρ x) (ρ' x)) : Gives P μ h w (Instr.makeFunc fn (first.map ρ') (captured.map ρ')) v h := by
  unfold funcV at e; split at e
  · simp only [cond_eq_ite] at e
    split at e
    · rename_i hc
      simp only [Bool.and_eq_true] at hc
      simp at e; subst e
      have h1 := VL.clean hc.1 (VL.map (l := first.toList) (f := ρ) (g := ρ') fun x _ => hρ x)
      have h2 := VL.clean hc.2 (VL.map (l := captured.toList) (f := ρ) (g := ρ') fun x _ => hρ x)
      refine .still hr rfl (.of (.func _ _ _ _ _ (by simp) (by simp) ?_ ?_))
      · have := VL.getD h1; simpa using this
      · have := VL.getD h2; simpa using this
    · simp at e
  · simp at e

-- maps

theorem keyT_spec {t : TypeId} {b : Bool} (e : keyT P t = some b) : ∃ d, P.underlying t = some d ∧ ((b = true ∧ ∃ k, d = .int k) ∨ (b = false ∧ d = .string)) := by
  unfold keyT at e; split at e
  · simp at e; exact ⟨_, ‹_›, .inl ⟨by first | exact e | exact e.symm, _, rfl⟩⟩
  · simp at e; exact ⟨_, ‹_›, .inr ⟨by first | exact e | exact e.symm, rfl⟩⟩
  · simp at e

theorem run_checkKey {b empty : Bool} {t : TypeId} (e : keyT P t = some b) {k : Value} (hk : isKey b k = true) : (Instr.checkKey empty 10000 t k).run P w = .ok () w := by
  obtain ⟨d, hu, hd⟩ := keyT_spec e
  have : ∀ n, (Instr.checkKey empty (n + 1) t k).run P w = .ok () w := fun n => by
    rcases hd with ⟨rfl, kd, rfl⟩ | ⟨rfl, rfl⟩ <;> simp [Instr.checkKey, run_underlying hu]
  exact this 9999

theorem sameNow_ok {b : Bool} {d : TypeDesc} (hd : (b = true ∧ ∃ k, d = .int k) ∨ (b = false ∧ d = .string)) {k x : Value} {r : Bool} (hk : isKey b k = true) (e : keyEq k x = some r) :
    Instr.sameNow d k x = some r := by
  unfold keyEq at e; split at e
  · simp only [cond_eq_ite] at e; split at e
    · rename_i h; simp at h e; subst h; subst e
      rcases hd with ⟨rfl, kd, rfl⟩ | ⟨rfl, rfl⟩
      · simp [Instr.sameNow]
      · simp [isKey] at hk
    · simp at e
  · simp at e; subst e
    rcases hd with ⟨rfl, kd, rfl⟩ | ⟨rfl, rfl⟩
    · simp [isKey] at hk
    · simp [Instr.sameNow]
  · simp at e

/-- What was found. -/
theorem findNow_ok {n : Nat} {b : Bool} {d : TypeDesc} (hd : (b = true ∧ ∃ k, d = .int k) ∨ (b = false ∧ d = .string)) {k : Value} (hk : isKey b k = true) :
    ∀ (es : List (Value × Value)) (E : List MapEntry) (i : Nat) (r : Option Value), E.length = es.length → (∀ (j : Nat) (x : Value × Value), es[j]? = some x → ∃ e : MapEntry, E[j]? = some e ∧ EntryR μ n b x e) →
      findK k es = some r → ∃ r', Instr.findNow d k E i = some r' ∧ (match r with
        | none => r' = none
        | some v => ∃ j v', r' = some (i + j, v') ∧ VR μ n v v' ∧ j < es.length)
  | [], E, i, r, hl, _, e => by
    simp [findK] at e; subst e
    cases E with
    | nil => exact ⟨none, rfl, rfl⟩
    | cons => simp at hl
  | (x, v) :: es, [], i, r, hl, _, _ => by simp at hl
  | (x, v) :: es, a :: E, i, r, hl, hE, e => by
    simp only [findK, Option.bind_eq_some_iff, cond_eq_ite] at e
    obtain ⟨q, hq, e⟩ := e
    obtain ⟨a', ha, h1, h2, h3⟩ := hE 0 (x, v) rfl
    simp at ha; subst ha
    have hs := sameNow_ok hd hk hq
    have h2 : a.key = x := h2
    rw [← h2] at hs
    cases q with
    | true =>
      simp at e; subst e
      exact ⟨some (i, a.val), by simp [Instr.findNow, hs], 0, a.val, rfl, h3, by simp⟩
    | false =>
      simp at e
      obtain ⟨r', g1, g2⟩ := findNow_ok hd hk es E (i + 1) r (by simpa using hl) (fun j y hy => by simpa using hE (j + 1) y (by simpa using hy)) e
      refine ⟨r', by simp [Instr.findNow, hs, g1], ?_⟩
      cases r with
      | none => exact g2
      | some u =>
        obtain ⟨j, v', h4, h5, h6⟩ := g2
        exact ⟨j + 1, v', by rw [h4]; congr 2; omega, h5, by simp; omega⟩

theorem isKey_same {n : Nat} {b : Bool} {k k' : Value} (hk : isKey b k = true) (h : VP μ n k k') : k' = k := by
  cases b <;> cases k <;> simp [isKey] at hk <;> (cases h.clean rfl; rfl)

theorem map_obj (hr : HR μ h w) {r : Nat} {kt : Bool} {es : List (Value × Value)} (hb : h.bs[r]? = some (.map kt es)) :
    ∃ (E : Array MapEntry) (clock : Nat), w.heap[(μ r).block]? = some (.map E clock) ∧ E.size = es.length ∧ ∀ (i : Nat) (x : Value × Value), es[i]? = some x → ∃ e : MapEntry, E[i]? = some e ∧ EntryR μ h.len kt x e :=
  hr.blk r _ hb

theorem run_getObj {r : Nat} {o : Obj} (ho : w.heap[r]? = some o) (hc : ∀ c e f, o ≠ .cells c e f) : (getObj r).run P w = .ok o w := by
  simp only [getObj, Sem.run, ho]

theorem run_setObj {r : Nat} {o o' : Obj} (ho : w.heap[r]? = some o) (hc : ∀ c e f, o ≠ .cells c e f) : (setObj r o').run P w = .ok () (setBlock w r o') := by
  simp only [setObj, Sem.run, ho]
  cases o <;> first | rfl | exact absurd rfl (hc _ _ _)

theorem VR.tuple2 {n : Nat} {a a' b b' : Value} (h1 : VR μ n a a') (h2 : VR μ n b b') : VR μ n (.tuple #[a, b]) (.tuple #[a', b']) :=
  .tuple _ _ rfl fun i hi => by
    simp at hi
    match i, hi with
    | 0, _ => simpa using h1
    | 1, _ => simpa using h2

theorem look_gives (hr : HR μ h w) {t kt e : TypeId} {b ok : Bool} {z : Value} {m k m' k' : Value} {out : Out} (hu : P.underlying t = some (.map kt e)) (hkt : keyT P kt = some b) (hz : zeroT P e = some z) (hzc : isCst z = true)
    (eq : lookR b z ok h m k = some out) (hm : VP μ h.len m m') (hk : VP μ h.len k k') : ∃ v, out = .ret v h ∧ Gives P μ h w (Instr.lookup t m' k' ok) v h := by
  simp only [lookR, cond_eq_ite] at eq
  split at eq
  · rename_i hkey
    have := isKey_same hkey hk; subst this
    obtain ⟨d, hud, hd⟩ := keyT_spec hkt
    have hrz := run_zero (P := P) hz w
    have hzz : VR μ h.len z z := .cst hzc
    split at eq
    · simp at eq; subst eq
      cases hm.clean rfl
      refine ⟨_, rfl, .still hr (v' := if ok then .tuple #[z, .bool false] else z) ?_ ?_⟩
      · simp [Instr.lookup, run_underlying hu, run_checkKey hkt hkey, Instr.findKey, run_underlying hud, Instr.findNow, hrz]
      · cases ok <;> simp <;> first | exact .of hzz | exact .of (.tuple2 hzz (.bool _))
    · rename_i r
      split at eq
      · rename_i kt' es hb
        split at eq
        · rename_i hkk
          have hkk : b = kt' := by simpa using hkk
          subst hkk
          simp only [Option.bind_eq_some_iff] at eq
          obtain ⟨fr, hf, eq⟩ := eq
          obtain ⟨E, clock, h1, h2, h3⟩ := map_obj hr hb
          obtain ⟨r', h4, h5⟩ := findNow_ok (μ := μ) hd hkey es E.toList 0 fr (by simpa using h2) (fun j x hx => by simpa using h3 j x hx) hf
          have hgo := run_getObj (P := P) h1 (by simp)
          cases hm.clean rfl
          cases fr with
          | none =>
            simp at eq; subst eq
            simp only at h5; subst h5
            refine ⟨_, rfl, .still hr (v' := if ok then .tuple #[z, .bool false] else z) ?_ ?_⟩
            · simp [Instr.lookup, run_underlying hu, hgo, run_checkKey hkt hkey, Instr.findKey, run_underlying hud, h4, hrz]
            · cases ok <;> simp <;> first | exact .of hzz | exact .of (.tuple2 hzz (.bool _))
          | some v =>
            simp at eq; subst eq
            obtain ⟨j, v', rfl, hv, _⟩ := h5
            refine ⟨_, rfl, .still hr (v' := if ok then .tuple #[v', .bool true] else v') ?_ ?_⟩
            · simp [Instr.lookup, run_underlying hu, hgo, run_checkKey hkt hkey, Instr.findKey, run_underlying hud, h4]
            · cases ok <;> simp <;> first | exact .of hv | exact .of (.tuple2 hv (.bool _))
        · simp at eq
      · simp at eq
    · simp at eq
  · simp at eq

theorem sameBits_key {b : Bool} {k : Value} (hk : isKey b k = true) : ∀ n, Instr.sameBits n k k = true := by
  intro n
  cases b <;> cases k <;> simp [isKey] at hk <;> cases n <;> simp [Instr.sameBits, beq_toListBytes]

theorem keyEq_true {k x : Value} (e : keyEq k x = some true) : k = x := by
  unfold keyEq at e; split at e
  · simp only [cond_eq_ite] at e; split at e
    · rename_i h; simp at h e; rw [h, e]
    · simp at e
  · rename_i a b
    simp at e
    rw [beq_toListBytes] at e
    have : a.toList = b.toList := by simpa using e
    rw [ByteArray.toList_eq, ByteArray.toList_eq] at this
    congr 1
    obtain ⟨⟨a⟩⟩ := a
    obtain ⟨⟨b⟩⟩ := b
    simp at this; rw [this]
  · simp at e

/-- The entries, with one more or one turned. -/
theorem setK_ok {n : Nat} {b : Bool} {d : TypeDesc} (hd : (b = true ∧ ∃ k, d = .int k) ∨ (b = false ∧ d = .string)) {k v v' : Value} (hk : isKey b k = true) (hv : VR μ n v v') (clock : Nat) :
    ∀ (es es1 : List (Value × Value)) (E : List MapEntry), E.length = es.length → (∀ (j : Nat) (x : Value × Value), es[j]? = some x → ∃ e : MapEntry, E[j]? = some e ∧ EntryR μ n b x e) →
      setK k v es = some es1 → ∃ E1 : List MapEntry, E1.length = es1.length ∧ (∀ (j : Nat) (x : Value × Value), es1[j]? = some x → ∃ e : MapEntry, E1[j]? = some e ∧ EntryR μ n b x e) ∧
        ∀ i, (Instr.findNow d k E i = some none ∧ E1 = E ++ [{ key := k, val := v', born := clock }]) ∨
          ∃ j u, Instr.findNow d k E i = some (some (i + j, u)) ∧ (∃ e, E[j]? = some e ∧ e.key = k) ∧ E1 = E.modify j fun e => { e with key := k, val := v' }
  | [], es1, E, hl, _, e => by
    simp [setK] at e; subst e
    cases E with
    | nil =>
      refine ⟨[{ key := k, val := v', born := clock }], rfl, fun j x hx => ?_, fun i => .inl ⟨rfl, rfl⟩⟩
      cases j with
      | zero => simp at hx; subst hx; exact ⟨_, rfl, hk, rfl, hv⟩
      | succ j => simp at hx
    | cons => simp at hl
  | (x, u) :: es, es1, [], hl, _, _ => by simp at hl
  | (x, u) :: es, es1, a :: E, hl, hE, e => by
    simp only [setK, Option.bind_eq_some_iff, cond_eq_ite] at e
    obtain ⟨q, hq, e⟩ := e
    obtain ⟨a', ha, h1, h2, h3⟩ := hE 0 (x, u) rfl
    simp at ha; subst ha
    have hs := sameNow_ok hd hk hq
    have h2 : a.key = x := h2
    rw [← h2] at hs
    cases q with
    | true =>
      simp at e; subst e
      have hkx : k = a.key := by rw [h2]; exact keyEq_true hq
      refine ⟨{ a with key := k, val := v' } :: E, by simpa using hl, fun j y hy => ?_, fun i => .inr ⟨0, a.val, by simp [Instr.findNow, hs], ⟨a, rfl, hkx.symm⟩, by simp⟩⟩
      cases j with
      | zero => simp at hy; subst hy; exact ⟨_, rfl, hk, rfl, hv⟩
      | succ j => simpa using hE (j + 1) y (by simpa using hy)
    | false =>
      simp only [Bool.false_eq_true, if_false, Option.map_eq_some_iff] at e
      obtain ⟨es2, he2, rfl⟩ := e
      obtain ⟨E1, g1, g2, g3⟩ := setK_ok hd hk hv clock es es2 E (by simpa using hl) (fun j y hy => by simpa using hE (j + 1) y (by simpa using hy)) he2
      refine ⟨a :: E1, by simp [g1], fun j y hy => ?_, fun i => ?_⟩
      · cases j with
        | zero => simp at hy; subst hy; exact ⟨a, rfl, h1, h2, h3⟩
        | succ j => simpa using g2 j y (by simpa using hy)
      · rcases g3 (i + 1) with ⟨k1, k2⟩ | ⟨j, u', k1, k2, k3⟩
        · exact .inl ⟨by simp [Instr.findNow, hs, k1], by rw [k2]; rfl⟩
        · exact .inr ⟨j + 1, u', by simp [Instr.findNow, hs, k1]; omega, by simpa using k2, by rw [k3]; rfl⟩

theorem upd_gives (hr : HR μ h w) {t kt e : TypeId} {b : Bool} {m k v m' k' v' : Value} {out : Out} (hu : P.underlying t = some (.map kt e)) (hkt : keyT P kt = some b)
    (eq : updR b h m k v = some out) (hm : VP μ h.len m m') (hk : VP μ h.len k k') (hv : VP μ h.len v v') : ∃ h1, out = .ret undef h1 ∧ GivesU P μ h w (Instr.mapUpdate t m' k' v') h1 := by
  simp only [updR, cond_eq_ite] at eq
  split at eq
  · rename_i hkey
    simp only [Bool.and_eq_true] at hkey
    obtain ⟨hkey, hvc⟩ := hkey
    have hv := hv.clean hvc
    have := isKey_same hkey hk; subst this
    obtain ⟨d, hud, hd⟩ := keyT_spec hkt
    split at eq
    · rename_i r
      split at eq
      · rename_i kt' es hb
        split at eq
        · rename_i hkk
          have hkk : b = kt' := by simpa using hkk
          subst hkk
          simp only [Option.bind_eq_some_iff, Option.some.injEq] at eq
          obtain ⟨es1, hes, rfl⟩ := eq
          obtain ⟨E, clock, h1, h2, h3⟩ := map_obj hr hb
          obtain ⟨E1, g1, g2, g3⟩ := setK_ok (μ := μ) hd hkey hv clock es es1 E.toList (by simpa using h2) (fun j x hx => by simpa using h3 j x hx) hes
          have hgo := run_getObj (P := P) h1 (by simp)
          have hlt := hr.lt hb rfl
          cases hm.clean rfl
          have step : ∀ c, Step μ h w μ (h.upd r (.map b es1)) (setBlock w (μ r).block (.map E1.toArray c)) := fun c => by
            refine Step.upd hr hb rfl ⟨E1.toArray, c, setBlock_same hlt, by simpa using g1, fun i x hx => by simpa using g2 i x hx⟩ (fun i hi => hi) ⟨fun hn => absurd (rfl : OwnBy (μ r) (μ r).block 0 (.map b es)) (hn 0), fun C te fz hh => ?_⟩
            rw [h1] at hh; simp at hh
          rcases g3 0 with ⟨k1, k2⟩ | ⟨j, u, k1, ⟨e0, k2, k4⟩, k3⟩
          · refine ⟨_, rfl, μ, _, ?_, step (clock + 1)⟩
            have hso := run_setObj (P := P) (o' := .map E1.toArray (clock + 1)) h1 (by simp)
            have : E1.toArray = E.push { key := k', val := v', born := clock } := by rw [k2]; apply Array.ext'; simp
            rw [this] at hso
            simp only [Instr.mapUpdate, Sem.run_bind, run_underlying hu, Result.andThen_ok, hgo, run_checkKey hkt hkey, Instr.findKey, run_underlying hud, k1, Sem.run_pure]
            rw [this]; exact hso
          · refine ⟨_, rfl, μ, _, ?_, step clock⟩
            have hso := run_setObj (P := P) (o' := .map E1.toArray clock) h1 (by simp)
            have : E1.toArray = E.modify j fun e => { e with key := k', val := v' } := by rw [k3]; apply Array.ext'; simp
            rw [this] at hso
            have k2 : E[j]? = some e0 := by simpa using k2
            simp only [Instr.mapUpdate, Sem.run_bind, run_underlying hu, Result.andThen_ok, hgo, run_checkKey hkt hkey, Instr.findKey, run_underlying hud, k1, Sem.run_pure, Nat.zero_add]
            simp only [k2, Option.map_some, Option.getD_some, k4, Instr.keyThatStays, sameBits_key hkey, if_true, Sem.run_pure, Result.andThen_ok]
            rw [this]; exact hso
        · simp at eq
      · simp at eq
    · simp at eq
  · simp at eq

theorem newMap_gives (hr : HR μ h w) {t : TypeId} {b : Bool} {out : Out} (eq : newMapR b h = some out) : ∃ v h1, out = .ret v h1 ∧ Gives P μ h w (Instr.makeMap t none) v h1 := by
  simp [newMapR] at eq; subst eq
  have st := Step.alloc hr (y := .map b []) (o := .map #[] 0) (base := 0) (extra := 0) ⟨#[], 0, alloc_get, rfl, fun i x hx => by simp at hx⟩
  refine ⟨_, _, rfl, _, .map (some w.heap.size), _, ?_, .of ?_, st⟩
  · simp [Instr.makeMap]
  · have := VR.map (μ := atNew μ h.len ⟨w.heap.size, 0, 0⟩) (n := (h.push (.map b [])).len) h.len (by simp)
    simpa using this

end
end Go.AM

/-
  The abstract machine: '==' of structs and arrays of plain cells.
-/
import Derived.Test.YtejokpfeepbfeaaAmLaw
import Derived.ChangeKeysEq
namespace Go.AM

def simpleTag (P : Program) (t : TypeId) (g : Tag) : Bool :=
  match P.underlying t, g with
  | some (.int _), .int _ => true
  | some .bool, .bool => true
  | some .string, .string => true
  | _, _ => false

def fieldsFit (P : Program) : List Field → List Tag → Nat → Bool
  | [], [], _ => true
  | f :: fs, t :: ts, i => !(f.name == "_") && Nat.beq f.offset i && simpleTag P f.type t && fieldsFit P fs ts (i + 1)
  | _, _, _ => false

def itemsFit (P : Program) (e : TypeId) : Nat → List Tag → Bool
  | 0, [] => true
  | n + 1, t :: ts => simpleTag P e t && itemsFit P e n ts
  | _, _ => false

section
variable {P : Program}

theorem simple_eq {t : TypeId} {g : Tag} (h : simpleTag P t g = true) {x y : Value} {b : Bool} (e : tagged g x y = some b) (w : World) (d : Nat) {xs ys : Array Value} {o : Nat} (hx : xs[o]? = some x) (hy : ys[o]? = some y) :
    (part t xs o).run P w = .ok x w ∧ (part t ys o).run P w = .ok y w ∧ (Op.equalIn (d + 1) t x y).run P w = .ok b w := by
  unfold simpleTag at h
  split at h
  · rename_i hu
    unfold tagged at e
    split at e <;> try (simp at e; done)
    · rename_i hk
      simp only [cond_eq_ite] at e
      split at e
      · rename_i hc
        simp only [Bool.and_eq_true, decide_eq_true_eq] at hc
        obtain ⟨rfl, rfl⟩ := hc
        simp at e; subst e
        exact ⟨by simp [part, isAgg, run_underlying hu, hx], by simp [part, isAgg, run_underlying hu, hy], run_equalIn_int w d t _ _ _ _ hu⟩
      · simp at e
    all_goals contradiction
  · rename_i hu
    unfold tagged at e
    split at e <;> try (simp at e; done)
    all_goals first
      | contradiction
      | (simp at e; subst e; exact ⟨by simp [part, isAgg, run_underlying hu, hx], by simp [part, isAgg, run_underlying hu, hy], run_equalIn_bool w d t _ _ hu⟩)
  · rename_i hu
    unfold tagged at e
    split at e <;> try (simp at e; done)
    all_goals first
      | contradiction
      | (simp at e; subst e; exact ⟨by simp [part, isAgg, run_underlying hu, hx], by simp [part, isAgg, run_underlying hu, hy], by simp [Op.equalIn, run_underlying hu]⟩)
  · simp at h

theorem drop_cons {l : List Value} {i : Nat} {x : Value} {r : List Value} (h : l.drop i = x :: r) : l[i]? = some x ∧ l.drop (i + 1) = r := by
  constructor
  · have : (l.drop i)[0]? = some x := by rw [h]; rfl
    simpa using this
  · have : (l.drop i).drop 1 = r := by rw [h]; rfl
    simpa [List.drop_drop, Nat.add_comm] using this

theorem eqFields_run (d : Nat) (xs ys : Array Value) (w : World) : ∀ (fs : List Field) (ts : List Tag) (i : Nat) (l m : List Value) (b : Bool), fieldsFit P fs ts i = true → xs.toList.drop i = l → ys.toList.drop i = m → eqCells ts l m = some b →
    (Op.eqFields (d + 1) xs ys fs).run P w = .ok b w
  | [], [], i, l, m, b, _, _, _, e => by
    match l, m, e with
    | [], [], e => simp [eqCells] at e; subst e; simp [Op.eqFields]
  | f :: fs, t :: ts, i, l, m, b, hf, hl, hm, e => by
    match l, m, hl, hm, e with
    | x :: l, y :: m, hl, hm, e =>
      simp only [eqCells, Option.bind_eq_some_iff, Option.map_eq_some_iff] at e
      obtain ⟨c, hc, c', hc', rfl⟩ := e
      simp only [fieldsFit, Bool.and_eq_true, Bool.not_eq_true', beq_eq_false_iff_ne, ne_eq] at hf
      obtain ⟨⟨⟨h1, h2⟩, h3⟩, h4⟩ := hf
      obtain ⟨k1, k2⟩ := drop_cons hl
      obtain ⟨k3, k4⟩ := drop_cons hm
      have ho : f.offset = i := Nat.eq_of_beq_eq_true h2
      obtain ⟨p1, p2, p3⟩ := simple_eq h3 hc w d (xs := xs) (ys := ys) (o := f.offset) (by rw [ho]; simpa using k1) (by rw [ho]; simpa using k3)
      have ih := eqFields_run d xs ys w fs ts (i + 1) l m c' h4 k2 k4 hc'
      simp only [Op.eqFields, ne_eq, h1, not_false_eq_true, if_true, Sem.run_bind, p1, p2, p3, Result.andThen_ok]
      cases c
      · simp
      · simpa using ih
  | [], _ :: _, _, _, _, _, hf, _, _, _ => by simp [fieldsFit] at hf
  | _ :: _, [], _, _, _, _, hf, _, _, _ => by simp [fieldsFit] at hf

theorem eqItems_run (d : Nat) (e : TypeId) (xs ys : Array Value) (w : World) : ∀ (n i : Nat) (ts : List Tag) (l m : List Value) (b : Bool), itemsFit P e n ts = true → xs.toList.drop i = l → ys.toList.drop i = m → eqCells ts l m = some b →
    (Op.eqItems (d + 1) e 1 xs ys (List.range' i n)).run P w = .ok b w
  | 0, i, ts, l, m, b, hf, _, _, h => by
    match ts, l, m, hf, h with
    | [], [], [], _, h => simp [eqCells] at h; subst h; simp [Op.eqItems]
  | n + 1, i, [], _, _, _, hf, _, _, _ => by simp [itemsFit] at hf
  | n + 1, i, t :: ts, l, m, b, hf, hl, hm, h => by
    match l, m, hl, hm, h with
    | x :: l, y :: m, hl, hm, h =>
      simp only [eqCells, Option.bind_eq_some_iff, Option.map_eq_some_iff] at h
      obtain ⟨c, hc, c', hc', rfl⟩ := h
      simp only [itemsFit, Bool.and_eq_true] at hf
      obtain ⟨k1, k2⟩ := drop_cons hl
      obtain ⟨k3, k4⟩ := drop_cons hm
      obtain ⟨p1, p2, p3⟩ := simple_eq hf.1 hc w d (xs := xs) (ys := ys) (o := i * 1) (by simpa using k1) (by simpa using k3)
      have ih := eqItems_run d e xs ys w n (i + 1) ts l m c' hf.2 k2 k4 hc'
      rw [List.range'_succ]
      simp only [Op.eqItems, Sem.run_bind, p1, p2, p3, Result.andThen_ok]
      cases c
      · simp
      · simpa using ih

/-- The cells of a type that '==' compares one by one. -/
def eqFits (P : Program) (t : TypeId) (ts : List Tag) : Bool :=
  !P.eqGuardType P.depth t && !P.stoodInHeld t &&
  match P.underlying t with
  | some (.struct fs) => fieldsFit P fs.toList ts 0
  | some (.array n e) => itemsFit P e n ts && (match P.info? e with | some i => Nat.beq i.size 1 | none => false)
  | _ => false

theorem aggEq_of {t : TypeId} {ts : List Tag} (h : eqFits P t ts = true) : AggEq P t ts := by
  simp only [eqFits, Bool.and_eq_true, Bool.not_eq_true'] at h
  obtain ⟨⟨h1, h2⟩, h3⟩ := h
  refine ⟨fun x y op xs ys w => run_eqGuard_agg w op t x y xs ys h1, fun xs ys w b e => ?_⟩
  show (Op.equalIn (9999 + 1) t _ _).run P w = _
  split at h3
  · rename_i fs hu
    have hfs : P.fieldsOf t = fs := by simp [Program.fieldsOf, hu]
    rw [run_equalIn_struct w 9999 t xs ys (by rw [hfs]; exact hu) h2, hfs]
    exact eqFields_run 9998 xs ys w fs.toList ts 0 _ _ b h3 rfl rfl (by simpa using e)
  · rename_i n el hu
    simp only [Bool.and_eq_true] at h3
    obtain ⟨h3, h4⟩ := h3
    split at h4
    · rename_i i hi
      rw [run_equalIn_array w 9999 xs ys hu hi]
      have hc : P.cellsOf el = 1 := by simp [Program.cellsOf, hi]; exact Nat.eq_of_beq_eq_true h4
      rw [hc, List.range_eq_range']
      exact eqItems_run 9998 el xs ys w n 0 ts _ _ b h3 rfl rfl (by simpa using e)
    · simp at h4
  · simp at h3

end

def lookT : List (Nat × List Tag) → Nat → Option (List Tag)
  | [], _ => none
  | (t, ts) :: r, i => bif Nat.beq t i then some ts else lookT r i

def allT (P : Program) : List (Nat × List Tag) → Bool
  | [] => true
  | (t, ts) :: r => eqFits P t ts && allT P r

theorem allT_at {P : Program} : ∀ {l : List (Nat × List Tag)}, allT P l = true → ∀ t ts, lookT l t = some ts → AggEq P t ts
  | [], _, _, _, e => by simp [lookT] at e
  | (u, us) :: r, h, t, ts, e => by
    simp only [allT, Bool.and_eq_true] at h
    simp only [lookT, cond_eq_ite] at e
    split at e
    · rename_i hh
      have := Nat.eq_of_beq_eq_true hh
      subst this
      simp at e; subst e
      exact aggEq_of h.1
    · exact allT_at h.2 t ts e

def codeOkAt (P : Program) (C : Cfg) (f : Nat) : Bool :=
  match P.funcs[f]? with
  | some fn =>
    match fn.body with
    | some c => codeOk P C f fn.ntmps [] 0 c
    | none => true
  | none => true

def nameOkAt (P : Program) (f : Nat) : Bool :=
  match P.funcs[f]? with
  | some fn => !(fn.name == "runtime.NumGoroutine")
  | none => true

def allN (p : Nat → Bool) : Nat → Bool
  | 0 => true
  | n + 1 => p n && allN p n

theorem allN_at {p : Nat → Bool} : ∀ {n : Nat}, allN p n = true → ∀ i, i < n → p i = true
  | 0, _, i, h => absurd h (Nat.not_lt_zero i)
  | n + 1, e, i, h => by
    simp only [allN, Bool.and_eq_true] at e
    rcases Nat.lt_or_eq_of_le (Nat.le_of_lt_succ h) with h | rfl
    · exact allN_at e.2 i h
    · exact e.1

theorem fits_of {P : Program} {C : Cfg} {n : Nat} (hn : P.funcs.size = n) (h1 : allN (codeOkAt P C) n = true) (h2 : allN (nameOkAt P) n = true) (h3 : P.follows .mixedOrders = true)
    (h4 : ∀ t ts, C.eqT t = some ts → AggEq P t ts) : C.Fits P where
  ok := {
    eqT := h4
    name := fun f fn hf hn' => by
      have hlt : f < n := by rw [← hn]; exact (Array.getElem?_eq_some_iff.1 hf).1
      have := allN_at h2 f hlt
      simp [nameOkAt, hf, hn'] at this }
  mixed := h3
  code := fun f fn c hf hb => by
    have hlt : f < n := by rw [← hn]; exact (Array.getElem?_eq_some_iff.1 hf).1
    have := allN_at h1 f hlt
    simpa only [codeOkAt, hf, hb] using this

end Go.AM

/-
  The abstract machine: how its values, heaps and frames stand to the model's.
-/
import Derived.Test.YtejokpfeepbfeaaAmDefs
import Derived.Laws.Append
import Derived.Laws.Entries
import Derived.Laws.Slices
import Derived.Laws.CopyRow
import Derived.Laws.Tables
import Derived.ChangeKeysEq
import Derived.RowKit
namespace Go.AM

/-- Where a block of the abstract heap lies; extra: for how many elements there is room behind it. -/
structure Place where
  block : Nat
  base : Nat
  extra : Nat

abbrev Pl := Nat → Place

/-- The abstract value v (whose blocks are below n) stands for the model's value v'. -/
inductive VR (μ : Pl) (n : Nat) : Value → Value → Prop
  | bool (b : Bool) : VR μ n (.bool b) (.bool b)
  | int (k : IntKind) (i : Int) : VR μ n (.int k i) (.int k i)
  | string (s : ByteArray) : VR μ n (.string s) (.string s)
  | nilptr : VR μ n (.pointer none) (.pointer none)
  | ptr (b o : Nat) (h : b < n) : VR μ n (.pointer (some ⟨b, o, none⟩)) (.pointer (some ⟨(μ b).block, (μ b).base + o, none⟩))
  | nilslice (l c : Nat) : VR μ n (.slice none l c) (.slice none l c)
  | slice (b o l c : Nat) (h : b < n) : VR μ n (.slice (some ⟨b, o, none⟩) l c) (.slice (some ⟨(μ b).block, (μ b).base + o, none⟩) l (c + (μ b).extra))
  | empty (b o : Nat) (a : Addr) (h : b < n) : VR μ n (.slice (some ⟨b, o, none⟩) 0 0) (.slice (some a) 0 0)
  | nilmap : VR μ n (.map none) (.map none)
  | map (r : Nat) (h : r < n) : VR μ n (.map (some r)) (.map (some (μ r).block))
  | func (f : FuncId) (x c x' c' : Array Value) (hx : x.size = x'.size) (hc : c.size = c'.size)
      (h1 : ∀ i, i < x.size → VR μ n (x.getD i undef) (x'.getD i undef)) (h2 : ∀ i, i < c.size → VR μ n (c.getD i undef) (c'.getD i undef)) :
      VR μ n (.func (.func f) x c) (.func (.func f) x' c')
  | nilFunc : VR μ n .nilFunc .nilFunc
  | iface (t : TypeId) (v v' : Value) (h : VR μ n v v') : VR μ n (.iface t v) (.iface t v')
  | nilIface : VR μ n .nilIface .nilIface
  | agg (c c' : Array Value) (hs : c.size = c'.size) (h : ∀ i, i < c.size → VR μ n (c.getD i undef) (c'.getD i undef)) : VR μ n (.agg c) (.agg c')
  | tuple (c c' : Array Value) (hs : c.size = c'.size) (h : ∀ i, i < c.size → VR μ n (c.getD i undef) (c'.getD i undef)) : VR μ n (.tuple c) (.tuple c')
  | skip : VR μ n (.chan none) Go.undef

/-- Poison stands for anything. -/
def VP (μ : Pl) (n : Nat) (v v' : Value) : Prop := v = undef ∨ VR μ n v v'

theorem VR.mono {μ μ' : Pl} {n n' : Nat} (hm : ∀ b, b < n → μ' b = μ b) (hn : n ≤ n') {v v' : Value} (h : VR μ n v v') : VR μ' n' v v' := by
  induction h with
  | ptr b o h => rw [← hm b h]; exact .ptr b o (by omega)
  | slice b o l c h => rw [← hm b h]; exact .slice b o l c (by omega)
  | empty b o a h => exact .empty b o a (by omega)
  | map r h => rw [← hm r h]; exact .map r (by omega)
  | func f x c x' c' hx hc _ _ i1 i2 => exact .func f x c x' c' hx hc i1 i2
  | iface t v v' _ ih => exact .iface t v v' ih
  | agg c c' hs _ ih => exact .agg c c' hs ih
  | tuple c c' hs _ ih => exact .tuple c c' hs ih
  | _ => constructor

theorem VP.mono {μ μ' : Pl} {n n' : Nat} (hm : ∀ b, b < n → μ' b = μ b) (hn : n ≤ n') {v v' : Value} (h : VP μ n v v') : VP μ' n' v v' :=
  h.imp id (VR.mono hm hn)

theorem VP.undef (μ : Pl) (n : Nat) (v : Value) : VP μ n undef v := .inl rfl
theorem VP.of {μ : Pl} {n : Nat} {v v' : Value} (h : VR μ n v v') : VP μ n v v' := .inr h
theorem VR.undef (μ : Pl) (n : Nat) : VR μ n undef undef := .tuple #[] #[] rfl (fun i h => by simp at h)

theorem VP.clean {μ : Pl} {n : Nat} {v v' : Value} (h : VP μ n v v') (hc : clean v = true) : VR μ n v v' := by
  rcases h with rfl | h
  · simp [AM.clean, Go.undef] at hc
  · exact h

/-- Two lists of values, one standing for the other. -/
def VL (R : Value → Value → Prop) (l l' : List Value) : Prop := l.length = l'.length ∧ ∀ (i : Nat) (v : Value), l[i]? = some v → ∃ v' : Value, l'[i]? = some v' ∧ R v v'

theorem VL.nil (R : Value → Value → Prop) : VL R [] [] := ⟨rfl, fun i v h => by simp at h⟩
theorem VL.cons {R : Value → Value → Prop} {v v' : Value} {l l' : List Value} (h : R v v') (hl : VL R l l') : VL R (v :: l) (v' :: l') := by
  refine ⟨by simp [hl.1], fun i u hu => ?_⟩
  cases i with
  | zero => simp at hu; subst hu; exact ⟨v', by simp, h⟩
  | succ i => simp at hu; obtain ⟨u', h1, h2⟩ := hl.2 i u hu; exact ⟨u', by simpa using h1, h2⟩
theorem VL.head {R : Value → Value → Prop} {v : Value} {l : List Value} {m : List Value} (h : VL R (v :: l) m) : ∃ v' l', m = v' :: l' ∧ R v v' ∧ VL R l l' := by
  obtain ⟨h1, h2⟩ := h
  cases m with
  | nil => simp at h1
  | cons v' l' =>
    refine ⟨v', l', rfl, ?_, by simpa using h1, fun i u hu => ?_⟩
    · obtain ⟨u, e, r⟩ := h2 0 v (by simp); simp at e; subst e; exact r
    · obtain ⟨u', e, r⟩ := h2 (i + 1) u (by simpa using hu); exact ⟨u', by simpa using e, r⟩
theorem VL.isNil {R : Value → Value → Prop} {m : List Value} (h : VL R [] m) : m = [] := by
  have := h.1; cases m with
  | nil => rfl
  | cons => simp at this
theorem VL.append {R : Value → Value → Prop} {a a' b b' : List Value} (h : VL R a a') (k : VL R b b') : VL R (a ++ b) (a' ++ b') := by
  refine ⟨by simp [h.1, k.1], fun i v hv => ?_⟩
  by_cases hi : i < a.length
  · rw [List.getElem?_append_left hi] at hv
    rw [List.getElem?_append_left (by rw [← h.1]; exact hi)]
    exact h.2 i v hv
  · rw [List.getElem?_append_right (by omega)] at hv
    rw [List.getElem?_append_right (by rw [← h.1]; omega), ← h.1]
    exact k.2 _ v hv
theorem VL.mono {R S : Value → Value → Prop} {l l' : List Value} (h : VL R l l') (hr : ∀ v v', R v v' → S v v') : VL S l l' :=
  ⟨h.1, fun i v hv => let ⟨v', a, b⟩ := h.2 i v hv; ⟨v', a, hr _ _ b⟩⟩
theorem VL.take {R : Value → Value → Prop} {l l' : List Value} (h : VL R l l') (n : Nat) : VL R (l.take n) (l'.take n) := by
  refine ⟨by simp [h.1], fun i v hv => ?_⟩
  rw [List.getElem?_take] at hv ⊢
  split at hv
  · rename_i hi; simp only [hi, if_true]; exact h.2 i v hv
  · simp at hv
theorem VL.drop {R : Value → Value → Prop} {l l' : List Value} (h : VL R l l') (n : Nat) : VL R (l.drop n) (l'.drop n) := by
  refine ⟨by simp [h.1], fun i v hv => ?_⟩
  rw [List.getElem?_drop] at hv ⊢
  exact h.2 _ v hv
theorem VL.set {R : Value → Value → Prop} {l l' : List Value} (h : VL R l l') (i : Nat) {v v' : Value} (hv : R v v') : VL R (l.set i v) (l'.set i v') := by
  refine ⟨by simp [h.1], fun j u hu => ?_⟩
  rw [List.getElem?_set] at hu ⊢
  split at hu
  · rename_i e; subst e
    simp only [if_true]
    split at hu
    · rename_i hl; rw [if_pos (by rw [← h.1]; exact hl)]; simp at hu; subst hu; exact ⟨v', rfl, hv⟩
    · simp at hu
  · rename_i e; rw [if_neg e]; exact h.2 j u hu
theorem VL.map {R : Value → Value → Prop} {α : Type} {l : List α} {f g : α → Value} (h : ∀ x ∈ l, R (f x) (g x)) : VL R (l.map f) (l.map g) := by
  refine ⟨by simp, fun i v hv => ?_⟩
  simp only [List.getElem?_map, Option.map_eq_some_iff] at hv ⊢
  obtain ⟨x, hx, rfl⟩ := hv
  exact ⟨g x, ⟨x, hx, rfl⟩, h x (List.mem_of_getElem? hx)⟩

theorem VR.agg_iff {μ : Pl} {n : Nat} {c c' : Array Value} : VR μ n (.agg c) (.agg c') ↔ VL (VR μ n) c.toList c'.toList := by
  constructor
  · intro h
    cases h with
    | agg _ _ hs h =>
      refine ⟨by simpa using hs, fun i v hv => ?_⟩
      have hi : i < c.size := by
        rcases Nat.lt_or_ge i c.size with h | h
        · exact h
        · simp [Array.getElem?_eq_none h] at hv
      have := h i hi
      rw [Array.getElem?_toList] at hv
      simp [hv] at this
      have hi' : i < c'.size := by omega
      refine ⟨c'[i], by simp [hi'], ?_⟩
      simpa [hi'] using this
  · intro ⟨h1, h2⟩
    refine .agg c c' (by simpa using h1) fun i hi => ?_
    obtain ⟨v', a, b⟩ := h2 i c[i] (by simp [hi])
    rw [Array.getElem?_toList] at a
    simpa [hi, a] using b

-- the heap

def Blk.own : Blk → Bool
  | .cells .. | .map .. | .iter .. => true
  | _ => false
def Blk.isLive : Blk → Bool
  | .dead => false
  | _ => true

/-- Block b owns cell i of block r. -/
def OwnBy (p : Place) (r i : Nat) : Blk → Prop
  | .cells c k _ => p.block = r ∧ p.base ≤ i ∧ i < p.base + c.length + p.extra * k
  | .map .. | .iter .. => p.block = r
  | _ => False

def Own (μ : Pl) (h : Heap) (r i : Nat) : Prop := ∃ b x, h.bs[b]? = some x ∧ OwnBy (μ b) r i x

/-- The row of cells C holds c at base. -/
def Holds (μ : Pl) (n : Nat) (c : List Value) (base : Nat) (C : Array Value) : Prop :=
  base + c.length ≤ C.size ∧ ∀ (i : Nat) (v : Value), c[i]? = some v → ∃ v' : Value, C[base + i]? = some v' ∧ VR μ n v v'

def EntryR (μ : Pl) (n : Nat) (kt : Bool) (x : Value × Value) (e : MapEntry) : Prop := isKey kt x.1 = true ∧ e.key = x.1 ∧ VR μ n x.2 e.val

def BlkR (μ : Pl) (n : Nat) (p : Place) (w : World) : Blk → Prop
  | .cells c k s => ∃ C e fz, w.heap[p.block]? = some (.cells C e fz) ∧ Holds μ n c p.base C ∧
      p.base + c.length + p.extra * k ≤ C.size ∧ (k = 0 → p.extra = 0) ∧ (fz = (0, 0) ∨ s = true ∧ fz = (C.size, C.size + 1))
  | .ro c => ∃ C e fz, w.heap[p.block]? = some (.cells C e fz) ∧ Holds μ n c p.base C ∧ p.extra = 0
  | .map kt es => ∃ (E : Array MapEntry) (clock : Nat), w.heap[p.block]? = some (.map E clock) ∧ E.size = es.length ∧ ∀ (i : Nat) (x : Value × Value), es[i]? = some x → ∃ e : MapEntry, E[i]? = some e ∧ EntryR μ n kt x e
  | .iter s pos => w.heap[p.block]? = some (.stringIter s pos)
  | .dead => True

structure HR (μ : Pl) (h : Heap) (w : World) : Prop where
  blk : ∀ b x, h.bs[b]? = some x → BlkR μ h.len (μ b) w x
  apart : ∀ a b x y, h.bs[a]? = some x → h.bs[b]? = some y → x.own = true → y.isLive = true → (μ a).block = (μ b).block → a = b

theorem HR.lt {μ : Pl} {h : Heap} {w : World} (hr : HR μ h w) {b : Nat} {x : Blk} (hb : h.bs[b]? = some x) (hl : x.isLive = true) : (μ b).block < w.heap.size := by
  have := hr.blk b x hb
  have lt : ∀ {o : Obj}, w.heap[(μ b).block]? = some o → (μ b).block < w.heap.size := fun {o} e => by
    rcases Nat.lt_or_ge (μ b).block w.heap.size with h | h
    · exact h
    · simp [Array.getElem?_eq_none h] at e
  cases x with
  | cells c k s => obtain ⟨C, e, fz, h1, _⟩ := this; exact lt h1
  | ro c => obtain ⟨C, e, f, h1, _⟩ := this; exact lt h1
  | map kt es => obtain ⟨E, c, h1, _⟩ := this; exact lt h1
  | iter s p => exact lt this
  | dead => simp [Blk.isLive] at hl

/-- What may have turned in one object: O says which of its cells. -/
def ObjSame (O : Nat → Prop) (o o' : Option Obj) : Prop :=
  ((∀ i, ¬ O i) → o' = o) ∧
  ∀ C e fz, o = some (.cells C e fz) → ∃ C' fz', o' = some (.cells C' e fz') ∧ C'.size = C.size ∧ ∀ i : Nat, ¬ O i → C'[i]? = C[i]?

theorem ObjSame.refl (O : Nat → Prop) (o : Option Obj) : ObjSame O o o := ⟨fun _ => rfl, fun C _ fz h => ⟨C, fz, h, rfl, fun _ _ => rfl⟩⟩

theorem ObjSame.trans {O O' : Nat → Prop} (hO : ∀ i, O' i → O i) {a b c : Option Obj} (h : ObjSame O a b) (k : ObjSame O' b c) : ObjSame O a c := by
  refine ⟨fun hn => (k.1 fun i hi => hn i (hO i hi)).trans (h.1 hn), fun C e fz ha => ?_⟩
  obtain ⟨C1, f1, h1, h2, h3⟩ := h.2 C e fz ha
  obtain ⟨C2, f2, k1, k2, k3⟩ := k.2 C1 e f1 h1
  exact ⟨C2, f2, k1, k2.trans h2, fun i hi => (k3 i fun hx => hi (hO i hx)).trans (h3 i hi)⟩

/-- From (μ, h, w) to (μ', h', w'): numbers are kept, what the call does not own has not turned, and it owns no old memory more than it did. -/
structure Step (μ : Pl) (h : Heap) (w : World) (μ' : Pl) (h' : Heap) (w' : World) : Prop where
  pl : ∀ b, b < h.len → μ' b = μ b
  len : h.len ≤ h'.len
  hr : HR μ' h' w'
  os : w'.os = w.os
  tape : w'.tape = w.tape
  output : w'.output = w.output
  size : w.heap.size ≤ w'.heap.size
  same : ∀ r, r < w.heap.size → ObjSame (Own μ h r) w.heap[r]? w'.heap[r]?
  own : ∀ r i, r < w.heap.size → Own μ' h' r i → Own μ h r i

theorem Step.refl {μ : Pl} {h : Heap} {w : World} (hr : HR μ h w) : Step μ h w μ h w :=
  ⟨fun _ _ => rfl, Nat.le_refl _, hr, rfl, rfl, rfl, Nat.le_refl _, fun _ _ => .refl _ _, fun _ _ _ h => h⟩

theorem Step.trans {μ μ1 μ2 : Pl} {h h1 h2 : Heap} {w w1 w2 : World} (a : Step μ h w μ1 h1 w1) (b : Step μ1 h1 w1 μ2 h2 w2) : Step μ h w μ2 h2 w2 where
  pl k hk := (b.pl k (Nat.lt_of_lt_of_le hk a.len)).trans (a.pl k hk)
  len := Nat.le_trans a.len b.len
  hr := b.hr
  os := b.os.trans a.os
  tape := b.tape.trans a.tape
  output := b.output.trans a.output
  size := Nat.le_trans a.size b.size
  same r hr := ObjSame.trans (a.own r · hr) (a.same r hr) (b.same r (Nat.lt_of_lt_of_le hr a.size))
  own r i hr ho := a.own r i hr (b.own r i (Nat.lt_of_lt_of_le hr a.size) ho)

theorem HR.drew {μ : Pl} {h : Heap} {w : World} (hr : HR μ h w) : HR μ h w.drew := ⟨fun b x hb => by have := hr.blk b x hb; cases x <;> exact this, hr.apart⟩
theorem Step.drew {μ μ1 : Pl} {h h1 : Heap} {w w1 : World} (a : Step μ h w μ1 h1 w1) : Step μ h w μ1 h1 w1.drew :=
  ⟨a.pl, a.len, a.hr.drew, a.os, a.tape, a.output, a.size, a.same, a.own⟩
theorem Step.of_drew {μ μ1 : Pl} {h h1 : Heap} {w w1 : World} (a : Step μ h w.drew μ1 h1 w1) : Step μ h w μ1 h1 w1 :=
  ⟨a.pl, a.len, a.hr, a.os, a.tape, a.output, a.size, a.same, a.own⟩

theorem Step.vr {μ μ1 : Pl} {h h1 : Heap} {w w1 : World} (a : Step μ h w μ1 h1 w1) {v v' : Value} (hv : VR μ h.len v v') : VR μ1 h1.len v v' := hv.mono a.pl a.len
theorem Step.vp {μ μ1 : Pl} {h h1 : Heap} {w w1 : World} (a : Step μ h w μ1 h1 w1) {v v' : Value} (hv : VP μ h.len v v') : VP μ1 h1.len v v' := hv.mono a.pl a.len

-- reading

theorem HR.row {μ : Pl} {h : Heap} {w : World} (hr : HR μ h w) {b : Nat} {c : List Value} (hb : h.row b = some c) :
    b < h.len ∧ ∃ C e fz, w.heap[(μ b).block]? = some (.cells C e fz) ∧ Holds μ h.len c (μ b).base C := by
  unfold Heap.row at hb
  split at hb
  · rename_i c' k s e; simp at hb; subst hb
    obtain ⟨C, t, f, h1, h2, _⟩ := hr.blk b _ e
    exact ⟨(List.getElem?_eq_some_iff.1 e).1, C, t, f, h1, h2⟩
  · rename_i c' e; simp at hb; subst hb
    obtain ⟨C, t, f, h1, h2, _⟩ := hr.blk b _ e
    exact ⟨(List.getElem?_eq_some_iff.1 e).1, C, t, f, h1, h2⟩
  · simp at hb

theorem cell_at {w : World} {r o : Nat} {C : Array Value} {e : TypeId} {fz : Nat × Nat} {v : Value} (h : w.heap[r]? = some (.cells C e fz)) (hv : C[o]? = some v) :
    w.cell? ⟨r, o, none⟩ = some v := by simp [World.cell?, h, hv]

theorem HR.cell {μ : Pl} {h : Heap} {w : World} (hr : HR μ h w) {b o : Nat} {c : List Value} (hb : h.row b = some c) {v : Value} (hv : c[o]? = some v) :
    ∃ v', w.cell? ⟨(μ b).block, (μ b).base + o, none⟩ = some v' ∧ VR μ h.len v v' := by
  obtain ⟨_, C, e, fz, h1, h2, h3⟩ := hr.row hb
  obtain ⟨v', h4, h5⟩ := h3 o v hv
  exact ⟨v', cell_at h1 h4, h5⟩

end Go.AM

/-
  The abstract machine: what a new block, a store, an append does to the heaps, in both worlds.
-/
import Derived.Test.YtejokpfeepbfeaaAmRel
namespace Go.AM

theorem BlkR.congr {μ : Pl} {n : Nat} {p : Place} {w w1 : World} {x : Blk} (h : BlkR μ n p w x) (he : w1.heap[p.block]? = w.heap[p.block]?) : BlkR μ n p w1 x := by
  cases x <;> simp only [BlkR, he] at h ⊢ <;> exact h

theorem Holds.mono {μ μ' : Pl} {n n' : Nat} (hm : ∀ b, b < n → μ' b = μ b) (hn : n ≤ n') {c : List Value} {base : Nat} {C : Array Value} (h : Holds μ n c base C) : Holds μ' n' c base C :=
  ⟨h.1, fun i v hv => let ⟨v', a, b⟩ := h.2 i v hv; ⟨v', a, b.mono hm hn⟩⟩

theorem BlkR.mono {μ μ' : Pl} {n n' : Nat} (hm : ∀ b, b < n → μ' b = μ b) (hn : n ≤ n') {p : Place} {w : World} {x : Blk} (h : BlkR μ n p w x) : BlkR μ' n' p w x := by
  cases x with
  | cells c k s => obtain ⟨C, e, fz, h1, h2, h3⟩ := h; exact ⟨C, e, fz, h1, h2.mono hm hn, h3⟩
  | ro c => obtain ⟨C, e, fz, h1, h2, h3⟩ := h; exact ⟨C, e, fz, h1, h2.mono hm hn, h3⟩
  | map kt es =>
    obtain ⟨E, c, h1, h2, h3⟩ := h
    exact ⟨E, c, h1, h2, fun i x hx => let ⟨e, a, k1, k2, k3⟩ := h3 i x hx; ⟨e, a, k1, k2, k3.mono hm hn⟩⟩
  | iter s pos => exact h
  | dead => trivial

/-- The world with block r replaced. -/
def setBlock (w : World) (r : Nat) (o : Obj) : World := { w with heap := w.heap.setIfInBounds r o }

theorem setBlock_same {w : World} {r : Nat} {o : Obj} (h : r < w.heap.size) : (setBlock w r o).heap[r]? = some o := by simp [setBlock, h]
theorem setBlock_ne {w : World} {r k : Nat} {o : Obj} (h : k ≠ r) : (setBlock w r o).heap[k]? = w.heap[k]? := by
  simp only [setBlock, Array.getElem?_setIfInBounds]; rw [if_neg (fun e => h e.symm)]
theorem setBlock_size {w : World} {r : Nat} {o : Obj} : (setBlock w r o).heap.size = w.heap.size := by simp [setBlock]
theorem setBlock_setBlock {w : World} {r : Nat} {o o' : Obj} : setBlock (setBlock w r o) r o' = setBlock w r o' := by simp [setBlock]

theorem upd_same {h : Heap} {b : Nat} {x y : Blk} (hb : h.bs[b]? = some x) : (h.upd b y).bs[b]? = some y := by
  have := (List.getElem?_eq_some_iff.1 hb).1
  simp [Heap.upd, this]
theorem upd_ne {h : Heap} {b k : Nat} {y : Blk} (hk : k ≠ b) : (h.upd b y).bs[k]? = h.bs[k]? := by
  simp only [Heap.upd, List.getElem?_set]; rw [if_neg (fun e => hk e.symm)]
@[simp] theorem upd_len {h : Heap} {b : Nat} {y : Blk} : (h.upd b y).len = h.len := by simp [Heap.upd, Heap.len]
@[simp] theorem push_len {h : Heap} {y : Blk} : (h.push y).len = h.len + 1 := by simp [Heap.push, Heap.len]
theorem push_last {h : Heap} {y : Blk} : (h.push y).bs[h.len]? = some y := by simp [Heap.push, Heap.len]
theorem push_old {h : Heap} {y : Blk} {k : Nat} (hk : k < h.len) : (h.push y).bs[k]? = h.bs[k]? := by
  simp only [Heap.push, Heap.len] at *; rw [List.getElem?_append_left hk]
theorem push_some {h : Heap} {y z : Blk} {k : Nat} (hk : (h.push y).bs[k]? = some z) : (k < h.len ∧ h.bs[k]? = some z) ∨ (k = h.len ∧ z = y) := by
  rcases Nat.lt_trichotomy k h.len with l | l | l
  · rw [push_old l] at hk; exact .inl ⟨l, hk⟩
  · subst l; rw [push_last] at hk; simp at hk; exact .inr ⟨rfl, hk.symm⟩
  · have : (h.push y).bs.length ≤ k := by simp [Heap.push, Heap.len] at *; omega
    simp [List.getElem?_eq_none this] at hk
theorem lt_len {h : Heap} {b : Nat} {x : Blk} (hb : h.bs[b]? = some x) : b < h.len := (List.getElem?_eq_some_iff.1 hb).1

theorem OwnBy.block {p : Place} {r i : Nat} {x : Blk} (h : OwnBy p r i x) : p.block = r := by
  cases x <;> simp only [OwnBy] at h <;> first | exact h.1 | exact h | exact h.elim
theorem OwnBy.own {p : Place} {r i : Nat} {x : Blk} (h : OwnBy p r i x) : x.own = true := by
  cases x <;> simp only [OwnBy] at h <;> first | rfl | exact h.elim
theorem Blk.own_live {x : Blk} (h : x.own = true) : x.isLive = true := by cases x <;> simp_all [Blk.own, Blk.isLive]

/-- One own block turned, in both worlds. -/
theorem Step.upd {μ : Pl} {h : Heap} {w : World} (hr : HR μ h w) {b : Nat} {x y : Blk} {o : Obj} (hb : h.bs[b]? = some x) (hx : x.own = true)
    (hy : BlkR μ h.len (μ b) (setBlock w (μ b).block o) y) (hown : ∀ i, OwnBy (μ b) (μ b).block i y → OwnBy (μ b) (μ b).block i x)
    (hs : ObjSame (fun i => OwnBy (μ b) (μ b).block i x) w.heap[(μ b).block]? (some o)) :
    Step μ h w μ (h.upd b y) (setBlock w (μ b).block o) := by
  have hlt := hr.lt hb (Blk.own_live hx)
  have hne : ∀ k z, k ≠ b → h.bs[k]? = some z → z.isLive = true → (μ k).block ≠ (μ b).block := fun k z hk hz hl e => hk (hr.apart b k x z hb hz hx hl e.symm).symm
  refine ⟨fun _ _ => rfl, by simp, ⟨fun k z hz => ?_, fun a c z z' ha hc ho hl e => ?_⟩, rfl, rfl, rfl, by simp [setBlock_size], fun r hrr => ?_, fun r i hrr ⟨k, z, hz, ho⟩ => ?_⟩
  · by_cases hk : k = b
    · subst hk; rw [upd_same hb] at hz; simp at hz; subst hz; rw [upd_len]; exact hy
    · rw [upd_ne hk] at hz
      rw [upd_len]
      cases hl : z.isLive with
      | false => cases z <;> simp [Blk.isLive] at hl; trivial
      | true => exact (hr.blk k z hz).congr (setBlock_ne (hne k z hk hz hl))
  · have old : ∀ (k : Nat) (z : Blk), (h.upd b y).bs[k]? = some z → ∃ z0 : Blk, h.bs[k]? = some z0 ∧ (z.own = true → z0.own = true) ∧ (z.isLive = true → z0.isLive = true) := fun k z hz => by
      by_cases hk : k = b
      · subst hk; rw [upd_same hb] at hz; simp at hz; subst hz; exact ⟨x, hb, fun _ => hx, fun _ => Blk.own_live hx⟩
      · rw [upd_ne hk] at hz; exact ⟨z, hz, id, id⟩
    obtain ⟨za, ha1, ha2, _⟩ := old a z ha
    obtain ⟨zc, hc1, _, hc3⟩ := old c z' hc
    exact hr.apart a c za zc ha1 hc1 (ha2 ho) (hc3 hl) e
  · by_cases e : r = (μ b).block
    · subst e
      rw [setBlock_same hrr]
      exact ObjSame.trans (O' := fun i => OwnBy (μ b) (μ b).block i x) (fun i hi => ⟨b, x, hb, hi⟩) (.refl _ _) hs
    · rw [setBlock_ne e]; exact .refl _ _
  · by_cases hk : k = b
    · subst hk; rw [upd_same hb] at hz; simp at hz; subst hz
      have := ho.block; subst this
      exact ⟨k, x, hb, hown i ho⟩
    · rw [upd_ne hk] at hz; exact ⟨k, z, hz, ho⟩

/-- One own block forgotten. -/
theorem Step.kill {μ : Pl} {h : Heap} {w : World} (hr : HR μ h w) {b : Nat} {x : Blk} (hb : h.bs[b]? = some x) : Step μ h w μ (h.upd b .dead) w := by
  refine ⟨fun _ _ => rfl, by simp, ⟨fun k z hz => ?_, fun a c z z' ha hc ho hl e => ?_⟩, rfl, rfl, rfl, Nat.le_refl _, fun r _ => .refl _ _, fun r i _ ⟨k, z, hz, ho⟩ => ?_⟩
  · by_cases hk : k = b
    · subst hk; rw [upd_same hb] at hz; simp at hz; subst hz; trivial
    · rw [upd_ne hk] at hz; rw [upd_len]; exact hr.blk k z hz
  · have old : ∀ (k : Nat) (z : Blk), (h.upd b .dead).bs[k]? = some z → z.isLive = true → h.bs[k]? = some z := fun k z hz hzl => by
      by_cases hk : k = b
      · subst hk; rw [upd_same hb] at hz; simp at hz; subst hz; simp [Blk.isLive] at hzl
      · rwa [upd_ne hk] at hz
    exact hr.apart a c z z' (old a z ha (Blk.own_live ho)) (old c z' hc hl) ho hl e
  · by_cases hk : k = b
    · subst hk; rw [upd_same hb] at hz; simp at hz; subst hz; exact ho.elim
    · rw [upd_ne hk] at hz; exact ⟨k, z, hz, ho⟩

/-- The place of a new block. -/
def atNew (μ : Pl) (n : Nat) (p : Place) : Pl := fun b => if b = n then p else μ b
theorem atNew_old {μ : Pl} {n : Nat} {p : Place} {b : Nat} (h : b < n) : atNew μ n p b = μ b := by simp [atNew]; omega
@[simp] theorem atNew_new {μ : Pl} {n : Nat} {p : Place} : atNew μ n p n = p := by simp [atNew]

/-- A new block in new memory. -/
theorem Step.alloc {μ : Pl} {h : Heap} {w : World} (hr : HR μ h w) {y : Blk} {o : Obj} {base extra : Nat}
    (hy : BlkR μ h.len ⟨w.heap.size, base, extra⟩ (w.alloc o) y) : Step μ h w (atNew μ h.len ⟨w.heap.size, base, extra⟩) (h.push y) (w.alloc o) := by
  have hm : ∀ b, b < h.len → atNew μ h.len ⟨w.heap.size, base, extra⟩ b = μ b := fun b hb => atNew_old hb
  have hold : ∀ r, r < w.heap.size → (w.alloc o).heap[r]? = w.heap[r]? := fun r h => by
    show (w.heap.push o)[r]? = _
    rw [Array.getElem?_push, if_neg (by omega)]
  refine ⟨hm, by simp, ⟨fun k z hz => ?_, fun a c z z' ha hc ho hl e => ?_⟩, rfl, rfl, rfl, by simp, fun r h => by rw [hold r h]; exact .refl _ _, fun r i hrr ⟨k, z, hz, ho⟩ => ?_⟩
  · rcases push_some hz with ⟨l, hz⟩ | ⟨rfl, rfl⟩
    · rw [hm k l]
      cases hl : z.isLive with
      | false => cases z <;> simp [Blk.isLive] at hl; trivial
      | true => exact ((hr.blk k z hz).congr (hold _ (hr.lt hz hl))).mono hm (by simp)
    · rw [atNew_new]; exact hy.mono hm (by simp)
  · rcases push_some ha with ⟨la, ha'⟩ | ⟨rfl, rfl⟩ <;> rcases push_some hc with ⟨lc, hc'⟩ | ⟨rfl, rfl⟩
    · rw [hm a la, hm c lc] at e; exact hr.apart a c z z' ha' hc' ho hl e
    · rw [hm a la, atNew_new] at e; have := hr.lt ha' (Blk.own_live ho); simp at e; omega
    · rw [hm c lc, atNew_new] at e; have := hr.lt hc' hl; simp at e; omega
    · rfl
  · rcases push_some hz with ⟨l, hz⟩ | ⟨rfl, rfl⟩
    · rw [hm k l] at ho; exact ⟨k, z, hz, ho⟩
    · have := ho.block; simp at this; omega

theorem cells_getElem? {C : Array Value} {i : Nat} : C.toList[i]? = C[i]? := by simp

/-- Cells that were made just so. -/
theorem Holds.of_list {μ : Pl} {n : Nat} {c c' : List Value} (h : VL (VR μ n) c c') (rest : List Value) : Holds μ n c 0 (c' ++ rest).toArray := by
  refine ⟨by simp [h.1], fun i v hv => ?_⟩
  obtain ⟨v', a, b⟩ := h.2 i v hv
  have hi : i < c'.length := (List.getElem?_eq_some_iff.1 a).1
  exact ⟨v', by simpa [List.getElem?_append_left hi] using a, b⟩

theorem alloc_get {w : World} {o : Obj} : (w.alloc o).heap[w.heap.size]? = some o := by
  show (w.heap.push o)[w.heap.size]? = _
  simp

/-- A new row, known to its end. -/
theorem Step.newRow {μ : Pl} {h : Heap} {w : World} (hr : HR μ h w) {c c' : List Value} (e : TypeId) (hv : VL (VR μ h.len) c c') :
    Step μ h w (atNew μ h.len ⟨w.heap.size, 0, 0⟩) (h.push (.cells c 0 false)) (w.alloc (.cells c'.toArray e)) := by
  refine Step.alloc hr ⟨c'.toArray, e, _, alloc_get, ?_, by simp [hv.1], fun _ => rfl, .inl rfl⟩
  simpa using Holds.of_list hv []

/-- The cells from o on, written. -/
def setA : Array Value → Nat → List Value → Array Value
  | C, _, [] => C
  | C, o, v :: vs => setA (C.setIfInBounds o v) (o + 1) vs

@[simp] theorem setA_size : ∀ (vs : List Value) (C : Array Value) (o : Nat), (setA C o vs).size = C.size
  | [], _, _ => rfl
  | v :: vs, C, o => by rw [setA, setA_size vs]; simp
@[simp] theorem setL_length : ∀ (vs c : List Value) (o : Nat), (setL c o vs).length = c.length
  | [], _, _ => rfl
  | v :: vs, c, o => by rw [setL, setL_length vs]; simp

theorem setA_other : ∀ (vs : List Value) (C : Array Value) (o i : Nat), (i < o ∨ o + vs.length ≤ i) → (setA C o vs)[i]? = C[i]?
  | [], _, _, _, _ => rfl
  | v :: vs, C, o, i, h => by
    rw [setA, setA_other vs _ _ i (by simp at h; omega)]
    rw [Array.getElem?_setIfInBounds, if_neg (by simp at h; omega)]

theorem setA_get : ∀ (vs : List Value) (C : Array Value) (o i : Nat) (v : Value), vs[i]? = some v → o + vs.length ≤ C.size → (setA C o vs)[o + i]? = some v
  | [], _, _, i, v, h, _ => by simp at h
  | u :: vs, C, o, 0, v, h, hl => by
    simp at h; subst h
    simp only [List.length_cons] at hl
    rw [setA, setA_other vs _ _ _ (.inl (by omega)), Array.getElem?_setIfInBounds, if_pos (by omega), if_pos (by omega)]
  | u :: vs, C, o, i + 1, v, h, hl => by
    simp only [List.length_cons] at hl
    rw [setA, show o + (i + 1) = o + 1 + i from by omega]
    exact setA_get vs _ _ i v (by simpa using h) (by simp; omega)

theorem Holds.setA {μ : Pl} {n base : Nat} : ∀ {vs vs' : List Value} {c : List Value} {C : Array Value} {o : Nat}, Holds μ n c base C → VL (VR μ n) vs vs' → o + vs.length ≤ c.length →
    Holds μ n (setL c o vs) base (setA C (base + o) vs')
  | [], vs', c, C, o, h, hv, _ => by rw [hv.isNil]; exact h
  | v :: vs, m, c, C, o, h, hv, hl => by
    obtain ⟨v', l', rfl, hv1, hv2⟩ := hv.head
    rw [setL, AM.setA]
    have : Holds μ n (c.set o v) base (C.setIfInBounds (base + o) v') := by
      refine ⟨by simpa using h.1, fun i u hu => ?_⟩
      rw [List.getElem?_set] at hu
      split at hu
      · rename_i e; subst e
        split at hu
        · simp at hu; subst hu
          have := h.1
          exact ⟨v', by rw [Array.getElem?_setIfInBounds, if_pos rfl, if_pos (by omega)], hv1⟩
        · simp at hu
      · rename_i e
        obtain ⟨u', a, b⟩ := h.2 i u hu
        exact ⟨u', by rw [Array.getElem?_setIfInBounds, if_neg (by omega)]; exact a, b⟩
    have := Holds.setA (o := o + 1) this hv2 (by simp at hl ⊢; omega)
    rwa [← Nat.add_assoc] at this

theorem VR.oneCell {μ : Pl} {n : Nat} {v v' : Value} (h : VR μ n v v') (hc : cellOk v = true) : v'.oneCell' = true := by
  cases h <;> simp_all [cellOk, Value.oneCell']

theorem addr_add (r o j : Nat) : (⟨r, o, none⟩ : Addr).add j = ⟨r, o + j, none⟩ := by
  unfold Addr.add; split
  · rename_i h; subst h; rfl
  · rfl

/-- Cells stored one behind the other. -/
theorem run_stores {P : Program} (r : Nat) (e : TypeId) (fz : Nat × Nat) (o : Nat) : ∀ (vs : List Value) (i : Nat) (C : Array Value) (w : World), w.heap[r]? = some (.cells C e fz) → o + i + vs.length ≤ C.size →
    (∀ j, o + i ≤ j → j < o + i + vs.length → ¬ (fz.1 ≤ j ∧ j < fz.2)) → (∀ v ∈ vs, v.oneCell' = true) →
    (storeCells ⟨r, o, none⟩ vs i).run P w = .ok () (setBlock w r (.cells (setA C (o + i) vs) e fz))
  | [], i, C, w, h, _, _, _ => by
    simp only [storeCells, Sem.run_pure, setA]
    congr 1
    obtain ⟨heap, tape, drawn, os, output⟩ := w
    simp only [setBlock, World.mk.injEq, and_true]
    apply Array.ext'
    apply List.ext_getElem?
    intro k
    simp only [Array.getElem?_toList, Array.getElem?_setIfInBounds]
    split
    · rename_i hk; subst hk
      simp only at h
      have : r < heap.size := by
        rcases Nat.lt_or_ge r heap.size with h' | h'
        · exact h'
        · simp [Array.getElem?_eq_none h'] at h
      rw [if_pos this]; exact h
    · rfl
  | v :: vs, i, C, w, h, hl, hf, ho => by
    simp only [List.length_cons] at hl hf
    have hlt : r < w.heap.size := by
      rcases Nat.lt_or_ge r w.heap.size with h' | h'
      · exact h'
      · simp [Array.getElem?_eq_none h'] at h
    have hc : w.cell? ⟨r, o + i, none⟩ = some C[o + i] := cell_at h (by simp)
    have hfz : w.frozen? ⟨r, o + i, none⟩ = false := by
      have := hf (o + i) (by omega) (by omega)
      simp only [World.frozen?, h]
      simpa using this
    have hset : w.setCell ⟨r, o + i, none⟩ v = setBlock w r (.cells (C.setIfInBounds (o + i) v) e fz) := by
      obtain ⟨heap, tape, drawn, os, output⟩ := w
      simp only [World.setCell, setBlock, World.mk.injEq, and_true]
      apply Array.ext'
      apply List.ext_getElem?
      intro k
      simp only [Array.getElem?_toList, Array.getElem?_modify, Array.getElem?_setIfInBounds]
      split
      · rename_i hk; subst hk; simp only at h hlt; rw [h]; simp
      · rfl
    rw [storeCells, addr_add, Sem.run_bind, run_store _ _ _ _ _ (ho v (by simp))]
    simp only [hc, hfz, Bool.false_eq_true, if_false, Result.andThen_ok, hset]
    rw [run_stores r e fz o vs (i + 1) _ _ (setBlock_same hlt) (by simp; omega) (fun j h1 h2 => hf j (by omega) (by omega)) (fun u hu => ho u (by simp [hu]))]
    rw [setBlock_setBlock, setA, Nat.add_assoc]

theorem VL.mem_right {R : Value → Value → Prop} {l l' : List Value} (h : VL R l l') {v' : Value} (hv : v' ∈ l') : ∃ v ∈ l, R v v' := by
  obtain ⟨i, hi⟩ := List.mem_iff_getElem?.1 hv
  have hl : i < l.length := by rw [h.1]; exact (List.getElem?_eq_some_iff.1 hi).1
  obtain ⟨u, a, b⟩ := h.2 i l[i] (by simp [hl])
  rw [hi] at a; simp at a; subst a
  exact ⟨l[i], by simp, b⟩

theorem cellsOk_mem {vs : List Value} (h : cellsOk vs = true) {v : Value} (hv : v ∈ vs) : cellOk v = true := by
  simp [cellsOk] at h; exact h v hv

/-- A store of cells, in both worlds. -/
theorem stL_ok {P : Program} {μ : Pl} {h h1 : Heap} {w : World} (hr : HR μ h w) {vs vs' : List Value} {p p' : Value} (hs : stL h vs p = some h1) (hp : VP μ h.len p p')
    (hv : VL (VP μ h.len) vs vs') : ∃ a w1, p' = .pointer (some a) ∧ (storeCells a vs').run P w = .ok () w1 ∧ Step μ h w μ h1 w1 := by
  unfold stL at hs
  split at hs
  · rename_i b o
    split at hs
    · rename_i c k s hb
      simp only [cond_eq_ite] at hs
      split at hs
      · rename_i hc
        simp at hs; subst hs
        simp only [Bool.and_eq_true, Nat.ble_eq] at hc
        obtain ⟨hl, hcl⟩ := hc
        have hv : VL (VR μ h.len) vs vs' := ⟨hv.1, fun i v hi => by
          obtain ⟨v', a, b⟩ := hv.2 i v hi
          refine ⟨v', a, ?_⟩
          rcases b with rfl | b
          · have := cellsOk_mem hcl (List.mem_of_getElem? hi); simp [cellOk, Go.undef] at this
          · exact b⟩
        have hvr := hp.clean rfl
        cases hvr with
        | ptr b o hbn =>
        obtain ⟨C, e, fz, h2, h3, h4, h5, h6⟩ := hr.blk b _ hb
        refine ⟨_, _, rfl, run_stores _ e _ _ vs' 0 C w h2 (by have := h3.1; have := hv.1; omega) (fun j h1 h2 => ?_) (fun v hm => ?_), ?_⟩
        · have := h3.1; have := hv.1
          rcases h6 with rfl | ⟨_, rfl⟩ <;> simp <;> omega
        · obtain ⟨u, a, b⟩ := hv.mem_right hm
          exact b.oneCell (cellsOk_mem hcl a)
        · rw [Nat.add_zero]
          refine Step.upd hr hb rfl ?_ (fun i hi => ?_) ?_
          · refine ⟨_, e, _, setBlock_same (hr.lt hb rfl), Holds.setA h3 hv hl, by simpa using h4, h5, by simpa using h6⟩
          · simpa [OwnBy] using hi
          · refine ⟨fun hn => ?_, fun C1 e1 fz1 h7 => ?_⟩
            · cases vs with
              | nil =>
                rw [hv.isNil, AM.setA]; exact h2.symm
              | cons v vs =>
                exact absurd (⟨rfl, by omega, by simp at hl; omega⟩ : OwnBy (μ b) (μ b).block ((μ b).base + o) (.cells c k s)) (hn _)
            · rw [h2] at h7; simp at h7; obtain ⟨rfl, rfl, rfl⟩ := h7
              refine ⟨_, _, rfl, by simp, fun i hi => setA_other _ _ _ _ ?_⟩
              have := hv.1
              rcases Nat.lt_or_ge i ((μ b).base + o) with h' | h'
              · exact .inl h'
              · rcases Nat.lt_or_ge i ((μ b).base + o + vs'.length) with h'' | h''
                · exact absurd (⟨rfl, by omega, by omega⟩ : OwnBy (μ b) (μ b).block i (.cells c k s)) hi
                · exact .inr h''
      · simp at hs
    · simp at hs
  · simp at hs

end Go.AM

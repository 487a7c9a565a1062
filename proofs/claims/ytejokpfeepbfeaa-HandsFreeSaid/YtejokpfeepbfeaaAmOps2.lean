/-
  The abstract machine: more operations that call nothing, in both worlds.
-/
import Derived.Test.YtejokpfeepbfeaaAmOps
import Derived.Laws.MakeOwn
import Derived.Laws.StructEq
import Derived.Laws.Build
import Derived.Laws.Small
namespace Go.AM

section
variable {P : Program} {μ : Pl} {h : Heap} {w : World}

theorem VR.cst {n : Nat} {v : Value} (hc : isCst v = true) : VR μ n v v := by
  cases v with
  | bool b => exact .bool b
  | int k i => exact .int k i
  | string s => exact .string s
  | pointer a => cases a with
    | none => exact .nilptr
    | some a => simp [isCst] at hc
  | slice a l c => cases a with
    | none => exact .nilslice l c
    | some a => simp [isCst] at hc
  | map r => cases r with
    | none => exact .nilmap
    | some a => simp [isCst] at hc
  | nilFunc => exact .nilFunc
  | nilIface => exact .nilIface
  | _ => simp [isCst] at hc

theorem VL.cst {n : Nat} : ∀ {l : List Value}, l.all isCst = true → VL (VR μ n) l l
  | [], _ => .nil _
  | v :: l, h => by simp at h; exact .cons (.cst h.1) (VL.cst (by simpa using h.2))

theorem cellsV_eq (v : Value) : v.cells = (cellsV v).toArray := by cases v <;> simp [cellsV, Value.cells]

theorem zeroC_spec {t : TypeId} {z : List Value} (e : zeroC P t = some z) :
    ∃ zv i, P.info? t = some i ∧ i.zero = some zv ∧ zv.cells = z.toArray ∧ z.all isCst = true ∧ z.length = i.size ∧ sizeT P t = i.size ∧ ∀ w, (zeroValue t).run P w = .ok zv w := by
  simp only [zeroC, Option.bind_eq_some_iff, cond_eq_ite] at e
  obtain ⟨zv, h1, h2⟩ := e
  obtain ⟨i, h3, h4⟩ := zeroT_info h1
  split at h2
  · rename_i hc
    simp at h2; subst h2
    simp only [Bool.and_eq_true] at hc
    have := Nat.eq_of_beq_eq_true hc.2
    exact ⟨zv, i, h3, h4, cellsV_eq zv, hc.1, by rw [← sizeT_eq h3]; exact this, sizeT_eq h3, fun w => run_zero h1 w⟩
  · simp at h2

theorem alloc_gives (hr : HR μ h w) {t : TypeId} {z : List Value} {out : Out} (hz : zeroC P t = some z) (e : newR h z = some out) :
    ∃ u h1, out = .ret u h1 ∧ Gives P μ h w (Instr.alloc t true (.tuple #[])) u h1 := by
  obtain ⟨zv, i, _, _, hcs, hc, _, _, hrun⟩ := zeroC_spec hz
  obtain ⟨u, h1, rfl, μ1, h2, h3⟩ := newR_gives hr e ((VL.cst hc).mono fun _ _ => .of) t
  exact ⟨u, h1, rfl, μ1, _, _, by simp [Instr.alloc, hrun, newVar, newRow, hcs], .of h2, h3⟩

-- parts

theorem foldl_setA (off : Nat) : ∀ (vs : List Value) (k : Nat) (C : Array Value), (vs.zipIdx k).foldl (fun cs (x : Value × Nat) => cs.setIfInBounds (off + x.2) x.1) C = setA C (off + k) vs
  | [], _, _ => rfl
  | v :: vs, k, C => by
    rw [List.zipIdx_cons, List.foldl_cons, foldl_setA off vs (k + 1)]; rfl

theorem fill_ok {n : Nat} (place : Nat → Option (Nat × Nat)) {α : Type} (f g : α → Value) (hfg : ∀ x, VP μ n (f x) (g x)) :
    ∀ (ps : List (Nat × α)) {l : List (Nat × Nat × Value)} {c c' : List Value} {C : Array Value},
      (ps.mapM fun p => (place p.1).map fun q => (q.1, q.2, f p.2)) = some l → fillL c l = some c' → VL (VR μ n) c C.toList →
      ∃ C' : Array Value, Instr.fill place C (ps.map fun p => (p.1, g p.2)) = some C' ∧ VL (VR μ n) c' C'.toList
  | [], l, c, c', C, h1, h2, h3 => by
    simp at h1; subst h1; simp [fillL] at h2; subst h2; exact ⟨C, rfl, h3⟩
  | (i, x) :: ps, l, c, c', C, h1, h2, h3 => by
    simp only [List.mapM_cons, Option.bind_eq_bind, Option.pure_def, Option.bind_eq_some_iff, Option.map_eq_some_iff, Option.some.injEq] at h1
    obtain ⟨_, ⟨⟨off, size⟩, hp, rfl⟩, l', hl, rfl⟩ := h1
    simp only [List.map_cons, Instr.fill, hp]
    have key : ∀ vs vs' : List Value, (g x).cells = vs'.toArray → VL (VR μ n) vs vs' → vs.length = size → off + size ≤ c.length → fillL (setL c off vs) l' = some c' →
        ∃ C' : Array Value, (if (g x).cells.size ≠ size || decide (off + (g x).cells.size > C.size) then none else
          Instr.fill place ((g x).cells.zipIdx.foldl (fun cs (x : Value × Nat) => match x with | (c, j) => cs.setIfInBounds (off + j) c) C) (ps.map fun p => (p.1, g p.2))) = some C' ∧ VL (VR μ n) c' C'.toList := by
      intro vs vs' hcs hvs hlen hle hf
      have hC : C.size = c.length := by simpa using h3.1.symm
      have hv' : vs'.length = size := by rw [← hvs.1]; exact hlen
      rw [hcs, if_neg (by simp [hv']; omega)]
      have hfold : (vs'.toArray.zipIdx.foldl (fun cs (x : Value × Nat) => match x with | (c, j) => cs.setIfInBounds (off + j) c) C) = setA C off vs' := by
        rw [← Array.foldl_toList]
        simp only [Array.toList_zipIdx]
        exact foldl_setA off vs' 0 C
      rw [hfold]
      have hh : Holds μ n c 0 C := ⟨by omega, fun i v hv => by obtain ⟨v', a, b⟩ := h3.2 i v hv; exact ⟨v', by simpa using a, b⟩⟩
      have hh := Holds.setA hh hvs (o := off) (by omega)
      rw [Nat.zero_add] at hh
      refine fill_ok place f g hfg ps hl hf ⟨by simp [hC], fun i v hv => ?_⟩
      obtain ⟨v', a, b⟩ := hh.2 i v hv
      exact ⟨v', by simpa using a, b⟩
    simp only [fillL] at h2
    split at h2
    · rename_i cs hx
      simp only [cond_eq_ite] at h2
      split at h2
      · rename_i hc
        simp only [Bool.and_eq_true, Nat.ble_eq] at hc
        have hv := hfg x
        rw [hx] at hv
        have hv := hv.clean rfl
        obtain ⟨v', hg⟩ : ∃ v', g x = v' := ⟨_, rfl⟩
        rw [hg] at hv
        cases hv with
        | agg _ cs' hs hh =>
        exact key cs.toList cs'.toList (by rw [hg]; simp [Value.cells]) (VR.agg_iff.1 (.agg _ cs' hs hh)) (by simpa using Nat.eq_of_beq_eq_true hc.1.1) hc.1.2 h2
      · simp at h2
    · simp only [cond_eq_ite] at h2
      split at h2
      · rename_i hc
        simp only [Bool.and_eq_true, Nat.ble_eq] at hc
        have hv : VR μ n (f x) (g x) := by
          rcases hfg x with e | hv
          · rw [e] at hc; simp [cellOk, Go.undef] at hc
          · exact hv
        have h1 := Nat.eq_of_beq_eq_true hc.1.1
        exact key [f x] [g x] (by rw [hv.cells_one hc.2]) (.cons hv (.nil _)) (by simp [h1]) (by omega) (by simpa [setL] using h2)
      · simp at h2

theorem placesT_mapM (place : Nat → Option (Nat × Nat)) (ρ : Operand → Value) : ∀ ps : List (Nat × Operand),
    placesT place ρ ps = ps.mapM fun p => (place p.1).map fun q => (q.1, q.2, ρ p.2)
  | [] => rfl
  | (i, x) :: r => by
    simp only [placesT, List.mapM_cons, placesT_mapM place ρ r, Option.bind_eq_bind, Option.pure_def]
    cases place i with
    | none => rfl
    | some q =>
      obtain ⟨off, size⟩ := q
      simp only [Option.bind_some, Option.map_some]
      cases r.mapM fun p => (place p.1).map fun q => (q.1, q.2, ρ p.2) <;> rfl

theorem fieldPlaces_mapM : ∀ fs : List Field, fieldPlaces P fs = fs.mapM (fun f => (P.info? f.type).map fun i => (f.offset, i.size))
  | [] => rfl
  | f :: fs => by
    simp only [fieldPlaces, List.mapM_cons, fieldPlaces_mapM fs, Option.bind_eq_bind, Option.pure_def]
    cases P.info? f.type with
    | none => rfl
    | some i =>
      simp only [Option.bind_some, Option.map_some]
      cases fs.mapM (fun f => (P.info? f.type).map fun i => (f.offset, i.size)) <;> rfl

theorem build_gives (hr : HR μ h w) {t : TypeId} {z : List Value} {pl : Nat → Option (Nat × Nat)} {l : List (Nat × Nat × Value)} {out : Out} {ps : Array (Nat × Operand)} {ρ ρ' : Operand → Value}
    (hz : zeroC P t = some z) (hpl : placeT P t = some pl) (hl : placesT pl ρ ps.toList = some l) (e : pureR ((fillL z l).map fun c => .agg c.toArray) h = some out)
    (hρ : ∀ x, VP μ h.len (ρ x) (ρ' x)) : ∃ u, out = .ret u h ∧ Gives P μ h w (Instr.build t (ps.map fun (i, x) => (i, ρ' x))) u h := by
  obtain ⟨zv, i, hi, hiz, hcs, hc, _, _, _⟩ := zeroC_spec hz
  obtain ⟨u, h1, rfl⟩ := pureR_some e
  simp only [Option.map_eq_some_iff] at h1
  obtain ⟨c, h1, rfl⟩ := h1
  rw [placesT_mapM] at hl
  obtain ⟨C', h2, h3⟩ := fill_ok (μ := μ) pl ρ ρ' hρ ps.toList hl h1 (C := z.toArray) (by simpa using VL.cst hc)
  refine ⟨_, rfl, .still hr (run_build w t _ C' ?_) (.of (VR.agg_iff.2 (by simpa using h3)))⟩
  have h2 : Instr.fill pl zv.cells (ps.map fun (i, x) => (i, ρ' x)).toList = some C' := by rw [hcs]; simpa using h2
  unfold placeT at hpl
  split at hpl
  · rename_i fs hu
    simp only [Option.map_eq_some_iff] at hpl
    obtain ⟨pls, hp, rfl⟩ := hpl
    rw [fieldPlaces_mapM] at hp
    simp only [Program.built, hi, hu, hiz, hp]
    simpa using h2
  · rename_i n e hu
    simp only [Option.map_eq_some_iff] at hpl
    obtain ⟨ie, hie, rfl⟩ := hpl
    simp only [Program.built, hi, hu, hiz, hie]
    exact h2
  · simp at hpl

theorem zeros_length (z : List Value) : ∀ n, (zeros z n).length = n * z.length
  | 0 => by simp [zeros]
  | n + 1 => by simp [zeros, zeros_length z n, Nat.succ_mul, Nat.add_comm]

theorem zeros_get (z : List Value) : ∀ (n i : Nat), i < n * z.length → (zeros z n)[i]? = z[i % z.length]?
  | 0, i, h => by simp at h
  | n + 1, i, h => by
    rw [zeros]
    have hz : 0 < z.length := by
      rcases Nat.eq_zero_or_pos z.length with h0 | h0
      · rw [h0] at h; simp at h
      · exact h0
    by_cases hi : i < z.length
    · rw [List.getElem?_append_left hi, Nat.mod_eq_of_lt hi]
    · rw [List.getElem?_append_right (by omega), zeros_get z n _ (by rw [Nat.succ_mul] at h; omega)]
      congr 1
      rw [← Nat.mod_eq_sub_mod (by omega)]

theorem madeCells_eq (z : List Value) (n : Nat) : madeCells z.toArray (n * z.length) = (zeros z n).toArray := by
  apply Array.ext'
  apply List.ext_getElem?
  intro i
  simp only [madeCells, Array.toList_map, List.getElem?_map, Array.toList_range, List.size_toArray]
  by_cases hi : i < n * z.length
  · rw [zeros_get z n i hi]
    have hz : 0 < z.length := by
      rcases Nat.eq_zero_or_pos z.length with h0 | h0
      · rw [h0] at hi; simp at hi
      · exact h0
    have : i % z.length < z.length := Nat.mod_lt _ hz
    simp [List.getElem?_range hi, this]
  · rw [List.getElem?_eq_none (by simpa using hi), List.getElem?_eq_none (by simp [zeros_length]; omega)]; rfl

theorem VL.zeros {n : Nat} {z : List Value} (hz : z.all isCst = true) : ∀ m, VL (VR μ n) (zeros z m) (zeros z m)
  | 0 => .nil _
  | m + 1 => (VL.cst hz).append (VL.zeros hz m)

theorem elemT_spec {t e : TypeId} (h : elemT P t = some e) : P.underlying t = some (.slice e) := by
  unfold elemT at h; split at h
  · rename_i hu; simp at h; subst h; exact hu
  · simp at h

theorem VR.newSlice {n l c : Nat} (μ : Pl) (r : Nat) : VR (atNew μ n ⟨r, 0, 0⟩) (n + 1) (.slice (some ⟨n, 0, none⟩) l c) (.slice (some ⟨r, 0, none⟩) l c) := by
  have := VR.slice (μ := atNew μ n ⟨r, 0, 0⟩) (n := n + 1) n 0 l c (by omega)
  simpa using this

theorem buildSlice_gives (hr : HR μ h w) {t e : TypeId} {z : List Value} {len : Nat} {l : List (Nat × Nat × Value)} {out : Out} {ps : Array (Nat × Operand)} {ρ ρ' : Operand → Value}
    (he : elemT P t = some e) (hz : zeroC P e = some z) (hl : placesT (fun i => some (i * sizeT P e, sizeT P e)) ρ ps.toList = some l) (hb : len * sizeT P e ≤ 16777216)
    (eq : buildSliceR len z h l = some out) (hρ : ∀ x, VP μ h.len (ρ x) (ρ' x)) :
    ∃ u h1, out = .ret u h1 ∧ Gives P μ h w (Instr.buildSlice t len (ps.map fun (i, x) => (i, ρ' x))) u h1 := by
  obtain ⟨zv, i, hi, hiz, hcs, hc, hzl, hsz, hrun⟩ := zeroC_spec hz
  simp only [buildSliceR, Option.bind_eq_some_iff, cond_eq_ite] at eq
  obtain ⟨c, h1, h2⟩ := eq
  split at h2
  · simp at h2; subst h2
    rw [placesT_mapM] at hl
    obtain ⟨C', h2, h3⟩ := fill_ok (μ := μ) (fun i => some (i * sizeT P e, sizeT P e)) ρ ρ' hρ ps.toList hl h1 (C := (zeros z len).toArray) (by simpa using VL.zeros hc len)
    have hmade : ((Array.range (len * i.size)).map (fun x => (if len * i.size = 0 then #[] else zv.cells)[x % (if len * i.size = 0 then (#[] : Array Value) else zv.cells).size]!)) = (zeros z len).toArray := by
      rw [← madeCells_eq, hzl]
      split
      · rename_i h0; rw [h0]; simp [madeCells, Array.range_zero']
      · rw [hcs]; rfl
    refine ⟨_, _, rfl, atNew μ h.len ⟨w.heap.size, 0, 0⟩, _, w.alloc (.cells C' e), ?_, .of (by simpa using VR.newSlice (l := len) (c := len) μ w.heap.size), by simpa using Step.newRow hr e h3⟩
    rw [hsz] at h2 hb
    have h2' : Instr.fill (fun x => some (x * i.size, i.size)) (zeros z len).toArray (ps.map fun (i, x) => (i, ρ' x)).toList = some C' := by simpa using h2
    have hb' : ¬ (len * i.size > 2 ^ 24) := by omega
    simp only [Instr.buildSlice, Sem.run_bind, run_underlying (elemT_spec he), Result.andThen_ok, run_size hi, hsz, if_neg hb']
    by_cases h0 : len * i.size = 0
    · simp only [h0, if_true] at hmade
      simp only [h0, if_true, pure_bind]
      rw [hmade, h2']
      simp [newRow]
    · simp only [h0, if_false] at hmade
      simp only [h0, if_false, Sem.run_bind, hrun, Result.andThen_ok, Sem.run_pure]
      rw [hmade, h2']
      simp [newRow]
  · simp at h2

theorem natOf_some {v : Value} {n : Nat} (h : natOf v = some n) : v = .int .i64 n ∧ n ≤ 70368744177664 := by
  unfold natOf at h; split at h
  · rename_i m
    simp only [cond_eq_ite] at h; split at h
    · rename_i hc; simp at h hc; subst h
      exact ⟨by rw [Int.toNat_of_nonneg hc.1], by omega⟩
    · simp at h
  · simp at h

theorem make_gives (hr : HR μ h w) {t e : TypeId} {z : List Value} {l c l' c' : Value} {out : Out}
    (he : elemT P t = some e) (hz : zeroC P e = some z) (eq : makeR z (bytesT P e) h l c = some out) (hl : VP μ h.len l l') (hc : VP μ h.len c c') :
    ∃ u h1, out = .ret u h1 ∧ Gives P μ h w (Instr.makeSlice t l' c') u h1 := by
  obtain ⟨zv, i, hi, hiz, hcs, hcst, hzl, hsz, hrun⟩ := zeroC_spec hz
  simp only [makeR, Option.bind_eq_some_iff, cond_eq_ite] at eq
  obtain ⟨n, h1, m, h2, h3⟩ := eq
  obtain ⟨rfl, hn⟩ := natOf_some h1
  obtain ⟨rfl, hm⟩ := natOf_some h2
  split at h3
  · rename_i hh
    simp only [Bool.and_eq_true, Nat.ble_eq] at hh
    simp at h3; subst h3
    cases hl.clean rfl
    cases hc.clean rfl
    have hby : bytesT P e = i.bytes := bytesT_eq hi
    rw [hby] at hh
    have hbytes : (i.bytes : Int) * (m : Int) ≤ 281474976710656 := by
      have h := hh.1.2
      rw [Nat.mul_comm] at h
      have : ((i.bytes * m : Nat) : Int) ≤ 281474976710656 := by omega
      rwa [Int.natCast_mul] at this
    have := run_make (P := P) w t e i zv (elemT_spec he) hi hiz .i64 .i64 n m (by omega) (by have := hh.1.1; omega) hbytes (by omega)
    refine ⟨_, _, rfl, atNew μ h.len ⟨w.heap.size, 0, 0⟩, _, _, this, .of ?_, ?_⟩
    · simpa using VR.newSlice (l := n) (c := m) μ w.heap.size
    · have := Step.newRow hr e (VL.zeros (μ := μ) (n := h.len) hcst m)
      rw [hcs, Int.toNat_natCast, ← hzl, madeCells_eq]; exact this
  · simp at h3

end
end Go.AM

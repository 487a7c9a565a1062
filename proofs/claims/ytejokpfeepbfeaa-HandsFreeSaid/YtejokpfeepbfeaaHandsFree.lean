/-
  Proved: the law HandsFree returns true at every input, and writes nothing that was there before.
-/
import Derived.Test.YtejokpfeepbfeaaHaH
import Derived.Test.YtejokpfeepbfeaaHaF
import Derived.Test.YtejokpfeepbfeaaAmFit
import Derived.Test.YtejokpfeepbfeaaRows
import Derived.WalkKit
import Derived.ProofKit
import Derived.OpenShut
import Derived.ChangeOld
import Derived.Below
set_option linter.unusedSimpArgs false
set_option linter.unusedVariables false
set_option linter.unnecessarySimpa false
namespace Go.Proofs.Ytejokpfeepbfeaa.handsFree
open Go.ChangeShapes Go.WideShapes Go.ChangeAt Go.RowKit Go.AM Go.Ha

theorem own : ownKnob Try.prog.godebug = none := by kernel_rfl
theorem laidOut : laidOutB Try.prog = true := by kernel_rfl

theorem deeds : DeedT Try.prog 25 24 23 3 :=
  ⟨Try.underlying25, Try.underlying24, ⟨_, _, Try.underlying23, rfl, rfl, rfl, rfl⟩, Try.underlying3, by kernel_rfl, by kernel_rfl, by kernel_rfl⟩

/-- The steps, as a row that can be read. -/
theorem pick {w : World} {v1 v2 v3 : Value} (X : Handed w v1 v2 v3) : ∃ a3, VR X.μ X.h.len a3 v3 ∧ IntsAt (inpOf X.h) a3 X.order ∧ (X.progs.length = 2 → elemsOf X.h 1 X.order.length a3 = some (X.order.map intV64)) := by
  rcases X.E3 with e | ⟨e1, a, rfl⟩
  · exact ⟨X.a3, X.r3, X.A3, fun _ => e⟩
  · by_cases h2 : X.progs.length = 2
    · rcases X.A2 with ⟨h, _⟩ | ⟨b, o, c, r, _, hb, _⟩
      · rw [h] at h2; simp at h2
      · cases hy : X.h.bs[b]? with
        | none => unfold inpOf at hb; rw [hy] at hb; simp at hb
        | some y =>
          have hlt := Go.Ha.lt_len hy
          refine ⟨.slice (some ⟨b, 0, none⟩) 0 0, .empty b 0 a hlt, .inl ⟨e1, _, _, rfl⟩, fun _ => ?_⟩
          rw [e1]
          have hrow : X.h.row b = some r := by
            unfold inpOf at hb; rw [hy] at hb
            unfold Heap.row; rw [hy]
            cases y <;> simp [rowOf] at hb ⊢ <;> exact hb
          have e1 : Nat.ble ([] : List Int).length 0 = true := rfl
          have e2 : Nat.ble (0 + ([] : List Int).length * 1) r.length = true := by rw [Nat.ble_eq]; simp
          simp only [elemsOf, e1, cond_true, hrow, Option.bind_some, cut, e2]
          rfl
    · exact ⟨X.a3, X.r3, X.A3, fun h => absurd h h2⟩

theorem longest (l : List (List (Int × Int))) : ∃ m, ∀ p ∈ l, p.length < m := by
  induction l with
  | nil => exact ⟨0, fun p h => by simp at h⟩
  | cons x l ih =>
    obtain ⟨m, hm⟩ := ih
    refine ⟨m + x.length + 1, fun p hp => ?_⟩
    rcases List.mem_cons.1 hp with rfl | hp
    · omega
    · have := hm p hp; omega

theorem walk {w : World} {v1 v2 v3 : Value} (X : Handed w v1 v2 v3) (who : Int) : Calls Try.prog 6 #[v1, v2, v3, .int .i64 who] w fun e w' => e = .returned (.bool true) ∧ Go.RowKit.Below w.heap.size w w' := by
  obtain ⟨a3, r3, A3, E3⟩ := pick X
  obtain ⟨m, hm⟩ := longest X.progs
  have b1 := X.len
  have b2 := X.len2
  have b4 := X.len4
  unfold maxLen at b1 b2 b4
  obtain ⟨h', e⟩ := hfree_ok (who := who) X.A1 X.A2 A3 E3 (by omega) (by omega) (fun p hp => by have := b4 p hp; omega) (X.start.length + X.progs.length + m + 30001) (by omega) (by omega) (by omega) (fun p hp => by have := hm p hp; omega)
  exact law_true YtejokpfeepbfeaaAm.fits (args := [X.a1, X.a2, a3, .int .i64 who]) (args' := [v1, v2, v3, .int .i64 who]) X.ro X.hr (fun g hg => absurd hg (Nat.not_lt_zero g))
    (.cons (.of X.r1) (.cons (.of X.r2) (.cons (.of r3) (.cons (.of (.int .i64 who)) (.nil _))))) (n := X.start.length + X.progs.length + m + 30001 + 7) (by unfold run at e; rw [e]; rfl)

theorem one_cell {t e : TypeId} {w : World} {r : Reach} {b0 : Nat} {v : Value} {H : Type} {enc : TypeId × Value → H} {d : DataW H} {ps : List MemPlace} (ht : Try.prog.underlying t = some (.slice e)) (hval : Value.okWide Try.prog w r b0 t v)
    (hd : DataW.Trod enc Try.prog w 0 (fun _ => true) true t v d ps) : ∃ fuel x, DataW.trod enc Try.prog w 0 (fun _ => true) true fuel t [v] = some x := by
  obtain ⟨a, l, c, rfl⟩ := okWide_slice ht hval
  obtain ⟨fuel, h⟩ := hd
  exact ⟨fuel, _, h⟩

set_option maxRecDepth 100000 in
theorem lifted (os : Os) (started : os.Started) (H : Type) (enc : TypeId × Value → H) :
    ReturnsInHanded {} Try.checked os 6 .any (Rows.handsFreeSpec.pre6 enc Try.prog Try.f6 Rows.handsFreeRow.domain false) (Rows.handsFreeSpec.post enc Try.prog Try.f6 false true false false) := by
  refine returnsInHanded_of_change (C := Try.checked) own started (by kernel_rfl) Try.func6
    (ChangeSpec.witness6 (enc := enc) (C := Try.checked) false ⟨#[], #[.slice none 0 0, .slice none 0 0, .slice none 0 0, .int .i64 1], []⟩ 8 (by kernel_rfl) (by kernel_rfl) (by kernel_rfl) (by kernel_rfl)) ?_
  intro W base args ds gs before hval0 hW hcnd _
  have hval : ∀ (j : Nat) t v, Try.f6.params[j]? = some t → args[j]? = some v → Value.okWide Try.prog W .any base t v := hval0
  have hW' := hW
  obtain ⟨p, q, hA0, hV, rfl, hfz, hnd⟩ := hW
  have hA : DataW.TrodAll enc Try.prog W 0 (fun _ => true) true Try.f6.params.toList args.toList ds p := hA0
  rw [Try.params6] at hA hval
  obtain ⟨v1, v2, v3, v0, d1, d2, d3, d0, p1, p2, p3, p0, rfl, rfl, rfl, h1, h2, h3, h0⟩ := trodAll_four hA
  obtain ⟨rfl, rfl⟩ := trodVars_none hV
  obtain ⟨who, rfl, rfl, rfl, wa⟩ := open_int Try.underlying3 (hval 3 3 v0 rfl rfl) h0
  obtain ⟨f1, x1, t1⟩ := one_cell Try.underlying27 (hval 0 27 v1 rfl rfl) h1
  obtain ⟨f2, x2, t2⟩ := one_cell Try.underlying25 (hval 1 25 v2 rfl rfl) h2
  obtain ⟨f3, x3, t3⟩ := one_cell Try.underlying27 (hval 2 27 v3 rfl rfl) h3
  clear hA0 hval0
  simp only [List.append_nil] at hW'
  obtain ⟨X⟩ := handed deeds Try.underlying27 t1 t2 t3
  have hlt : ∀ x ∈ p1 ++ p2 ++ p3, x.block < W.heap.size := fun x hx => by simpa using hW'.lt x hx
  refine (walk X who).mono fun e W' ⟨he, bel⟩ => ?_
  subst he
  exact ⟨_, rfl, _, _, _, [], _, [], hW', trodAll_mk1 (shut_bool Try.underlying4 _),
    trodAll_mk4 (Below.trod laidOut (by kernel_rfl) (of_decide_eq_true (by kernel_rfl)) h1 bel fun x hx => hlt x (by simp [hx]))
      (Below.trod laidOut (by kernel_rfl) (of_decide_eq_true (by kernel_rfl)) h2 bel fun x hx => hlt x (by simp [hx])) (Below.trod laidOut (by kernel_rfl) (of_decide_eq_true (by kernel_rfl)) h3 bel fun x hx => hlt x (by simp [hx])) (shut_int Try.underlying3 wa),
    rfl, bel.frame _, fun h => by cases h⟩

theorem over : Rows.handsFreeRow.holds Try.pinned (OpenSpec.ofChange Rows.handsFreeSpec) :=
  OpenClaim.holds_of_wide 6 Try.f6 rfl rfl rfl rfl rfl rfl rfl ⟨rfl, rfl, rfl, rfl, rfl⟩ rfl rfl rfl rfl rfl (by kernel_rfl) Try.func6 (by kernel_rfl)
    (of_decide_eq_true (by kernel_rfl)) (by unfold Func.isWrapper; first | (rw [if_pos (by decide +kernel)]; kernel_rfl) | (rw [if_neg (by decide +kernel)]; exact ⟨rfl, rfl⟩))
    (fun os started H enc _ => lifted os started H enc)

theorem proved : Rows.HandsFreeSaid :=
  over
#print axioms proved
end Go.Proofs.Ytejokpfeepbfeaa.handsFree

/-
  Proved: the law HandsAlone returns true at every input, and writes nothing that was there before.
-/
import Derived.Test.YtejokpfeepbfeaaHaAlone
import Derived.Test.YtejokpfeepbfeaaHaG
import Derived.Test.YtejokpfeepbfeaaAmFit
import Derived.Test.YtejokpfeepbfeaaRows
import Derived.WalkKit
import Derived.ProofKit
import Derived.OpenShut
import Derived.ChangeOld
import Derived.Below
set_option linter.unusedSimpArgs false
set_option linter.unusedVariables false
set_option linter.unnecessarySimpa false
namespace Go.Proofs.Ytejokpfeepbfeaa.handsAlone
open Go.ChangeShapes Go.WideShapes Go.ChangeAt Go.RowKit Go.AM Go.Ha

theorem own : ownKnob Try.prog.godebug = none := by kernel_rfl
theorem laidOut : laidOutB Try.prog = true := by kernel_rfl

theorem walk {w : World} {v1 : Value} (X : Handed1 w v1) (algo kd k : Int) : Calls Try.prog 5 #[.int .i64 algo, v1, .agg #[.int .i64 kd, .int .i64 k]] w fun e w' => e = .returned (.bool true) ∧ Go.RowKit.Below w.heap.size w w' := by
  obtain ⟨h', e⟩ := alone_ok (algo := algo) (kd := kd) (k := k) X.A1 (by have := X.len; unfold maxLen at this; omega) (X.start.length + 30001) (by omega) (by omega)
  have ag : VR X.μ X.h.len (.agg #[.int .i64 kd, .int .i64 k]) (.agg #[.int .i64 kd, .int .i64 k]) := .agg _ _ rfl fun i hi => by
    match i, hi with
    | 0, _ => exact .int _ _
    | 1, _ => exact .int _ _
  exact law_true YtejokpfeepbfeaaAm.fits (args := [.int .i64 algo, X.a1, .agg #[.int .i64 kd, .int .i64 k]]) (args' := [.int .i64 algo, v1, .agg #[.int .i64 kd, .int .i64 k]]) X.ro X.hr (fun g hg => absurd hg (Nat.not_lt_zero g))
    (.cons (.of (.int .i64 algo)) (.cons (.of X.r1) (.cons (.of ag) (.nil _)))) (n := X.start.length + 30001 + 7) (by unfold run at e; rw [e]; rfl)

theorem one_cell {t e : TypeId} {w : World} {r : Reach} {b0 : Nat} {v : Value} {H : Type} {enc : TypeId × Value → H} {d : DataW H} {ps : List MemPlace} (ht : Try.prog.underlying t = some (.slice e)) (hval : Value.okWide Try.prog w r b0 t v)
    (hd : DataW.Trod enc Try.prog w 0 (fun _ => true) true t v d ps) : ∃ fuel x, DataW.trod enc Try.prog w 0 (fun _ => true) true fuel t [v] = some x := by
  obtain ⟨a, l, c, rfl⟩ := okWide_slice ht hval
  obtain ⟨fuel, h⟩ := hd
  exact ⟨fuel, _, h⟩

theorem a_deed {w : World} {r : Reach} {b0 : Nat} {v : Value} {H : Type} {enc : TypeId × Value → H} {d : DataW H} {ps : List MemPlace} (hval : Value.okWide Try.prog w r b0 23 v)
    (hd : DataW.Trod enc Try.prog w 0 (fun _ => true) true 23 v d ps) : ∃ kd k, v = .agg #[.int .i64 kd, .int .i64 k] := by
  obtain ⟨cs, rfl, _⟩ := okWide_struct Try.underlying23 hval
  obtain ⟨fuel, h⟩ := hd
  obtain ⟨kd, k, e⟩ := open_deed (f0 := _) (f1 := _) Try.underlying23 Try.underlying3 Try.underlying3 rfl rfl (by kernel_rfl) (by kernel_rfl) (by kernel_rfl) h
  have e : cs.toList = [.int .i64 kd, .int .i64 k] := e
  refine ⟨kd, k, ?_⟩
  cases cs with | mk l => simp only at e; rw [e]

set_option maxRecDepth 100000 in
theorem lifted (os : Os) (started : os.Started) (H : Type) (enc : TypeId × Value → H) :
    ReturnsInHanded {} Try.checked os 5 .any (Rows.handsAloneSpec.pre6 enc Try.prog Try.f5 Rows.handsAloneRow.domain false) (Rows.handsAloneSpec.post enc Try.prog Try.f5 false true false false) := by
  refine returnsInHanded_of_change (C := Try.checked) own started (by kernel_rfl) Try.func5
    (ChangeSpec.witness6 (enc := enc) (C := Try.checked) false ⟨#[], #[.int .i64 1, .slice none 0 0, .agg #[.int .i64 0, .int .i64 0]], []⟩ 8 (by kernel_rfl) (by kernel_rfl) (by kernel_rfl) (by kernel_rfl)) ?_
  intro W base args ds gs before hval0 hW hcnd _
  have hval : ∀ (j : Nat) t v, Try.f5.params[j]? = some t → args[j]? = some v → Value.okWide Try.prog W .any base t v := hval0
  have hW' := hW
  obtain ⟨p, q, hA0, hV, rfl, hfz, hnd⟩ := hW
  have hA : DataW.TrodAll enc Try.prog W 0 (fun _ => true) true Try.f5.params.toList args.toList ds p := hA0
  rw [Try.params5] at hA hval
  obtain ⟨v0, v1, v2, d0, d1, d2, p0, p1, p2, rfl, rfl, rfl, h0, h1, h2⟩ := trodAll_three hA
  obtain ⟨rfl, rfl⟩ := trodVars_none hV
  obtain ⟨algo, rfl, rfl, rfl, wa⟩ := open_int Try.underlying3 (hval 0 3 v0 rfl rfl) h0
  obtain ⟨f1, x1, t1⟩ := one_cell Try.underlying27 (hval 1 27 v1 rfl rfl) h1
  obtain ⟨kd, k, rfl⟩ := a_deed (hval 2 23 v2 rfl rfl) h2
  clear hA0 hval0
  simp only [List.append_nil] at hW'
  obtain ⟨X⟩ := handed1 Try.underlying27 Try.underlying3 (by kernel_rfl) t1
  have hlt : ∀ x ∈ [] ++ p1 ++ p2, x.block < W.heap.size := fun x hx => by simpa using hW'.lt x hx
  refine (walk X algo kd k).mono fun e W' ⟨he, bel⟩ => ?_
  subst he
  exact ⟨_, rfl, _, _, _, [], _, [], hW', trodAll_mk1 (shut_bool Try.underlying4 _),
    trodAll_mk3 (shut_int Try.underlying3 wa) (Below.trod laidOut (by kernel_rfl) (of_decide_eq_true (by kernel_rfl)) h1 bel fun x hx => hlt x (by simp [hx]))
      (Below.trod laidOut (by kernel_rfl) (of_decide_eq_true (by kernel_rfl)) h2 bel fun x hx => hlt x (by simp [hx])),
    rfl, bel.frame _, fun h => by cases h⟩

theorem over : Rows.handsAloneRow.holds Try.pinned (OpenSpec.ofChange Rows.handsAloneSpec) :=
  OpenClaim.holds_of_wide 5 Try.f5 rfl rfl rfl rfl rfl rfl rfl ⟨rfl, rfl, rfl, rfl, rfl⟩ rfl rfl rfl rfl rfl (by kernel_rfl) Try.func5 (by kernel_rfl)
    (of_decide_eq_true (by kernel_rfl)) (by unfold Func.isWrapper; first | (rw [if_pos (by decide +kernel)]; kernel_rfl) | (rw [if_neg (by decide +kernel)]; exact ⟨rfl, rfl⟩))
    (fun os started H enc _ => lifted os started H enc)

theorem proved : Rows.HandsAloneSaid :=
  over
#print axioms proved
end Go.Proofs.Ytejokpfeepbfeaa.handsAlone

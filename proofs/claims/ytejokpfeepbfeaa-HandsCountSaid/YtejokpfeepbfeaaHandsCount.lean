/-
  Proved: the law HandsCount returns true at every input, and writes nothing that was there before.
-/
import Derived.Test.YtejokpfeepbfeaaHaCountLaw
import Derived.Test.YtejokpfeepbfeaaHaF
import Derived.Test.YtejokpfeepbfeaaAmFit
import Derived.Test.YtejokpfeepbfeaaRows
import Derived.WalkKit
import Derived.ProofKit
import Derived.OpenShut
import Derived.ChangeOld
import Derived.Below
set_option linter.unusedSimpArgs false
set_option linter.unusedVariables false
set_option linter.unnecessarySimpa false
namespace Go.Proofs.Ytejokpfeepbfeaa.handsCount
open Go.ChangeShapes Go.WideShapes Go.ChangeAt Go.RowKit Go.AM Go.Ha

theorem own : ownKnob Try.prog.godebug = none := by kernel_rfl
theorem laidOut : laidOutB Try.prog = true := by kernel_rfl

theorem deeds : DeedT Try.prog 25 24 23 3 :=
  ⟨Try.underlying25, Try.underlying24, ⟨_, _, Try.underlying23, rfl, rfl, rfl, rfl⟩, Try.underlying3, by kernel_rfl, by kernel_rfl, by kernel_rfl⟩

theorem walk {w : World} {v1 v2 v3 : Value} (X : Handed w v1 v2 v3) (algo : Int) : Calls Try.prog 4 #[.int .i64 algo, v1, v2, v3] w fun e w' => e = .returned (.bool true) ∧ Go.RowKit.Below w.heap.size w w' := by
  obtain ⟨h', e⟩ := count_ok (algo := algo) X.A1 X.A2 X.A3 (by have := X.len; unfold maxLen at this; omega) (X.start.length + 30001) (by omega) (by omega)
  exact law_true YtejokpfeepbfeaaAm.fits (args := [.int .i64 algo, X.a1, X.a2, X.a3]) (args' := [.int .i64 algo, v1, v2, v3]) X.ro X.hr (fun g hg => absurd hg (Nat.not_lt_zero g))
    (.cons (.of (.int .i64 algo)) (.cons (.of X.r1) (.cons (.of X.r2) (.cons (.of X.r3) (.nil _))))) (n := X.start.length + 30001 + 7) (by unfold run at e; rw [e]; rfl)

theorem one_cell {t e : TypeId} {w : World} {r : Reach} {b0 : Nat} {v : Value} {H : Type} {enc : TypeId × Value → H} {d : DataW H} {ps : List MemPlace} (ht : Try.prog.underlying t = some (.slice e)) (hval : Value.okWide Try.prog w r b0 t v)
    (hd : DataW.Trod enc Try.prog w 0 (fun _ => true) true t v d ps) : ∃ fuel x, DataW.trod enc Try.prog w 0 (fun _ => true) true fuel t [v] = some x := by
  obtain ⟨a, l, c, rfl⟩ := okWide_slice ht hval
  obtain ⟨fuel, h⟩ := hd
  exact ⟨fuel, _, h⟩

set_option maxRecDepth 100000 in
theorem lifted (os : Os) (started : os.Started) (H : Type) (enc : TypeId × Value → H) :
    ReturnsInHanded {} Try.checked os 4 .any (Rows.handsCountSpec.pre6 enc Try.prog Try.f4 Rows.handsCountRow.domain false) (Rows.handsCountSpec.post enc Try.prog Try.f4 false true false false) := by
  refine returnsInHanded_of_change (C := Try.checked) own started (by kernel_rfl) Try.func4
    (ChangeSpec.witness6 (enc := enc) (C := Try.checked) false ⟨#[], #[.int .i64 1, .slice none 0 0, .slice none 0 0, .slice none 0 0], []⟩ 8 (by kernel_rfl) (by kernel_rfl) (by kernel_rfl) (by kernel_rfl)) ?_
  intro W base args ds gs before hval0 hW hcnd _
  have hval : ∀ (j : Nat) t v, Try.f4.params[j]? = some t → args[j]? = some v → Value.okWide Try.prog W .any base t v := hval0
  have hW' := hW
  obtain ⟨p, q, hA0, hV, rfl, hfz, hnd⟩ := hW
  have hA : DataW.TrodAll enc Try.prog W 0 (fun _ => true) true Try.f4.params.toList args.toList ds p := hA0
  rw [Try.params4] at hA hval
  obtain ⟨v0, v1, v2, v3, d0, d1, d2, d3, p0, p1, p2, p3, rfl, rfl, rfl, h0, h1, h2, h3⟩ := trodAll_four hA
  obtain ⟨rfl, rfl⟩ := trodVars_none hV
  obtain ⟨algo, rfl, rfl, rfl, wa⟩ := open_int Try.underlying3 (hval 0 3 v0 rfl rfl) h0
  obtain ⟨f1, x1, t1⟩ := one_cell Try.underlying27 (hval 1 27 v1 rfl rfl) h1
  obtain ⟨f2, x2, t2⟩ := one_cell Try.underlying25 (hval 2 25 v2 rfl rfl) h2
  obtain ⟨f3, x3, t3⟩ := one_cell Try.underlying27 (hval 3 27 v3 rfl rfl) h3
  clear hA0 hval0
  simp only [List.append_nil] at hW'
  obtain ⟨X⟩ := handed deeds Try.underlying27 t1 t2 t3
  have hlt : ∀ x ∈ [] ++ p1 ++ p2 ++ p3, x.block < W.heap.size := fun x hx => by simpa using hW'.lt x hx
  refine (walk X algo).mono fun e W' ⟨he, bel⟩ => ?_
  subst he
  exact ⟨_, rfl, _, _, _, [], _, [], hW', trodAll_mk1 (shut_bool Try.underlying4 _),
    trodAll_mk4 (shut_int Try.underlying3 wa) (Below.trod laidOut (by kernel_rfl) (of_decide_eq_true (by kernel_rfl)) h1 bel fun x hx => hlt x (by simp [hx]))
      (Below.trod laidOut (by kernel_rfl) (of_decide_eq_true (by kernel_rfl)) h2 bel fun x hx => hlt x (by simp [hx])) (Below.trod laidOut (by kernel_rfl) (of_decide_eq_true (by kernel_rfl)) h3 bel fun x hx => hlt x (by simp [hx])),
    rfl, bel.frame _, fun h => by cases h⟩

theorem over : Rows.handsCountRow.holds Try.pinned (OpenSpec.ofChange Rows.handsCountSpec) :=
  OpenClaim.holds_of_wide 4 Try.f4 rfl rfl rfl rfl rfl rfl rfl ⟨rfl, rfl, rfl, rfl, rfl⟩ rfl rfl rfl rfl rfl (by kernel_rfl) Try.func4 (by kernel_rfl)
    (of_decide_eq_true (by kernel_rfl)) (by unfold Func.isWrapper; first | (rw [if_pos (by decide +kernel)]; kernel_rfl) | (rw [if_neg (by decide +kernel)]; exact ⟨rfl, rfl⟩))
    (fun os started H enc _ => lifted os started H enc)

theorem proved : Rows.HandsCountSaid :=
  over
#print axioms proved
end Go.Proofs.Ytejokpfeepbfeaa.handsCount

/-
  'nestboxlaw18.RoomsVoid' is true for every input. The frame of the proof (the row), written by this prover's program law.py; the walk is 'walkRoomsVoid'.
-/
import Derived.Test.YtomllmlieeaaiaaGreatP9
import Derived.ProofKit
import Derived.OpenShut
import Derived.ShutString
import Derived.ChangeOld
import Derived.Below
namespace Go.Proofs.YtomllmlieeaaiaaGreat.roomsVoid
open Go.ChangeShapes Go.WideShapes Go.ChangeAt Go.RowKit
open Go.ChangeMaps (open_string shut_string)
set_option linter.unusedVariables false

theorem own : ownKnob Tryz.prog.godebug = none := by kernel_rfl
theorem laidOut : laidOutB Tryz.prog = true := by kernel_rfl

set_option maxRecDepth 100000 in
theorem lifted (os : Os) (started : os.Started) (H : Type) (enc : TypeId × Value → H) :
    ReturnsInHanded {} Tryz.checked os 7 .any (Rows.roomsVoidSpec.pre6 enc Tryz.prog Tryz.f7 Rows.roomsVoidRow.domain false) (Rows.roomsVoidSpec.post enc Tryz.prog Tryz.f7 false true false false) := by
  refine returnsInHanded_of_change (C := Tryz.checked) own started (by kernel_rfl) Tryz.func7
    (ChangeSpec.witness6 (enc := enc) (C := Tryz.checked) false ⟨#[], #[.int .i64 0, .int .u64 0], []⟩ 12 (by kernel_rfl) (by kernel_rfl) (by kernel_rfl) (by kernel_rfl)) ?_
  intro W base args ds gs before hval0 hW hcnd _
  have hval : ∀ (j : Nat) t v, Tryz.f7.params[j]? = some t → args[j]? = some v → Value.okWide Tryz.prog W .any base t v := hval0
  have hW' := hW
  obtain ⟨p, q, hA0, hV, rfl, hfz, hnd⟩ := hW
  have hA : DataW.TrodAll enc Tryz.prog W 0 (fun _ => true) true Tryz.f7.params.toList args.toList ds p := hA0
  rw [Tryz.params7] at hA hval
  obtain ⟨v0, vs0, d0, ds0, p0, q0, hargs, rfl, rfl, h0, r0⟩ := trodAll_cons hA
  obtain ⟨v1, vs1, d1, ds1, p1, q1, rfl, rfl, rfl, h1, r1⟩ := trodAll_cons r0
  obtain ⟨rfl, rfl, rfl⟩ := trodAll_nil r1
  obtain rfl : args = #[v0, v1] := by cases args; simp_all
  obtain ⟨rfl, rfl⟩ := trodVars_none hV
  obtain ⟨a0, rfl, rfl, rfl, w0⟩ := open_int Tryz.underlying3 (hval 0 3 v0 rfl rfl) h0
  obtain ⟨a1, rfl, rfl, rfl, w1⟩ := open_int Tryz.underlying38 (hval 1 38 v1 rfl rfl) h1
  clear hA0 hval0
  refine (walkRoomsVoid (w := W) a0 w0 a1 w1).mono fun e W' ⟨he, bel⟩ => ?_
  subst he
  exact ⟨_, rfl, _, _, _, [], _, [], hW', trodAll_mk1 (shut_bool Tryz.underlying4 _), (trodAll_cons_mk (shut_int Tryz.underlying3 w0) (trodAll_cons_mk (shut_int Tryz.underlying38 w1) trodAll_mk0)), rfl, bel.frame _, fun h => by cases h⟩

theorem fA : mapsRowed Tryz.prog = true := by kernel_rfl
theorem fB : (Rows.roomsVoidRow.inPlace == Tryz.prog.inPlace 7) = true := by kernel_rfl
theorem fC : (Rows.roomsVoidRow.unfollowed == Tryz.prog.unfollowed 7) = true := by kernel_rfl
theorem fD : (Rows.roomsVoidRow.recurses == Tryz.prog.recurses 7) = true := by kernel_rfl
theorem fE : (Rows.roomsVoidRow.named == Tryz.prog.varsNamed 7) = true := by kernel_rfl
theorem fF : (Rows.roomsVoidRow.plainKeys == Tryz.prog.plainKeys) = true := by kernel_rfl
theorem closed0 : joinedFacts Tryz.prog 7 Tryz.f7 Rows.roomsVoidSpec Rows.roomsVoidRow = true := by
  unfold joinedFacts
  rw [laidOut, fA, fB, fC, fD, fE, fF]
  kernel_rfl
theorem over : Rows.roomsVoidRow.holds Tryz.pinned (OpenSpec.ofChange Rows.roomsVoidSpec) :=
  OpenClaim.holds_of_wide 7 Tryz.f7 rfl rfl rfl rfl rfl rfl rfl ⟨rfl, rfl, rfl, rfl, rfl⟩ rfl rfl rfl rfl rfl (by kernel_rfl) Tryz.func7 closed0
    (of_decide_eq_true (by kernel_rfl)) (by unfold Func.isWrapper; first | (rw [if_pos (by decide +kernel)]; kernel_rfl) | (rw [if_neg (by decide +kernel)]; exact ⟨rfl, rfl⟩))
    (fun os started H enc _ => lifted os started H enc)

theorem proved : Rows.RoomsVoidSaid := over
#print axioms proved
end Go.Proofs.YtomllmlieeaaiaaGreat.roomsVoid

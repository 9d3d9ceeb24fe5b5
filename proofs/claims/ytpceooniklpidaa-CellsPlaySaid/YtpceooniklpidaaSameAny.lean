/-
  An access of both cells, whichever; both new.
-/
import Derived.Test.YtpceooniklpidaaSame
import Derived.Test.YtpceooniklpidaaRefNew
namespace Go.Proofs.Ytpceooniklpidaa
open Go.RowKit Go.Maps
set_option linter.unusedVariables false

/-- What an act does to both. -/
theorem same_any {w0 w : World} {cb r : Nat} {s : CS} {x : RS} (h : Both w0 w cb r s x) (m : Nat) (hf : Far s x m) (hm : m ≤ 90000) (k a v i : Int) (hk0 : 0 ≤ k ∧ k < 256) (ha : (Lit.int .u64 a).wf = true) (hvw : (Lit.int .u64 v).wf = true) (hiw : (Lit.int .u64 i).wf = true) (w1 : World) (hw : w1 = w) :
    Calls Try.prog 51 #[.pointer (some ⟨cb, 0, none⟩), .pointer (some ⟨r, 0, none⟩), .agg #[.int .u8 k, .int .u64 a, .int .u64 v, .int .u64 i]] w1 fun e w' => e = .returned (.bool true) ∧ ∃ s' x', Both w0 w' cb r s' x' ∧ Far s' x' (m + 1) ∧ s'.cnt = s.cnt + 1 := by
  subst hw
  have hA := h.alike
  have : k % 5 = 0 ∨ k % 5 = 1 ∨ k % 5 = 2 ∨ k % 5 = 3 ∨ k % 5 = 4 := by omega
  rcases this with hk | hk | hk | hk | hk
  · exact (same_load h m hf hm k a v i hk hk0 ha hvw hiw).mono fun e w' ⟨he, hb⟩ => ⟨he, _, _, hb, hf.acc hA _ _ _, rfl⟩
  · exact (same_store h m hf hm k a v i hk hk0 ha hvw hiw).mono fun e w' ⟨he, hb⟩ => ⟨he, _, _, hb, hf.acc hA _ _ _, rfl⟩
  · exact (same_cas h m hf hm k a v i hk hk0 ha hvw hiw).mono fun e w' ⟨he, hb⟩ => ⟨he, _, _, hb, hf.acc hA _ _ _, rfl⟩
  · exact (same_swap h m hf hm k a v i hk hk0 ha hvw hiw).mono fun e w' ⟨he, hb⟩ => ⟨he, _, _, hb, hf.acc hA _ _ _, rfl⟩
  · exact (same_add h m hf hm k a v i hk hk0 ha hvw hiw).mono fun e w' ⟨he, hb⟩ => ⟨he, _, _, hb, hf.acc hA _ _ _, rfl⟩

theorem alike_zero : Alike CS.zero RS.zero := ⟨rfl, List.Pairwise.nil, (fun p hp => by cases hp), rfl, rfl, rfl, rfl, rfl⟩
theorem far_zero : Far CS.zero RS.zero 1 := ⟨by decide, by decide, by decide⟩
theorem both_new {w0 w w8 : World} {cb : Nat} (hO : Own w0 w cb CS.zero) (hr : RCells w8 w.heap.size w.heap.size (.slice none 0 0) RS.zero) (hle : w0.heap.size ≤ w.heap.size) (hb : Below w.heap.size w w8) : Both w0 w8 cb w.heap.size CS.zero RS.zero :=
  ⟨hO.keep hb, ⟨_, hr.hdr, hle, World.ownsRow_nil _ _ _ _, fun p hp => by cases hp⟩, alike_zero⟩

end Go.Proofs.Ytpceooniklpidaa

/- For all sequences of at most 70 calls, each name that was used successfully resolves to exactly one list that is alive, or to the remote address of one that has moved, and is one of the names of exactly this list; no list has other names; and nothing else resolves. For all inputs, with no condition. -/
import Derived.Test.YtfooakkfoemdkaaC
import Derived.Test.YtfooakkfoemdkaaRows
import Derived.WalkKit
import Derived.ProofKit
import Derived.OpenShut
import Derived.ChangeOld
import Derived.Below
import Derived.SizedLaws
import Derived.Carry
import Derived.ChangeMaps5
/- LineageNames: the statement. -/
namespace Go.Proofs.Ytfooakkfoemdkaa.lineageNames
open Go.ChangeMaps Go.ChangeShapes Go.WideShapes Go.ChangeAt Go.RowKit Go.Fw Go.Proofs.Ytfooakkfoemdkaa
set_option linter.unusedVariables false
theorem own : ownKnob Try.prog.godebug = none := by kernel_rfl
theorem laidOut : laidOutB Try.prog = true := by kernel_rfl
theorem walk (W : World) (v0 : Value) (l0 : List Deed) (hd0 : RowsR (fun b => b < W.heap.size) W.heap v0 4 (l0.map deedRow)) (hl0 : l0.length ≤ maxLen) (a1 : ByteArray) (w1 : a1.size ≤ maxLen) :
    Calls Try.prog 3 #[v0, .string a1] W fun e W' => e = .returned (.bool true) ∧ Below W.heap.size W W' :=
  fn_below fun hs => names_law hs (fun h' hs => frozen_rows (hs.at 0) hd0) (by unfold maxLen at hl0; omega) fun h' hs => ⟨rfl, hs⟩
set_option maxRecDepth 100000 in
theorem lifted (os : Os) (started : os.Started) (H : Type) (enc : TypeId × Value → H) :
    ReturnsInHanded {} Try.checked os 3 .any (Rows.lineageNamesSpec.pre6 enc Try.prog Try.f3 Rows.lineageNamesRow.domain false) (Rows.lineageNamesSpec.post enc Try.prog Try.f3 false true false false) := by
  refine returnsInHanded_of_change (C := Try.checked) own started (by kernel_rfl) Try.func3
    (ChangeSpec.witness6 (enc := enc) (C := Try.checked) false ⟨#[], #[.slice none 0 0, .string ⟨#[]⟩], []⟩ 8 (by kernel_rfl) (by kernel_rfl) (by kernel_rfl) (by kernel_rfl)) ?_
  intro W base args ds gs before hval0 hW hcnd _
  have hval : ∀ (j : Nat) t v, Try.f3.params[j]? = some t → args[j]? = some v → Value.okWide Try.prog W .any base t v := hval0
  have hW' := hW
  obtain ⟨p, q, hA0, hV, rfl, hfz, hnd⟩ := hW
  have hA : DataW.TrodAll enc Try.prog W 0 (fun _ => true) true Try.f3.params.toList args.toList ds p := hA0
  rw [Try.params3] at hA hval
  obtain ⟨v0, vs0, d0, ds0, p0, q0, hargs, rfl, rfl, h0, r0⟩ := trodAll_cons hA
  obtain ⟨v1, vs1, d1, ds1, p1, q1, rfl, rfl, rfl, h1, r1⟩ := trodAll_cons r0
  obtain ⟨rfl, rfl, rfl⟩ := trodAll_nil r1
  obtain rfl : args = #[v0, v1] := by cases args; simp_all
  obtain ⟨rfl, rfl⟩ := trodVars_none hV
  obtain ⟨ad0, len0, cap0, rfl⟩ := okWide_slice ru22 (hval 0 22 v0 rfl rfl)
  have k0 := h0
  have lt0 : ∀ x ∈ p0, x.block < W.heap.size := by obtain ⟨m, hm⟩ := k0; exact DataW.trod_lt m _ _ _ hm
  obtain ⟨fuel0, g0⟩ := h0
  obtain ⟨l0, v0', e0, hd0, hl0⟩ := rd_deeds _ _ _ _ _ _ g0
  simp only [Value.cells, List.cons.injEq, and_true] at e0
  subst e0
  obtain ⟨a1, rfl, rfl, rfl, w1⟩ := open_string ru9 (hval 1 9 v1 rfl rfl) h1
  clear hA0 hval0
  refine (walk W _ l0 hd0 hl0 a1 w1).mono fun e W' ⟨he, bel⟩ => ?_
  subst he
  exact ⟨_, rfl, _, _, _, [], _, [], hW', trodAll_mk1 (shut_bool ru4 _), (trodAll_cons_mk (Below.trod laidOut (by kernel_rfl) (of_decide_eq_true (by kernel_rfl)) k0 bel lt0) (trodAll_cons_mk (shut_string ru9 w1) trodAll_mk0)), rfl, bel.frame _, fun h => by cases h⟩
theorem over : Rows.lineageNamesRow.holds Try.pinned (OpenSpec.ofChange Rows.lineageNamesSpec) :=
  OpenClaim.holds_of_wide 3 Try.f3 rfl rfl rfl rfl rfl rfl rfl ⟨rfl, rfl, rfl, rfl, rfl⟩ rfl rfl rfl rfl rfl (by kernel_rfl) Try.func3 (by kernel_rfl)
    (of_decide_eq_true (by kernel_rfl)) (by unfold Func.isWrapper; first | (rw [if_pos (by decide +kernel)]; kernel_rfl) | (rw [if_neg (by decide +kernel)]; exact ⟨rfl, rfl⟩))
    (fun os started H enc _ => lifted os started H enc)
theorem proved : Rows.LineageNamesSaid := over
end Go.Proofs.Ytfooakkfoemdkaa.lineageNames
namespace Go.Proofs.Ytfooakkfoemdkaa
/-- The statement LineageNames. -/
theorem lineageNames_holds : Rows.LineageNamesSaid := lineageNames.proved
#print axioms lineageNames_holds
end Go.Proofs.Ytfooakkfoemdkaa

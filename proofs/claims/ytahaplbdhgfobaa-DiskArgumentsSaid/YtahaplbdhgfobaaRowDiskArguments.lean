/- The row of the law DiskArguments. Own work, printed by a program of this work; no condition. -/
import Derived.Test.YtahaplbdhgfobaaRows
import Derived.Test.YtahaplbdhgfobaaDiskArgumentsM1
import Derived.Test.YtahaplbdhgfobaaDiskArgumentsM2
import Derived.Test.YtahaplbdhgfobaaDiskArgumentsM3
import Derived.Test.YtahaplbdhgfobaaDiskArgumentsM4
namespace Go.Proofs.Ytahaplbdhgfobaa.diskArguments
open Go.ChangeShapes Go.WideShapes Go.ChangeAt Go.RowKit Go.Proofs.Ytahaplbdhgfobaa.Eng
open Go.ChangeMaps (open_string shut_string)
set_option linter.unusedVariables false
theorem own : ownKnob Try.prog.godebug = none := by kernel_rfl
theorem laidOut : laidOutB Try.prog = true := by kernel_rfl
set_option maxRecDepth 100000 in
theorem lifted (os : Os) (started : os.Started) (H : Type) (enc : TypeId × Value → H) :
    ReturnsInHanded {} Try.checked os 4 .any (Rows.diskArgumentsSpec.pre6 enc Try.prog Try.f4 Rows.diskArgumentsRow.domain false) (Rows.diskArgumentsSpec.post enc Try.prog Try.f4 false true false false) := by
  refine returnsInHanded_of_change_sized (C := Try.checked) own started (by kernel_rfl) Try.func4
    (ChangeSpec.witness6 (enc := enc) (C := Try.checked) false ⟨#[], #[.int .i64 0, .int .i64 0, .int .i64 0, .slice none 0 0], []⟩ 8 (by kernel_rfl) (by kernel_rfl) (by kernel_rfl) (by kernel_rfl)) ?_
  intro W base args ds gs before hval0 hW hcnd hsz0 _
  have hsz : (DataW.weightsEach Try.prog (Try.f4.params.toList ++ Rows.diskArgumentsSpec.plain.varTypes Try.prog) (ds ++ gs)).all (· ≤ reachBytes) = true := hsz0
  have hval : ∀ (j : Nat) t v, Try.f4.params[j]? = some t → args[j]? = some v → Value.okWide Try.prog W .any base t v := hval0
  have hW' := hW
  obtain ⟨p, q, hA0, hV, rfl, hfz, hnd⟩ := hW
  have hA : DataW.TrodAll enc Try.prog W 0 (fun _ => true) true Try.f4.params.toList args.toList ds p := hA0
  rw [Try.params4] at hA hval hsz
  obtain ⟨v0, vs0, d0, ds0, p0, q0, hargs, rfl, rfl, h0, r0⟩ := trodAll_cons hA
  obtain ⟨v1, vs1, d1, ds1, p1, q1, rfl, rfl, rfl, h1, r1⟩ := trodAll_cons r0
  obtain ⟨v2, vs2, d2, ds2, p2, q2, rfl, rfl, rfl, h2, r2⟩ := trodAll_cons r1
  obtain ⟨v3, vs3, d3, ds3, p3, q3, rfl, rfl, rfl, h3, r3⟩ := trodAll_cons r2
  obtain ⟨rfl, rfl, rfl⟩ := trodAll_nil r3
  obtain rfl : args = #[v0, v1, v2, v3] := by cases args; simp_all
  obtain ⟨rfl, rfl⟩ := trodVars_none hV
  obtain ⟨a0, rfl, rfl, rfl, w0⟩ := open_int Try.underlying3 (hval 0 3 _ rfl rfl) h0
  obtain ⟨a1, rfl, rfl, rfl, w1⟩ := open_int Try.underlying3 (hval 1 3 _ rfl rfl) h1
  obtain ⟨a2, rfl, rfl, rfl, w2⟩ := open_int Try.underlying3 (hval 2 3 _ rfl rfl) h2
  obtain ⟨a3, len3, cap3, rfl⟩ := okWide_slice Try.underlying27 (hval 3 27 _ rfl rfl)
  have lt3 : ∀ x ∈ p3, x.block < W.heap.size := by obtain ⟨m, hm⟩ := h3; exact DataW.trod_lt m _ _ _ hm
  have y3 : len3 * 1 ≤ 140737488351232 := sized_in hsz (j := 3) (t := 27) rfl rfl Try.underlying27 Try.underlying5 (by kernel_rfl) (by kernel_rfl) h3
  obtain ⟨z3, ok3, rfl, w3⟩ := inp_of Try.underlying27 Try.underlying5 (by kernel_rfl) (hval 3 27 _ rfl rfl) h3
  clear hA0 hval0 hsz0 hsz
  have hok : ∀ n ∈ ([⟨.u8, a3, z3.length, cap3, z3⟩] : List Inp), InpOk W n := by
    intro n hn
    simp only [List.mem_cons, List.not_mem_nil, or_false] at hn
    subst hn
    exact ok3
  refine (law_calls (P := Try.prog) (Checked.mixed Try.checked) (ins := [⟨.u8, a3, z3.length, cap3, z3⟩]) hok (args := [.int .i64 a0, .int .i64 a1, .int .i64 a2, (⟨.u8, a3, z3.length, cap3, z3⟩ : Inp).val 0]) (args' := [.int .i64 a0, .int .i64 a1, .int .i64 a2, .slice a3 z3.length cap3]) (diskArguments_ok _ a0 a1 a2 z3 (a3.map fun _ => ⟨0, 0, none⟩) cap3 (bytes_of (fun n hn => wf8 (w3 n hn))) (by unfold Short; omega) (rowy_in hok 0 rfl) (nil_in hok 0 rfl)) ⟨.atom rfl, .atom rfl, .atom rfl, val_rel hok 0 rfl, trivial⟩).mono fun e W' ⟨he, bel⟩ => ?_
  subst he
  exact ⟨_, rfl, _, _, _, [], _, [], hW', trodAll_mk1 (shut_bool Try.underlying4 _), (trodAll_cons_mk (shut_int Try.underlying3 w0) (trodAll_cons_mk (shut_int Try.underlying3 w1) (trodAll_cons_mk (shut_int Try.underlying3 w2) (trodAll_cons_mk (Below.trod laidOut (by kernel_rfl) (of_decide_eq_true (by kernel_rfl)) h3 bel lt3) trodAll_mk0)))), rfl, bel.frame _, fun h => by cases h⟩
theorem over : Rows.diskArgumentsRow.holds Try.pinned (OpenSpec.ofChange Rows.diskArgumentsSpec) :=
  OpenClaim.holds_of_wide 4 Try.f4 rfl rfl rfl rfl rfl rfl rfl ⟨rfl, rfl, rfl, rfl, rfl⟩ rfl rfl rfl rfl rfl (by kernel_rfl) Try.func4 (by kernel_rfl)
    (of_decide_eq_true (by kernel_rfl)) (by unfold Func.isWrapper; first | (rw [if_pos (by decide +kernel)]; kernel_rfl) | (rw [if_neg (by decide +kernel)]; exact ⟨rfl, rfl⟩))
    (fun os started H enc _ => lifted os started H enc)
theorem proved : Rows.DiskArgumentsSaid := over
end Go.Proofs.Ytahaplbdhgfobaa.diskArguments
namespace Go.Proofs.Ytahaplbdhgfobaa
/-- The row, under a short name, for the claim. -/
theorem diskArguments_holds : Rows.DiskArgumentsSaid := diskArguments.proved
#print axioms diskArguments_holds
end Go.Proofs.Ytahaplbdhgfobaa

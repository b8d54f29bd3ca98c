/- The row of the law DiskRots. Own work, printed by a program of this work; no condition. -/
import Derived.Test.YtahaplbdhgfobaaRows
import Derived.Test.YtahaplbdhgfobaaDiskRotsM1
import Derived.Test.YtahaplbdhgfobaaDiskRotsM2
import Derived.Test.YtahaplbdhgfobaaDiskRotsM3
import Derived.Test.YtahaplbdhgfobaaDiskRotsM4
import Derived.Test.YtahaplbdhgfobaaDiskRotsM5
namespace Go.Proofs.Ytahaplbdhgfobaa.diskRots
open Go.ChangeShapes Go.WideShapes Go.ChangeAt Go.RowKit Go.Proofs.Ytahaplbdhgfobaa.Eng
open Go.ChangeMaps (open_string shut_string)
set_option linter.unusedVariables false
theorem own : ownKnob Try.prog.godebug = none := by kernel_rfl
theorem laidOut : laidOutB Try.prog = true := by kernel_rfl
set_option maxRecDepth 100000 in
theorem lifted (os : Os) (started : os.Started) (H : Type) (enc : TypeId × Value → H) :
    ReturnsInHanded {} Try.checked os 10 .any (Rows.diskRotsSpec.pre6 enc Try.prog Try.f10 Rows.diskRotsRow.domain false) (Rows.diskRotsSpec.post enc Try.prog Try.f10 false true false false) := by
  refine returnsInHanded_of_change_sized (C := Try.checked) own started (by kernel_rfl) Try.func10
    (ChangeSpec.witness6 (enc := enc) (C := Try.checked) false ⟨#[], #[.int .i64 0, .slice none 0 0, .int .i64 0, .int .i64 0], []⟩ 8 (by kernel_rfl) (by kernel_rfl) (by kernel_rfl) (by kernel_rfl)) ?_
  intro W base args ds gs before hval0 hW hcnd hsz0 _
  have hsz : (DataW.weightsEach Try.prog (Try.f10.params.toList ++ Rows.diskRotsSpec.plain.varTypes Try.prog) (ds ++ gs)).all (· ≤ reachBytes) = true := hsz0
  have hval : ∀ (j : Nat) t v, Try.f10.params[j]? = some t → args[j]? = some v → Value.okWide Try.prog W .any base t v := hval0
  have hW' := hW
  obtain ⟨p, q, hA0, hV, rfl, hfz, hnd⟩ := hW
  have hA : DataW.TrodAll enc Try.prog W 0 (fun _ => true) true Try.f10.params.toList args.toList ds p := hA0
  rw [Try.params10] at hA hval hsz
  obtain ⟨v0, vs0, d0, ds0, p0, q0, hargs, rfl, rfl, h0, r0⟩ := trodAll_cons hA
  obtain ⟨v1, vs1, d1, ds1, p1, q1, rfl, rfl, rfl, h1, r1⟩ := trodAll_cons r0
  obtain ⟨v2, vs2, d2, ds2, p2, q2, rfl, rfl, rfl, h2, r2⟩ := trodAll_cons r1
  obtain ⟨v3, vs3, d3, ds3, p3, q3, rfl, rfl, rfl, h3, r3⟩ := trodAll_cons r2
  obtain ⟨rfl, rfl, rfl⟩ := trodAll_nil r3
  obtain rfl : args = #[v0, v1, v2, v3] := by cases args; simp_all
  obtain ⟨rfl, rfl⟩ := trodVars_none hV
  obtain ⟨a0, rfl, rfl, rfl, w0⟩ := open_int Try.underlying3 (hval 0 3 _ rfl rfl) h0
  obtain ⟨a1, len1, cap1, rfl⟩ := okWide_slice Try.underlying33 (hval 1 33 _ rfl rfl)
  have lt1 : ∀ x ∈ p1, x.block < W.heap.size := by obtain ⟨m, hm⟩ := h1; exact DataW.trod_lt m _ _ _ hm
  have y1 : len1 * 8 ≤ 140737488351232 := sized_in hsz (j := 1) (t := 33) rfl rfl Try.underlying33 Try.underlying3 (by kernel_rfl) (by kernel_rfl) h1
  obtain ⟨z1, ok1, rfl, w1⟩ := inp_of Try.underlying33 Try.underlying3 (by kernel_rfl) (hval 1 33 _ rfl rfl) h1
  obtain ⟨a2, rfl, rfl, rfl, w2⟩ := open_int Try.underlying3 (hval 2 3 _ rfl rfl) h2
  obtain ⟨a3, rfl, rfl, rfl, w3⟩ := open_int Try.underlying3 (hval 3 3 _ rfl rfl) h3
  clear hA0 hval0 hsz0 hsz
  have hok : ∀ n ∈ ([⟨.i64, a1, z1.length, cap1, z1⟩] : List Inp), InpOk W n := by
    intro n hn
    simp only [List.mem_cons, List.not_mem_nil, or_false] at hn
    subst hn
    exact ok1
  refine (law_calls (P := Try.prog) (Checked.mixed Try.checked) (ins := [⟨.i64, a1, z1.length, cap1, z1⟩]) hok (args := [.int .i64 a0, (⟨.i64, a1, z1.length, cap1, z1⟩ : Inp).val 0, .int .i64 a2, .int .i64 a3]) (args' := [.int .i64 a0, .slice a1 z1.length cap1, .int .i64 a2, .int .i64 a3]) (diskRots_ok _ a0 a2 a3 z1 (a1.map fun _ => ⟨0, 0, none⟩) cap1 (wf64 w0) (wf64 w2) (wf64 w3) (by unfold Short; omega) (fun n hn => wf64 (w1 n hn)) (src_in hok 0 rfl)) ⟨.atom rfl, val_rel hok 0 rfl, .atom rfl, .atom rfl, trivial⟩).mono fun e W' ⟨he, bel⟩ => ?_
  subst he
  exact ⟨_, rfl, _, _, _, [], _, [], hW', trodAll_mk1 (shut_bool Try.underlying4 _), (trodAll_cons_mk (shut_int Try.underlying3 w0) (trodAll_cons_mk (Below.trod laidOut (by kernel_rfl) (of_decide_eq_true (by kernel_rfl)) h1 bel lt1) (trodAll_cons_mk (shut_int Try.underlying3 w2) (trodAll_cons_mk (shut_int Try.underlying3 w3) trodAll_mk0)))), rfl, bel.frame _, fun h => by cases h⟩
theorem over : Rows.diskRotsRow.holds Try.pinned (OpenSpec.ofChange Rows.diskRotsSpec) :=
  OpenClaim.holds_of_wide 10 Try.f10 rfl rfl rfl rfl rfl rfl rfl ⟨rfl, rfl, rfl, rfl, rfl⟩ rfl rfl rfl rfl rfl (by kernel_rfl) Try.func10 (by kernel_rfl)
    (of_decide_eq_true (by kernel_rfl)) (by unfold Func.isWrapper; first | (rw [if_pos (by decide +kernel)]; kernel_rfl) | (rw [if_neg (by decide +kernel)]; exact ⟨rfl, rfl⟩))
    (fun os started H enc _ => lifted os started H enc)
theorem proved : Rows.DiskRotsSaid := over
end Go.Proofs.Ytahaplbdhgfobaa.diskRots
namespace Go.Proofs.Ytahaplbdhgfobaa
/-- The row, under a short name, for the claim. -/
theorem diskRots_holds : Rows.DiskRotsSaid := diskRots.proved
#print axioms diskRots_holds
end Go.Proofs.Ytahaplbdhgfobaa

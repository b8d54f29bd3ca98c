/- The row of the law DiskHash. Own work, printed by a program of this work; no condition. -/
import Derived.Test.YtahaplbdhgfobaaRows
import Derived.Test.YtahaplbdhgfobaaDiskHashM1
import Derived.Test.YtahaplbdhgfobaaDiskHashM2
import Derived.Test.YtahaplbdhgfobaaDiskHashM3
import Derived.Test.YtahaplbdhgfobaaDiskHashM4
namespace Go.Proofs.Ytahaplbdhgfobaa.diskHash
open Go.ChangeShapes Go.WideShapes Go.ChangeAt Go.RowKit Go.Proofs.Ytahaplbdhgfobaa.Eng
open Go.ChangeMaps (open_string shut_string)
set_option linter.unusedVariables false
theorem own : ownKnob Try.prog.godebug = none := by kernel_rfl
theorem laidOut : laidOutB Try.prog = true := by kernel_rfl
set_option maxRecDepth 100000 in
theorem lifted (os : Os) (started : os.Started) (H : Type) (enc : TypeId × Value → H) :
    ReturnsInHanded {} Try.checked os 9 .any (Rows.diskHashSpec.pre6 enc Try.prog Try.f9 Rows.diskHashRow.domain false) (Rows.diskHashSpec.post enc Try.prog Try.f9 false true false false) := by
  refine returnsInHanded_of_change_sized (C := Try.checked) own started (by kernel_rfl) Try.func9
    (ChangeSpec.witness6 (enc := enc) (C := Try.checked) false ⟨#[], #[.slice none 0 0, .int .i64 0, .bool false], []⟩ 8 (by kernel_rfl) (by kernel_rfl) (by kernel_rfl) (by kernel_rfl)) ?_
  intro W base args ds gs before hval0 hW hcnd hsz0 _
  have hsz : (DataW.weightsEach Try.prog (Try.f9.params.toList ++ Rows.diskHashSpec.plain.varTypes Try.prog) (ds ++ gs)).all (· ≤ reachBytes) = true := hsz0
  have hval : ∀ (j : Nat) t v, Try.f9.params[j]? = some t → args[j]? = some v → Value.okWide Try.prog W .any base t v := hval0
  have hW' := hW
  obtain ⟨p, q, hA0, hV, rfl, hfz, hnd⟩ := hW
  have hA : DataW.TrodAll enc Try.prog W 0 (fun _ => true) true Try.f9.params.toList args.toList ds p := hA0
  rw [Try.params9] at hA hval hsz
  obtain ⟨v0, vs0, d0, ds0, p0, q0, hargs, rfl, rfl, h0, r0⟩ := trodAll_cons hA
  obtain ⟨v1, vs1, d1, ds1, p1, q1, rfl, rfl, rfl, h1, r1⟩ := trodAll_cons r0
  obtain ⟨v2, vs2, d2, ds2, p2, q2, rfl, rfl, rfl, h2, r2⟩ := trodAll_cons r1
  obtain ⟨rfl, rfl, rfl⟩ := trodAll_nil r2
  obtain rfl : args = #[v0, v1, v2] := by cases args; simp_all
  obtain ⟨rfl, rfl⟩ := trodVars_none hV
  obtain ⟨a0, len0, cap0, rfl⟩ := okWide_slice Try.underlying27 (hval 0 27 _ rfl rfl)
  have lt0 : ∀ x ∈ p0, x.block < W.heap.size := by obtain ⟨m, hm⟩ := h0; exact DataW.trod_lt m _ _ _ hm
  have y0 : len0 * 1 ≤ 140737488351232 := sized_in hsz (j := 0) (t := 27) rfl rfl Try.underlying27 Try.underlying5 (by kernel_rfl) (by kernel_rfl) h0
  obtain ⟨z0, ok0, rfl, w0⟩ := inp_of Try.underlying27 Try.underlying5 (by kernel_rfl) (hval 0 27 _ rfl rfl) h0
  obtain ⟨a1, rfl, rfl, rfl, w1⟩ := open_int Try.underlying3 (hval 1 3 _ rfl rfl) h1
  obtain ⟨a2, rfl, rfl, rfl⟩ := open_bool Try.underlying4 (hval 2 4 _ rfl rfl) h2
  clear hA0 hval0 hsz0 hsz
  have hok : ∀ n ∈ ([⟨.u8, a0, z0.length, cap0, z0⟩] : List Inp), InpOk W n := by
    intro n hn
    simp only [List.mem_cons, List.not_mem_nil, or_false] at hn
    subst hn
    exact ok0
  refine (law_calls (P := Try.prog) (Checked.mixed Try.checked) (ins := [⟨.u8, a0, z0.length, cap0, z0⟩]) hok (args := [(⟨.u8, a0, z0.length, cap0, z0⟩ : Inp).val 0, .int .i64 a1, .bool a2]) (args' := [.slice a0 z0.length cap0, .int .i64 a1, .bool a2]) (diskHash_ok _ z0 a1 a2 (a0.map fun _ => ⟨0, 0, none⟩) cap0 (bytes_of (fun n hn => wf8 (w0 n hn))) (by unfold Short; omega) (wf64 w1) (rowy_in hok 0 rfl) (nil_in hok 0 rfl)) ⟨val_rel hok 0 rfl, .atom rfl, .atom rfl, trivial⟩).mono fun e W' ⟨he, bel⟩ => ?_
  subst he
  exact ⟨_, rfl, _, _, _, [], _, [], hW', trodAll_mk1 (shut_bool Try.underlying4 _), (trodAll_cons_mk (Below.trod laidOut (by kernel_rfl) (of_decide_eq_true (by kernel_rfl)) h0 bel lt0) (trodAll_cons_mk (shut_int Try.underlying3 w1) (trodAll_cons_mk (shut_bool Try.underlying4 _) trodAll_mk0))), rfl, bel.frame _, fun h => by cases h⟩
theorem over : Rows.diskHashRow.holds Try.pinned (OpenSpec.ofChange Rows.diskHashSpec) :=
  OpenClaim.holds_of_wide 9 Try.f9 rfl rfl rfl rfl rfl rfl rfl ⟨rfl, rfl, rfl, rfl, rfl⟩ rfl rfl rfl rfl rfl (by kernel_rfl) Try.func9 (by kernel_rfl)
    (of_decide_eq_true (by kernel_rfl)) (by unfold Func.isWrapper; first | (rw [if_pos (by decide +kernel)]; kernel_rfl) | (rw [if_neg (by decide +kernel)]; exact ⟨rfl, rfl⟩))
    (fun os started H enc _ => lifted os started H enc)
theorem proved : Rows.DiskHashSaid := over
end Go.Proofs.Ytahaplbdhgfobaa.diskHash
namespace Go.Proofs.Ytahaplbdhgfobaa
/-- The row, under a short name, for the claim. -/
theorem diskHash_holds : Rows.DiskHashSaid := diskHash.proved
#print axioms diskHash_holds
end Go.Proofs.Ytahaplbdhgfobaa

/- The row of the law JournalDurable. Own work, printed by a program of this work; no condition. -/
import Derived.Test.YthekokdpplobhaaRows
import Derived.Test.YthekokdpplobhaaJournalDurableM1
import Derived.Test.YthekokdpplobhaaJournalDurableM2
import Derived.Test.YthekokdpplobhaaJournalDurableM3
import Derived.Test.YthekokdpplobhaaJournalDurableM4
import Derived.Test.YthekokdpplobhaaJournalDurableM5
namespace Go.Proofs.Ythekokdpplobhaa.journalDurable
open Go.ChangeShapes Go.WideShapes Go.ChangeAt Go.RowKit Go.Proofs.Ythekokdpplobhaa.Eng
open Go.ChangeMaps (open_string shut_string)
set_option linter.unusedVariables false
theorem own : ownKnob Try.prog.godebug = none := by kernel_rfl
theorem laidOut : laidOutB Try.prog = true := by kernel_rfl
set_option maxRecDepth 100000 in
theorem lifted (os : Os) (started : os.Started) (H : Type) (enc : TypeId × Value → H) :
    ReturnsInHanded {} Try.checked os 8 .any (Rows.journalDurableSpec.pre6 enc Try.prog Try.f8 Rows.journalDurableRow.domain false) (Rows.journalDurableSpec.post enc Try.prog Try.f8 false true false false) := by
  refine returnsInHanded_of_change_sized (C := Try.checked) own started (by kernel_rfl) Try.func8
    (ChangeSpec.witness6 (enc := enc) (C := Try.checked) false ⟨#[], #[.slice none 0 0, .int .i64 0, .int .i64 0, .slice none 0 0], []⟩ 8 (by kernel_rfl) (by kernel_rfl) (by kernel_rfl) (by kernel_rfl)) ?_
  intro W base args ds gs before hval0 hW hcnd hsz0 _
  have hsz : (DataW.weightsEach Try.prog (Try.f8.params.toList ++ Rows.journalDurableSpec.plain.varTypes Try.prog) (ds ++ gs)).all (· ≤ reachBytes) = true := hsz0
  have hval : ∀ (j : Nat) t v, Try.f8.params[j]? = some t → args[j]? = some v → Value.okWide Try.prog W .any base t v := hval0
  have hW' := hW
  obtain ⟨p, q, hA0, hV, rfl, hfz, hnd⟩ := hW
  have hA : DataW.TrodAll enc Try.prog W 0 (fun _ => true) true Try.f8.params.toList args.toList ds p := hA0
  rw [Try.params8] at hA hval hsz
  obtain ⟨v0, vs0, d0, ds0, p0, q0, hargs, rfl, rfl, h0, r0⟩ := trodAll_cons hA
  obtain ⟨v1, vs1, d1, ds1, p1, q1, rfl, rfl, rfl, h1, r1⟩ := trodAll_cons r0
  obtain ⟨v2, vs2, d2, ds2, p2, q2, rfl, rfl, rfl, h2, r2⟩ := trodAll_cons r1
  obtain ⟨v3, vs3, d3, ds3, p3, q3, rfl, rfl, rfl, h3, r3⟩ := trodAll_cons r2
  obtain ⟨rfl, rfl, rfl⟩ := trodAll_nil r3
  obtain rfl : args = #[v0, v1, v2, v3] := by cases args; simp_all
  obtain ⟨rfl, rfl⟩ := trodVars_none hV
  obtain ⟨a0, len0, cap0, rfl⟩ := okWide_slice Try.underlying22 (hval 0 22 _ rfl rfl)
  have lt0 : ∀ x ∈ p0, x.block < W.heap.size := by obtain ⟨m, hm⟩ := h0; exact DataW.trod_lt m _ _ _ hm
  have y0 : len0 * 8 ≤ 140737488351232 := sized_in hsz (j := 0) (t := 22) rfl rfl Try.underlying22 Try.underlying3 (by kernel_rfl) (by kernel_rfl) h0
  obtain ⟨z0, ok0, rfl, w0⟩ := inp_of Try.underlying22 Try.underlying3 (by kernel_rfl) (hval 0 22 _ rfl rfl) h0
  obtain ⟨a1, rfl, rfl, rfl, w1⟩ := open_int Try.underlying3 (hval 1 3 _ rfl rfl) h1
  obtain ⟨a2, rfl, rfl, rfl, w2⟩ := open_int Try.underlying3 (hval 2 3 _ rfl rfl) h2
  obtain ⟨a3, len3, cap3, rfl⟩ := okWide_slice Try.underlying23 (hval 3 23 _ rfl rfl)
  have lt3 : ∀ x ∈ p3, x.block < W.heap.size := by obtain ⟨m, hm⟩ := h3; exact DataW.trod_lt m _ _ _ hm
  have y3 : len3 * 1 ≤ 140737488351232 := sized_in hsz (j := 3) (t := 23) rfl rfl Try.underlying23 Try.underlying5 (by kernel_rfl) (by kernel_rfl) h3
  obtain ⟨z3, ok3, rfl, w3⟩ := inp_of Try.underlying23 Try.underlying5 (by kernel_rfl) (hval 3 23 _ rfl rfl) h3
  clear hA0 hval0 hsz0 hsz
  have hok : ∀ n ∈ ([⟨.i64, a0, z0.length, cap0, z0⟩, ⟨.u8, a3, z3.length, cap3, z3⟩] : List Inp), InpOk W n := by
    intro n hn
    simp only [List.mem_cons, List.not_mem_nil, or_false] at hn
    rcases hn with rfl | rfl
    · exact ok0
    · exact ok3
  refine (law_calls (P := Try.prog) (Checked.mixed Try.checked) (ins := [⟨.i64, a0, z0.length, cap0, z0⟩, ⟨.u8, a3, z3.length, cap3, z3⟩]) hok (args := [(⟨.i64, a0, z0.length, cap0, z0⟩ : Inp).val 0, .int .i64 a1, .int .i64 a2, (⟨.u8, a3, z3.length, cap3, z3⟩ : Inp).val 1]) (args' := [.slice a0 z0.length cap0, .int .i64 a1, .int .i64 a2, .slice a3 z3.length cap3]) (journalDurable_ok _ z0 z3 a1 a2 (a0.map fun _ => ⟨0, 0, none⟩) (a3.map fun _ => ⟨1, 0, none⟩) cap0 cap3 (fun n hn => wf64 (w0 n hn)) (by unfold Short; omega) (bytes_of (fun n hn => wf8 (w3 n hn))) (by unfold Short; omega) (wf64 w1) (wf64 w2) (src_in hok 0 rfl) (rowy_in hok 1 rfl) (nil_in hok 1 rfl)) ⟨val_rel hok 0 rfl, .atom rfl, .atom rfl, val_rel hok 1 rfl, trivial⟩).mono fun e W' ⟨he, bel⟩ => ?_
  subst he
  exact ⟨_, rfl, _, _, _, [], _, [], hW', trodAll_mk1 (shut_bool Try.underlying4 _), (trodAll_cons_mk (Below.trod laidOut (by kernel_rfl) (of_decide_eq_true (by kernel_rfl)) h0 bel lt0) (trodAll_cons_mk (shut_int Try.underlying3 w1) (trodAll_cons_mk (shut_int Try.underlying3 w2) (trodAll_cons_mk (Below.trod laidOut (by kernel_rfl) (of_decide_eq_true (by kernel_rfl)) h3 bel lt3) trodAll_mk0)))), rfl, bel.frame _, fun h => by cases h⟩
theorem over : Rows.journalDurableRow.holds Try.pinned (OpenSpec.ofChange Rows.journalDurableSpec) :=
  OpenClaim.holds_of_wide 8 Try.f8 rfl rfl rfl rfl rfl rfl rfl ⟨rfl, rfl, rfl, rfl, rfl⟩ rfl rfl rfl rfl rfl (by kernel_rfl) Try.func8 (by kernel_rfl)
    (of_decide_eq_true (by kernel_rfl)) (by unfold Func.isWrapper; first | (rw [if_pos (by decide +kernel)]; kernel_rfl) | (rw [if_neg (by decide +kernel)]; exact ⟨rfl, rfl⟩))
    (fun os started H enc _ => lifted os started H enc)
theorem proved : Rows.JournalDurableSaid := over
end Go.Proofs.Ythekokdpplobhaa.journalDurable
namespace Go.Proofs.Ythekokdpplobhaa
/-- The row, under a short name, for the claim. -/
theorem journalDurable_holds : Rows.JournalDurableSaid := journalDurable.proved
#print axioms journalDurable_holds
end Go.Proofs.Ythekokdpplobhaa

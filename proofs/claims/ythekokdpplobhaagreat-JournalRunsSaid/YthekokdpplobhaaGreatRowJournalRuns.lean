/- The row of the law JournalRuns. Own work, printed by a program of this work; no condition. -/
import Derived.Test.YthekokdpplobhaaGreatRows
import Derived.Test.YthekokdpplobhaaGreatJournalRunsM1
import Derived.Test.YthekokdpplobhaaGreatJournalRunsM2
import Derived.Test.YthekokdpplobhaaGreatJournalRunsM3
import Derived.Test.YthekokdpplobhaaGreatJournalRunsM4
import Derived.Test.YthekokdpplobhaaGreatJournalRunsM5
import Derived.Test.YthekokdpplobhaaGreatJournalRunsM6
namespace Go.Proofs.YthekokdpplobhaaGreat.journalRuns
open Go.ChangeShapes Go.WideShapes Go.ChangeAt Go.RowKit Go.Proofs.YthekokdpplobhaaGreat.Eng
open Go.ChangeMaps (open_string shut_string)
set_option linter.unusedVariables false
theorem own : ownKnob Tryz.prog.godebug = none := by kernel_rfl
theorem laidOut : laidOutB Tryz.prog = true := by kernel_rfl
set_option maxRecDepth 100000 in
theorem lifted (os : Os) (started : os.Started) (H : Type) (enc : TypeId × Value → H) :
    ReturnsInHanded {} Tryz.checked os 3 .any (Rows.journalRunsSpec.pre6 enc Tryz.prog Tryz.f3 Rows.journalRunsRow.domain false) (Rows.journalRunsSpec.post enc Tryz.prog Tryz.f3 false true false false) := by
  refine returnsInHanded_of_change_sized (C := Tryz.checked) own started (by kernel_rfl) Tryz.func3
    (ChangeSpec.witness6 (enc := enc) (C := Tryz.checked) false ⟨#[], #[.int .i64 0, .slice none 0 0], []⟩ 8 (by kernel_rfl) (by kernel_rfl) (by kernel_rfl) (by kernel_rfl)) ?_
  intro W base args ds gs before hval0 hW hcnd hsz0 _
  have hsz : (DataW.weightsEach Tryz.prog (Tryz.f3.params.toList ++ Rows.journalRunsSpec.plain.varTypes Tryz.prog) (ds ++ gs)).all (· ≤ reachBytes) = true := hsz0
  have hval : ∀ (j : Nat) t v, Tryz.f3.params[j]? = some t → args[j]? = some v → Value.okWide Tryz.prog W .any base t v := hval0
  have hW' := hW
  obtain ⟨p, q, hA0, hV, rfl, hfz, hnd⟩ := hW
  have hA : DataW.TrodAll enc Tryz.prog W 0 (fun _ => true) true Tryz.f3.params.toList args.toList ds p := hA0
  rw [Tryz.params3] at hA hval hsz
  obtain ⟨v0, wR, d0, ds0, p0, q0, hargs, rfl, rfl, h0, r0⟩ := trodAll_cons hA
  obtain ⟨v1, vs1, d1, ds1, p1, q1, rfl, rfl, rfl, h1, r1⟩ := trodAll_cons r0
  obtain ⟨rfl, rfl, rfl⟩ := trodAll_nil r1
  obtain rfl : args = #[v0, v1] := by cases args; simp_all
  obtain ⟨rfl, rfl⟩ := trodVars_none hV
  obtain ⟨a0, rfl, rfl, rfl, w0⟩ := open_int Tryz.underlying3 (hval 0 3 _ rfl rfl) h0
  obtain ⟨a1, len1, cap1, rfl⟩ := okWide_slice Tryz.underlying22 (hval 1 22 _ rfl rfl)
  have lt1 : ∀ x ∈ p1, x.block < W.heap.size := by obtain ⟨m, hm⟩ := h1; exact DataW.trod_lt m _ _ _ hm
  have y1 : len1 * 8 ≤ 140737488351232 := yL hsz (j := 1) (t := 22) rfl rfl Tryz.underlying22 Tryz.underlying3 (by kernel_rfl) (by kernel_rfl) h1
  obtain ⟨z1, ok1, rfl, w1⟩ := y6 Tryz.underlying22 Tryz.underlying3 (by kernel_rfl) (hval 1 22 _ rfl rfl) h1
  clear hA0 hval0 hsz0 hsz
  have hok : ∀ n ∈ ([⟨.i64, a1, z1.length, cap1, z1⟩] : List iC), pf W n := by
    intro n hn
    simp only [List.mem_cons, List.not_mem_nil, or_false] at hn
    subst hn
    exact ok1
  refine (yo (P := Tryz.prog) (Checked.mixed Tryz.checked) (ins := [⟨.i64, a1, z1.length, cap1, z1⟩]) hok (args := [.int .i64 a0, (⟨.i64, a1, z1.length, cap1, z1⟩ : iC).val 0]) (args' := [.int .i64 a0, .slice a1 z1.length cap1]) (vN _ a0 z1 (a1.map fun _ => ⟨0, 0, none⟩) cap1 (zh w0) (by unfold hJ; omega) (fun n hn => zh (w1 n hn)) (y7 hok 0 rfl)) ⟨.atom rfl, yR hok 0 rfl, trivial⟩).mono fun e W' ⟨he, bel⟩ => ?_
  subst he
  exact ⟨_, rfl, _, _, _, [], _, [], hW', trodAll_mk1 (shut_bool Tryz.underlying4 _), (trodAll_cons_mk (shut_int Tryz.underlying3 w0) (trodAll_cons_mk (Below.trod laidOut (by kernel_rfl) (of_decide_eq_true (by kernel_rfl)) h1 bel lt1) trodAll_mk0)), rfl, bel.frame _, fun h => by cases h⟩
theorem over : Rows.journalRunsRow.holds Tryz.pinned (OpenSpec.ofChange Rows.journalRunsSpec) :=
  OpenClaim.holds_of_wide 3 Tryz.f3 rfl rfl rfl rfl rfl rfl rfl ⟨rfl, rfl, rfl, rfl, rfl⟩ rfl rfl rfl rfl rfl (by kernel_rfl) Tryz.func3 (by kernel_rfl)
    (of_decide_eq_true (by kernel_rfl)) (by unfold Func.isWrapper; first | (rw [if_pos (by decide +kernel)]; kernel_rfl) | (rw [if_neg (by decide +kernel)]; exact ⟨rfl, rfl⟩))
    (fun os started H enc _ => lifted os started H enc)
theorem proved : Rows.JournalRunsSaid := over
end Go.Proofs.YthekokdpplobhaaGreat.journalRuns
namespace Go.Proofs.YthekokdpplobhaaGreat
/-- The row, under a short name, for the claim. -/
theorem journalRuns_holds : Rows.JournalRunsSaid := journalRuns.proved
#print axioms journalRuns_holds
end Go.Proofs.YthekokdpplobhaaGreat

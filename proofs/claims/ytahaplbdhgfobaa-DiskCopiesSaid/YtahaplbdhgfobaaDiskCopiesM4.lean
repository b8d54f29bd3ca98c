/- Small functions of disks: exists, step, set, New, Read. Own work; no condition. | Used, harden, Sync, Truncate. Own work; no condition. | The numbers of a disk's files, in order. Own work; no condition. | A crash in plain lists; the numbers of the files as a contract. Own work; no condition. | What a crash keeps of the files, in plain lists. Own work; no condition. | A crash, walked. Own work; no condition. | Copies of maps: the library's maps.Clone at this program's numbers, and as a step of the engine. Own work; no condition. | The reference's disk in plain lists, and that both disks answer alike. Own work; no condition. | The reference's crash in plain lists. Own work; no condition. | Arm, On, Copy, Rot. Own work; no condition. | Append to a file of a disk. Own work; no condition. | The section's examples. Own work; no condition. | A disk that never fails, in plain lists. Own work; no condition. | The reference's disk: New, Used, Files, step, Append, Sync, Truncate, Arm. Own work; no condition. | The reference's disk: New, Append, Sync, Truncate, Files. Own work; no condition. -/
import Derived.Test.YtahaplbdhgfobaaDiskCopiesM1
import Derived.Test.YtahaplbdhgfobaaDiskCopiesM2
import Derived.Test.YtahaplbdhgfobaaDiskCopiesM3
import Derived.Shelf.SlMaps.Clone
set_option linter.unusedVariables false
set_option linter.unusedSimpArgs false
namespace Go.Proofs.Ytahaplbdhgfobaa.Eng

theorem exists_ok (O : Objs) (n : Int) : Spec Try.prog false 36 #[I n] O fun v O' => v = .bool (decide (0 ≤ n ∧ n < 64)) ∧ O' = O := by
  refine Spec.enter (args := [_]) (m := 9) Try.func36 rfl rfl (by decide +kernel) fun h0 => ?_
  refine WX.seq ?_
  refine WX.region rfl ?_
  refine WXL.assign Met.none rfl ?_
  refine WXL.nil ?_
  refine Fin.then_normal ?_
  refine WX.seq ?_
  refine WX.region rfl ?_
  refine WXL.move Met.none rfl ?_
  refine WXL.bin Met.none rfl rfl rfl ?_
  refine WXL.move Met.none rfl ?_
  refine WXL.split (d := 5) rfl (fun hg5 => ?_) (fun hg5 => ?_)
  · try simp only [cnd] at hg5
    refine WXL.move (Met.some rfl rfl rfl) rfl ?_
    refine WXL.bin (Met.some rfl rfl rfl) rfl rfl rfl ?_
    refine WXL.pick_t Met.none rfl rfl ?_
    refine WXL.assign Met.none rfl ?_
    refine WXL.nil ?_
    refine Fin.then_normal ?_
    refine WX.ret ?_
    exact Fin.result (O' := O) (.inr rfl) rfl rfl drop_ ⟨bl_, rfl⟩
  · try simp only [cnd] at hg5
    refine WXL.miss (j := 2) (d := 5) rfl rfl rfl ?_
    refine WXL.miss (j := 2) (d := 5) rfl rfl rfl ?_
    refine WXL.pick_f Met.none rfl rfl ?_
    refine WXL.assign Met.none rfl ?_
    refine WXL.nil ?_
    refine Fin.then_normal ?_
    refine WX.ret ?_
    exact Fin.result (O' := O) (.inr rfl) rfl rfl drop_ ⟨bl_, rfl⟩

theorem step_ok (R : Objs) (d bm : Nat) (D : Dk) (mx : MapX) (hl : D.armed = true → 0 ≤ D.left ∧ D.left < 9223372036854775808) :
    Spec Try.prog false 39 #[Ptr d 0] (dkO d bm D mx R) fun v O' => v = .bool (stepD D).1 ∧ O' = dkO d bm (stepD D).2 mx R := by
  refine Spec.enter (args := [_]) (m := 31) Try.func39 rfl rfl (by decide +kernel) fun h0 => ?_
  refine WX.seq ?_
  refine WX.region rfl ?_
  refine WXL.assign Met.none rfl ?_
  refine WXL.nil ?_
  refine Fin.then_normal ?_
  refine WX.seq ?_
  refine WX.seq ?_
  refine WX.region rfl ?_
  refine WXL.move Met.none rfl ?_
  refine WXL.nilCheck Met.none rfl ?_
  first | refine WXL.fieldAddr Met.none rfl Try.underlying68 rfl sz4 rfl ?_ | refine WXL.faS Met.none rfl Try.underlying68 rfl sz4 ?_
  first | refine WXL.ld Met.none rfl agg4 ?_ | refine WXL.ldS Met.none rfl agg4 ?_
  refine WXL.not Met.none rfl ?_
  refine WXL.nil ?_
  refine Fin.then_normal ?_
  refine WX.cond rfl (fun hc0 => ?_) (fun hc0 => ?_)
  · try simp only [cnd] at hc0
    refine WX.seq ?_
    refine WX.region rfl ?_
    refine WXL.assign Met.none rfl ?_
    refine WXL.nil ?_
    refine Fin.then_normal ?_
    refine WX.ret ?_
    refine Fin.then_ret ?_
    first
    | exact Fin.result (O' := dkO d bm D mx R) (.inr rfl) rfl rfl drop_ (by unfold stepD; rw [if_pos (by simpa using hc0)]; exact ⟨rfl, rfl⟩)
    | exact Fin.result (O' := dkO d bm { D with off := true, armed := false, left := D.left - 1 } mx R) (.inr rfl) rfl rfl drop_ (by unfold stepD; rw [if_neg (by rw [ha]; simp), if_pos (by omega)]; exact ⟨rfl, rfl⟩)
    | exact Fin.result (O' := dkO d bm { D with left := D.left - 1 } mx R) (.inr rfl) rfl rfl drop_ (by unfold stepD; rw [if_neg (by rw [ha]; simp), if_neg (by omega)]; exact ⟨rfl, rfl⟩)
  · try simp only [cnd] at hc0
    have ha : D.armed = true := by simpa using hc0
    have hl := hl ha
    refine WX.skip ?_
    refine Fin.then_normal ?_
    refine WX.seq ?_
    refine WX.region rfl ?_
    refine WXL.move Met.none rfl ?_
    refine WXL.nilCheck Met.none rfl ?_
    first | refine WXL.fieldAddr Met.none rfl Try.underlying68 rfl sz3 rfl ?_ | refine WXL.faS Met.none rfl Try.underlying68 rfl sz3 ?_
    first | refine WXL.ld Met.none rfl agg3 ?_ | refine WXL.ldS Met.none rfl agg3 ?_
    refine WXL.bin Met.none rfl rfl bvS ?_
    refine WXL.nilCheck Met.none rfl ?_
    first | refine WXL.fieldAddr Met.none rfl Try.underlying68 rfl sz3 rfl ?_ | refine WXL.faS Met.none rfl Try.underlying68 rfl sz3 ?_
    refine WXL.st (vs := [_]) (j := 0) Met.none rfl rfl rfl sz3 ?_ (hj := rfl)
    refine WXL.nil ?_
    refine Fin.then_normal ?_
    refine WX.seq ?_
    refine WX.seq ?_
    refine WX.region rfl ?_
    refine WXL.move Met.none rfl ?_
    refine WXL.nilCheck Met.none rfl ?_
    first | refine WXL.fieldAddr Met.none rfl Try.underlying68 rfl sz3 rfl ?_ | refine WXL.faS Met.none rfl Try.underlying68 rfl sz3 ?_
    first | refine WXL.ld Met.none rfl agg3 ?_ | refine WXL.ldS Met.none rfl agg3 ?_
    refine WXL.bin Met.none rfl rfl rfl ?_
    refine WXL.nil ?_
    refine Fin.then_normal ?_
    refine WX.cond rfl (fun hc1 => ?_) (fun hc1 => ?_)
    · try simp only [cnd] at hc1
      refine WX.region rfl ?_
      refine WXL.move Met.none rfl ?_
      refine WXL.move Met.none rfl ?_
      refine WXL.nilCheck Met.none rfl ?_
      first | refine WXL.fieldAddr Met.none rfl Try.underlying68 rfl sz4 rfl ?_ | refine WXL.faS Met.none rfl Try.underlying68 rfl sz4 ?_
      refine WXL.st (vs := [_]) (j := 0) Met.none rfl rfl rfl sz4 ?_ (hj := rfl)
      refine WXL.nilCheck Met.none rfl ?_
      first | refine WXL.fieldAddr Met.none rfl Try.underlying68 rfl sz4 rfl ?_ | refine WXL.faS Met.none rfl Try.underlying68 rfl sz4 ?_
      refine WXL.st (vs := [_]) (j := 0) Met.none rfl rfl rfl sz4 ?_ (hj := rfl)
      refine WXL.nil ?_
      refine Fin.then_normal ?_
      refine WX.seq ?_
      refine WX.region rfl ?_
      refine WXL.move Met.none rfl ?_
      refine WXL.nilCheck Met.none rfl ?_
      first | refine WXL.fieldAddr Met.none rfl Try.underlying68 rfl sz4 rfl ?_ | refine WXL.faS Met.none rfl Try.underlying68 rfl sz4 ?_
      first | refine WXL.ld Met.none rfl agg4 ?_ | refine WXL.ldS Met.none rfl agg4 ?_
      refine WXL.not Met.none rfl ?_
      refine WXL.assign Met.none rfl ?_
      refine WXL.nil ?_
      refine Fin.then_normal ?_
      refine WX.ret ?_
      first
      | exact Fin.result (O' := dkO d bm D mx R) (.inr rfl) rfl rfl drop_ (by unfold stepD; rw [if_pos (by simpa using hc0)]; exact ⟨rfl, rfl⟩)
      | exact Fin.result (O' := dkO d bm { D with off := true, armed := false, left := D.left - 1 } mx R) (.inr rfl) rfl rfl drop_ (by unfold stepD; rw [if_neg (by rw [ha]; simp), if_pos (by omega)]; exact ⟨rfl, rfl⟩)
      | exact Fin.result (O' := dkO d bm { D with left := D.left - 1 } mx R) (.inr rfl) rfl rfl drop_ (by unfold stepD; rw [if_neg (by rw [ha]; simp), if_neg (by omega)]; exact ⟨rfl, rfl⟩)
    · try simp only [cnd] at hc1
      refine WX.skip ?_
      refine Fin.then_normal ?_
      refine WX.seq ?_
      refine WX.region rfl ?_
      refine WXL.move Met.none rfl ?_
      refine WXL.nilCheck Met.none rfl ?_
      first | refine WXL.fieldAddr Met.none rfl Try.underlying68 rfl sz4 rfl ?_ | refine WXL.faS Met.none rfl Try.underlying68 rfl sz4 ?_
      first | refine WXL.ld Met.none rfl agg4 ?_ | refine WXL.ldS Met.none rfl agg4 ?_
      refine WXL.not Met.none rfl ?_
      refine WXL.assign Met.none rfl ?_
      refine WXL.nil ?_
      refine Fin.then_normal ?_
      refine WX.ret ?_
      first
      | exact Fin.result (O' := dkO d bm D mx R) (.inr rfl) rfl rfl drop_ (by unfold stepD; rw [if_pos (by simpa using hc0)]; exact ⟨rfl, rfl⟩)
      | exact Fin.result (O' := dkO d bm { D with off := true, armed := false, left := D.left - 1 } mx R) (.inr rfl) rfl rfl drop_ (by unfold stepD; rw [if_neg (by rw [ha]; simp), if_pos (by omega)]; exact ⟨rfl, rfl⟩)
      | exact Fin.result (O' := dkO d bm { D with left := D.left - 1 } mx R) (.inr rfl) rfl rfl drop_ (by unfold stepD; rw [if_neg (by rw [ha]; simp), if_neg (by omega)]; exact ⟨rfl, rfl⟩)

theorem set_ok (R : Objs) (d bm : Nat) (D : Dk) (mx : MapX) (n : Int) (a : Option Addr) (m c : Nat) (t : Int) :
    Spec Try.prog false 38 #[Ptr d 0, I n, fileV a m c t] (dkO d bm D mx R) fun v O' => O' = dkO d bm D (setX mx n (fileV a m c t) m) R := by
  refine Spec.enter (args := [_, _, _]) (m := 21) Try.func38 rfl rfl (by decide +kernel) fun h0 => ?_
  refine WX.seq ?_
  refine WX.region rfl ?_
  refine WXL.box (c := [_, _]) Met.none rfl rfl rfl (fun b5 => ?_)
  refine WXL.nil ?_
  refine Fin.then_normal ?_
  refine WX.seq ?_
  refine WX.draw rfl ?_
  refine WXL.move Met.none rfl ?_
  refine WXL.nilCheck Met.none rfl ?_
  first | refine WXL.fieldAddr Met.none rfl Try.underlying68 rfl sz66 rfl ?_ | refine WXL.faS Met.none rfl Try.underlying68 rfl sz66 ?_
  first | refine WXL.ld Met.none rfl agg66 ?_ | refine WXL.ldS Met.none rfl agg66 ?_
  refine WXL.move Met.none rfl ?_
  refine WXL.ldN (vs := [_, _]) Met.none rfl agg71 sz71 ?_
  refine WXL.mapUpdate (j := 2) Met.none rfl rfl rfl mapT66 ?_ (hj := rfl)
  refine WXL.nil ?_
  refine Fin.then_normal ?_
  refine WX.seq ?_
  refine WX.region rfl ?_
  refine WXL.fieldAddr (off' := 0) Met.none rfl Try.underlying71 rfl sz27 rfl ?_
  first | refine WXL.ld Met.none rfl agg27 ?_ | refine WXL.ldS Met.none rfl agg27 ?_
  refine WXL.len Met.none rfl Try.underlying27 ?_
  refine WXL.bin Met.none rfl rfl rfl ?_
  refine WXL.nil ?_
  refine Fin.then_normal ?_
  refine WX.cond rfl (fun hc0 => ?_) (fun hc0 => ?_)
  · try simp only [cnd] at hc0
    refine WX.region rfl ?_
    refine WXL.move Met.none rfl ?_
    refine WXL.nilCheck Met.none rfl ?_
    first | refine WXL.fieldAddr Met.none rfl Try.underlying68 rfl sz66 rfl ?_ | refine WXL.faS Met.none rfl Try.underlying68 rfl sz66 ?_
    first | refine WXL.ld Met.none rfl agg66 ?_ | refine WXL.ldS Met.none rfl agg66 ?_
    refine WXL.move Met.none rfl ?_
    refine WXL.delete (j := 2) Met.none rfl rfl mapT66 ?_ (hj := rfl)
    refine WXL.nil ?_
    first
    | exact Fin.result (O' := dkO d bm D ((mx.put n (fileV a m c t)).del n) R) (.inl rfl) rfl rfl drop_ (by unfold setX; rw [if_pos (by omega)])
    | exact Fin.result (O' := dkO d bm D (mx.put n (fileV a m c t)) R) (.inl rfl) rfl rfl drop_ (by unfold setX; rw [if_neg (by omega)])
  · try simp only [cnd] at hc0
    refine WX.skip ?_
    first
    | exact Fin.result (O' := dkO d bm D ((mx.put n (fileV a m c t)).del n) R) (.inl rfl) rfl rfl drop_ (by unfold setX; rw [if_pos (by omega)])
    | exact Fin.result (O' := dkO d bm D (mx.put n (fileV a m c t)) R) (.inl rfl) rfl rfl drop_ (by unfold setX; rw [if_neg (by omega)])

theorem diskNew_ok (O : Objs) (room : Int) : Spec Try.prog false 11 #[I room] O fun v O' =>
    (0 ≤ room ∧ room ≤ 16777216 ∧ ∃ d bm, v = .tuple #[Ptr d 0, I 0] ∧ O' = dkO d bm ⟨room, false, false, 0, []⟩ .new O) ∨ (¬ (0 ≤ room ∧ room ≤ 16777216) ∧ v = .tuple #[.pointer none, I 1] ∧ O' = O) := by
  refine Spec.enter (args := [_]) (m := 14) Try.func11 rfl rfl (by decide +kernel) fun h0 => ?_
  refine WX.seq ?_
  refine WX.region rfl ?_
  refine WXL.assign Met.none rfl ?_
  refine WXL.assign Met.none rfl ?_
  refine WXL.nil ?_
  refine Fin.then_normal ?_
  refine WX.seq ?_
  refine WX.seq ?_
  refine WX.region rfl ?_
  refine WXL.move Met.none rfl ?_
  refine WXL.bin Met.none rfl rfl rfl ?_
  refine WXL.move Met.none rfl ?_
  refine WXL.split (d := 6) rfl (fun hg6 => ?_) (fun hg6 => ?_)
  · try simp only [cnd] at hg6
    refine WXL.miss (j := 2) (d := 6) rfl rfl rfl ?_
    refine WXL.miss (j := 2) (d := 6) rfl rfl rfl ?_
    refine WXL.pick_t Met.none rfl rfl ?_
    refine WXL.nil ?_
    refine Fin.then_normal ?_
    refine WX.cond rfl (fun hc0 => ?_) (fun hc0 => nomatch hc0)
    refine WX.seq ?_
    refine WX.region rfl ?_
    refine WXL.assign Met.none rfl ?_
    refine WXL.assign Met.none rfl ?_
    refine WXL.nil ?_
    refine Fin.then_normal ?_
    refine WX.ret ?_
    refine Fin.then_ret ?_
    first
    | exact Fin.result (O' := O) (.inr rfl) rfl rfl drop_ (.inr ⟨by omega, rfl, rfl⟩)
    | exact Fin.result (O' := dkO b13 b10 ⟨room, false, false, 0, []⟩ .new O) (.inr rfl) rfl rfl drop_ (.inl ⟨by omega, by omega, _, _, rfl, rfl⟩)
  · try simp only [cnd] at hg6
    refine WXL.move (Met.some rfl rfl rfl) rfl ?_
    refine WXL.bin (Met.some rfl rfl rfl) rfl rfl rfl ?_
    refine WXL.pick_f Met.none rfl rfl ?_
    refine WXL.nil ?_
    refine Fin.then_normal ?_
    refine WX.cond rfl (fun hc0 => ?_) (fun hc0 => ?_)
    · try simp only [cnd] at hc0
      refine WX.seq ?_
      refine WX.region rfl ?_
      refine WXL.assign Met.none rfl ?_
      refine WXL.assign Met.none rfl ?_
      refine WXL.nil ?_
      refine Fin.then_normal ?_
      refine WX.ret ?_
      refine Fin.then_ret ?_
      first
      | exact Fin.result (O' := O) (.inr rfl) rfl rfl drop_ (.inr ⟨by omega, rfl, rfl⟩)
      | exact Fin.result (O' := dkO b13 b10 ⟨room, false, false, 0, []⟩ .new O) (.inr rfl) rfl rfl drop_ (.inl ⟨by omega, by omega, _, _, rfl, rfl⟩)
    · try simp only [cnd] at hc0
      refine WX.skip ?_
      refine Fin.then_normal ?_
      refine WX.seq ?_
      refine WX.region rfl ?_
      refine WXL.makeMap Met.none (fun b10 => ?_)
      refine WXL.move Met.none rfl ?_
      refine WXL.build (c := [_, _, _, _, _]) Met.none rfl zero68 places68 rfl ?_
      refine WXL.box (c := [_, _, _, _, _]) Met.none rfl rfl rfl (fun b13 => ?_)
      refine WXL.assign Met.none rfl ?_
      refine WXL.assign Met.none rfl ?_
      refine WXL.nil ?_
      refine Fin.then_normal ?_
      refine WX.ret ?_
      first
      | exact Fin.result (O' := O) (.inr rfl) rfl rfl drop_ (.inr ⟨by omega, rfl, rfl⟩)
      | exact Fin.result (O' := dkO b13 b10 ⟨room, false, false, 0, []⟩ .new O) (.inr rfl) rfl rfl drop_ (.inl ⟨by omega, by omega, _, _, rfl, rfl⟩)

theorem diskRead_ok (R : Objs) {R0 : Objs} (d bm : Nat) (D : Dk) (mx : MapX) (n : Int) (hD : DkI R0 D mx) (hi : ∀ g, Sat g R → Sat g R0) :
    Spec Try.prog false 17 #[Ptr d 0, I n] (dkO d bm D mx R) fun v O' => ∃ a c G, v = .tuple #[.slice a (readD D n).1.length c, I (readD D n).2] ∧ Grow 1 a (readD D n).1.length c ((readD D n).1.map B8) G ∧ O' = dkO d bm D mx (G ++ R) := by
  obtain ⟨fa, fc, hfv, hrow0, hnil, hB⟩ := hD.di.get n
  have hrow := hrow0.inc hi
  have hlen := hD.get_len n
  refine Spec.enter (args := [_, _]) (m := 23) Try.func17 rfl rfl (by decide +kernel) fun h0 => ?_
  refine WX.seq ?_
  refine WX.region rfl ?_
  refine WXL.assign Met.none rfl ?_
  refine WXL.assign Met.none rfl ?_
  refine WXL.nil ?_
  refine Fin.then_normal ?_
  refine WX.seq ?_
  refine WX.block ?_
  refine WX.seq ?_
  refine WX.region rfl ?_
  refine WXL.move Met.none rfl ?_
  refine WXL.cl (O1 := _) Met.none rfl (fnOk_of Try.func36 (by decide +kernel)) rfl (fun _ h => h) (exists_ok _ n) (fun v O' hp => ?_)
  obtain ⟨rfl, hO⟩ := hp
  subst O'
  refine WXL.not Met.none rfl ?_
  refine WXL.assign Met.none rfl ?_
  refine WXL.nil ?_
  refine Fin.then_normal ?_
  refine WX.cond rfl (fun hc0 => ?_) (fun hc0 => ?_)
  · try simp only [cnd] at hc0
    refine WX.seq ?_
    refine WX.region rfl ?_
    refine WXL.assign Met.none rfl ?_
    refine WXL.assign Met.none rfl ?_
    refine WXL.nil ?_
    refine Fin.then_normal ?_
    refine WX.ret ?_
    refine Fin.block_ret ?_
    refine Fin.then_ret ?_
    first
    | exact Fin.result (O' := dkO d bm D mx ([] ++ R)) (.inr rfl) rfl rfl drop_ (by unfold readD; rw [if_pos (by omega)]; exact ⟨none, 0, [], rfl, .nil, rfl⟩)
    | exact Fin.result (O' := dkO d bm D mx ([] ++ R)) (.inr rfl) rfl rfl drop_ (by unfold readD; rw [if_neg (by omega), if_pos (by assumption)]; exact ⟨none, 0, [], rfl, .nil, rfl⟩)
    | exact Fin.result (O' := dkO d bm D mx (G7 ++ R)) (.inr rfl) rfl rfl sub_ (by unfold readD; rw [if_neg (by omega), if_neg (by simp [hc1])]; exact ⟨a7, c7, G7, rfl, hG7, rfl⟩)
  · try simp only [cnd] at hc0
    refine WX.seq ?_
    refine WX.region rfl ?_
    refine WXL.move Met.none rfl ?_
    refine WXL.nilCheck Met.none rfl ?_
    first | refine WXL.fieldAddr Met.none rfl Try.underlying68 rfl sz4 rfl ?_ | refine WXL.faS Met.none rfl Try.underlying68 rfl sz4 ?_
    first | refine WXL.ld Met.none rfl agg4 ?_ | refine WXL.ldS Met.none rfl agg4 ?_
    refine WXL.assign Met.none rfl ?_
    refine WXL.nil ?_
    refine Fin.then_normal ?_
    refine WX.cond rfl (fun hc1 => ?_) (fun hc1 => ?_)
    · try simp only [cnd] at hc1
      refine WX.seq ?_
      refine WX.region rfl ?_
      refine WXL.assign Met.none rfl ?_
      refine WXL.assign Met.none rfl ?_
      refine WXL.nil ?_
      refine Fin.then_normal ?_
      refine WX.ret ?_
      refine Fin.block_ret ?_
      refine Fin.then_ret ?_
      first
      | exact Fin.result (O' := dkO d bm D mx ([] ++ R)) (.inr rfl) rfl rfl drop_ (by unfold readD; rw [if_pos (by omega)]; exact ⟨none, 0, [], rfl, .nil, rfl⟩)
      | exact Fin.result (O' := dkO d bm D mx ([] ++ R)) (.inr rfl) rfl rfl drop_ (by unfold readD; rw [if_neg (by omega), if_pos (by assumption)]; exact ⟨none, 0, [], rfl, .nil, rfl⟩)
      | exact Fin.result (O' := dkO d bm D mx (G7 ++ R)) (.inr rfl) rfl rfl sub_ (by unfold readD; rw [if_neg (by omega), if_neg (by simp [hc1])]; exact ⟨a7, c7, G7, rfl, hG7, rfl⟩)
    · try simp only [cnd] at hc1
      refine WX.skip ?_
      refine Fin.block_normal ?_
      refine Fin.then_normal ?_
      refine WX.seq ?_
      refine WX.region rfl ?_
      refine WXL.move Met.none rfl ?_
      refine WXL.nilCheck Met.none rfl ?_
      first | refine WXL.fieldAddr Met.none rfl Try.underlying68 rfl sz66 rfl ?_ | refine WXL.faS Met.none rfl Try.underlying68 rfl sz66 ?_
      first | refine WXL.ld Met.none rfl agg66 ?_ | refine WXL.ldS Met.none rfl agg66 ?_
      refine WXL.move Met.none rfl ?_
      refine WXL.lookup Met.none rfl rfl mapT66 zero71 at_ (show _ = fileV fa (getF D.fs n).bs.length fc (getF D.fs n).d from hfv) ?_
      refine WXL.fieldV Met.none rfl Try.underlying71 rfl (part1 agg27 rfl) ?_
      refine WXL.cl (O1 := _) Met.none rfl (fnOk_of Try.func37 (by decide +kernel)) rfl (fun _ h => h) (clone_ok _ (getF D.fs n).bs fa fc (by omega) (fun q => by
      have := hrow.nil0 q
      exact List.length_eq_zero_iff.1 this) (Src.cons (Src.cons (hrow.src hnil)))) (fun v O' hp => ?_)
      obtain ⟨a7, c7, G7, rfl, hG7, rfl⟩ := hp
      refine WXL.assign Met.none rfl ?_
      refine WXL.assign Met.none rfl ?_
      refine WXL.nil ?_
      refine Fin.then_normal ?_
      refine WX.ret ?_
      first
      | exact Fin.result (O' := dkO d bm D mx ([] ++ R)) (.inr rfl) rfl rfl drop_ (by unfold readD; rw [if_pos (by omega)]; exact ⟨none, 0, [], rfl, .nil, rfl⟩)
      | exact Fin.result (O' := dkO d bm D mx ([] ++ R)) (.inr rfl) rfl rfl drop_ (by unfold readD; rw [if_neg (by omega), if_pos (by assumption)]; exact ⟨none, 0, [], rfl, .nil, rfl⟩)
      | exact Fin.result (O' := dkO d bm D mx (G7 ++ R)) (.inr rfl) rfl rfl sub_ (by unfold readD; rw [if_neg (by omega), if_neg (by simp [hc1])]; exact ⟨a7, c7, G7, rfl, hG7, rfl⟩)

end Go.Proofs.Ytahaplbdhgfobaa.Eng

set_option linter.unusedVariables false
set_option linter.unusedSimpArgs false
namespace Go.Proofs.Ytahaplbdhgfobaa.Eng

theorem used_ok (q : Bool) (R : Objs) {R0 : Objs} (d bm : Nat) (D : Dk) (mx : MapX) (hD : DkI R0 D mx) :
    Spec Try.prog q 21 #[Ptr d 0] (dkO d bm D mx R) fun v O' => v = I (used D.fs) ∧ O' = dkO d bm D mx R :=
  Spec.direct fun g hs => ⟨_, g, _, used_direct (ro1 := false) (ro2 := false) (bm := bm) (mx := mx) (hs.at (j := 0) rfl) (hs.at (j := 1) rfl) hD.files (by
    have h1 := hD.lens
    have h2 := hD.used
    have h3 := hD.room
    omega), ⟨by rw [hD.lens], rfl⟩, hs, fun _ => Old.refl g⟩

theorem harden_ok (R : Objs) {R0 : Objs} (d bm : Nat) (D : Dk) (mx : MapX) (hD : DkI R0 D mx) :
    Spec Try.prog false 40 #[Ptr d 0] (dkO d bm D mx R) fun v O' => v = .tuple #[] ∧ O' = dkO d bm { D with fs := hardAll D.fs } mx.hard R :=
  Spec.direct fun g hs => by
    obtain ⟨f, k, h2⟩ := hs.at (j := 1) (b := bm) (x := ⟨2, false, mcells mx⟩) rfl
    exact ⟨_, _, dkO d bm { D with fs := hardAll D.fs } mx.hard R, harden_direct (ro1 := false) (bm := bm) (mx := mx) (hs.at (j := 0) rfl) h2 hD.files hD.keys, ⟨rfl, rfl⟩, hs.set (j := 1) rfl h2, fun q => by cases q⟩

theorem sync_ok (R : Objs) {R0 : Objs} (d bm : Nat) (D : Dk) (mx : MapX) (hD : DkI R0 D mx) :
    Spec Try.prog false 15 #[Ptr d 0] (dkO d bm D mx R) fun v O' => ∃ mx', v = I (syncD D).1 ∧ O' = dkO d bm (syncD D).2 mx' R ∧ DkI R0 (syncD D).2 mx' := by
  refine Spec.enter (args := [_]) (m := 14) Try.func15 rfl rfl (by decide +kernel) fun h0 => ?_
  refine WX.seq ?_
  refine WX.region rfl ?_
  refine WXL.assign Met.none rfl ?_
  refine WXL.nil ?_
  refine Fin.then_normal ?_
  refine WX.seq ?_
  refine WX.seq ?_
  refine WX.region rfl ?_
  refine WXL.move Met.none rfl ?_
  refine WXL.nilCheck Met.none rfl ?_
  first | refine WXL.fieldAddr Met.none rfl Try.underlying68 rfl sz4 rfl ?_ | refine WXL.faS Met.none rfl Try.underlying68 rfl sz4 ?_
  first | refine WXL.ld Met.none rfl agg4 ?_ | refine WXL.ldS Met.none rfl agg4 ?_
  refine WXL.move Met.none rfl ?_
  refine WXL.split (d := 7) rfl (fun hg7 => ?_) (fun hg7 => ?_)
  · try simp only [cnd] at hg7
    refine WXL.miss (j := 4) (d := 7) rfl rfl rfl ?_
    refine WXL.miss (j := 4) (d := 7) rfl rfl rfl ?_
    refine WXL.miss (j := 4) (d := 7) rfl rfl rfl ?_
    refine WXL.pick_t Met.none rfl rfl ?_
    refine WXL.nil ?_
    refine Fin.then_normal ?_
    refine WX.cond rfl (fun hc0 => ?_) (fun hc0 => nomatch hc0)
    refine WX.seq ?_
    refine WX.region rfl ?_
    refine WXL.assign Met.none rfl ?_
    refine WXL.nil ?_
    refine Fin.then_normal ?_
    refine WX.ret ?_
    refine Fin.then_ret ?_
    first
    | exact Fin.result (O' := dkO d bm D mx R) (.inr rfl) rfl rfl drop_ (by unfold syncD; rw [if_pos (by assumption)]; exact ⟨mx, rfl, rfl, hD⟩)
    | exact Fin.result (O' := dkO d bm (stepD D).2 mx R) (.inr rfl) rfl rfl drop_ (by unfold syncD; rw [if_neg (by simp [hg7]), if_pos (by simpa using hc0)]; exact ⟨mx, rfl, rfl, hD.step⟩)
    | exact Fin.result (O' := dkO d bm { (stepD D).2 with fs := hardAll (stepD D).2.fs } mx.hard R) (.inr rfl) rfl rfl drop_ (by unfold syncD; rw [if_neg (by simp [hg7]), if_neg (by simpa using hc0)]; exact ⟨mx.hard, rfl, rfl, hD.step.hard⟩)
  · try simp only [cnd] at hg7
    refine WXL.move (Met.some rfl rfl rfl) rfl ?_
    refine WXL.cl (O1 := _) (Met.some rfl rfl rfl) rfl (fnOk_of Try.func39 (by decide +kernel)) rfl (fun _ h => h) (step_ok R d bm D mx hD.left) (fun v O' hp => ?_)
    obtain ⟨rfl, hO⟩ := hp
    subst O'
    refine WXL.not (Met.some rfl rfl rfl) rfl ?_
    refine WXL.pick_f Met.none rfl rfl ?_
    refine WXL.nil ?_
    refine Fin.then_normal ?_
    refine WX.cond rfl (fun hc0 => ?_) (fun hc0 => ?_)
    · try simp only [cnd] at hc0
      refine WX.seq ?_
      refine WX.region rfl ?_
      refine WXL.assign Met.none rfl ?_
      refine WXL.nil ?_
      refine Fin.then_normal ?_
      refine WX.ret ?_
      refine Fin.then_ret ?_
      first
      | exact Fin.result (O' := dkO d bm D mx R) (.inr rfl) rfl rfl drop_ (by unfold syncD; rw [if_pos (by assumption)]; exact ⟨mx, rfl, rfl, hD⟩)
      | exact Fin.result (O' := dkO d bm (stepD D).2 mx R) (.inr rfl) rfl rfl drop_ (by unfold syncD; rw [if_neg (by simp [hg7]), if_pos (by simpa using hc0)]; exact ⟨mx, rfl, rfl, hD.step⟩)
      | exact Fin.result (O' := dkO d bm { (stepD D).2 with fs := hardAll (stepD D).2.fs } mx.hard R) (.inr rfl) rfl rfl drop_ (by unfold syncD; rw [if_neg (by simp [hg7]), if_neg (by simpa using hc0)]; exact ⟨mx.hard, rfl, rfl, hD.step.hard⟩)
    · try simp only [cnd] at hc0
      refine WX.skip ?_
      refine Fin.then_normal ?_
      refine WX.seq ?_
      refine WX.region rfl ?_
      refine WXL.move Met.none rfl ?_
      refine WXL.cl (O1 := _) Met.none rfl (fnOk_of Try.func40 (by decide +kernel)) rfl (fun _ h => h) (harden_ok R d bm (stepD D).2 mx hD.step) (fun v O' hp => ?_)
      obtain ⟨rfl, hO⟩ := hp
      subst O'
      refine WXL.nil ?_
      refine Fin.then_normal ?_
      refine WX.seq ?_
      refine WX.region rfl ?_
      refine WXL.assign Met.none rfl ?_
      refine WXL.nil ?_
      refine Fin.then_normal ?_
      refine WX.ret ?_
      first
      | exact Fin.result (O' := dkO d bm D mx R) (.inr rfl) rfl rfl drop_ (by unfold syncD; rw [if_pos (by assumption)]; exact ⟨mx, rfl, rfl, hD⟩)
      | exact Fin.result (O' := dkO d bm (stepD D).2 mx R) (.inr rfl) rfl rfl drop_ (by unfold syncD; rw [if_neg (by simp [hg7]), if_pos (by simpa using hc0)]; exact ⟨mx, rfl, rfl, hD.step⟩)
      | exact Fin.result (O' := dkO d bm { (stepD D).2 with fs := hardAll (stepD D).2.fs } mx.hard R) (.inr rfl) rfl rfl drop_ (by unfold syncD; rw [if_neg (by simp [hg7]), if_neg (by simpa using hc0)]; exact ⟨mx.hard, rfl, rfl, hD.step.hard⟩)

theorem trunc_ok (R : Objs) {R0 : Objs} (d bm : Nat) (D : Dk) (mx : MapX) (n size : Int) (hD : DkI R0 D mx) (hi : ∀ g, Sat g R → Sat g R0) :
    Spec Try.prog false 20 #[Ptr d 0, I n, I size] (dkO d bm D mx R) fun v O' => ∃ mx', v = I (truncD D n size).1 ∧ O' = dkO d bm (truncD D n size).2 mx' R ∧ DkI R0 (truncD D n size).2 mx' := by
  obtain ⟨fa, fc, hfv, hrow0, hnil, hB⟩ := hD.di.get n
  have hrow := hrow0.inc hi
  have hlen := hD.get_len n
  refine Spec.enter (args := [_, _, _]) (m := 49) Try.func20 rfl rfl (by decide +kernel) fun h0 => ?_
  refine WX.seq ?_
  refine WX.region rfl ?_
  refine WXL.assign Met.none rfl ?_
  refine WXL.nil ?_
  refine Fin.then_normal ?_
  refine WX.seq ?_
  refine WX.region rfl ?_
  refine WXL.move Met.none rfl ?_
  refine WXL.nilCheck Met.none rfl ?_
  first | refine WXL.fieldAddr Met.none rfl Try.underlying68 rfl sz66 rfl ?_ | refine WXL.faS Met.none rfl Try.underlying68 rfl sz66 ?_
  first | refine WXL.ld Met.none rfl agg66 ?_ | refine WXL.ldS Met.none rfl agg66 ?_
  refine WXL.move Met.none rfl ?_
  refine WXL.lookup Met.none rfl rfl mapT66 zero71 at_ (show _ = fileV fa (getF D.fs n).bs.length fc (getF D.fs n).d from hfv) ?_
  refine WXL.alloc (c := [_, _]) Met.none zero71 rfl (fun b7 => ?_)
  refine WXL.st (vs := [_, _]) (c' := [_, _]) (j := 0) Met.none rfl rfl rfl sz71 ?_ (hj := rfl)
  refine WXL.nil ?_
  refine Fin.then_normal ?_
  refine WX.seq ?_
  refine WX.seq ?_
  refine WX.region rfl ?_
  refine WXL.move Met.none rfl ?_
  refine WXL.cl (O1 := _) Met.none rfl (fnOk_of Try.func36 (by decide +kernel)) rfl (fun _ h => h) (exists_ok _ n) (fun v O' hp => ?_)
  obtain ⟨rfl, hO⟩ := hp
  subst O'
  refine WXL.not Met.none rfl ?_
  refine WXL.move Met.none rfl ?_
  refine WXL.split (d := 17) rfl (fun hg17 => ?_) (fun hg17 => ?_)
  · try simp only [cnd] at hg17
    refine WXL.miss (j := 3) (d := 17) rfl rfl rfl ?_
    refine WXL.miss (j := 3) (d := 17) rfl rfl rfl ?_
    refine WXL.pick_t Met.none rfl rfl ?_
    refine WXL.move Met.none rfl ?_
    refine WXL.miss (j := 7) (d := 21) rfl rfl rfl ?_
    refine WXL.miss (j := 7) (d := 21) rfl rfl rfl ?_
    refine WXL.miss (j := 7) (d := 21) rfl rfl rfl ?_
    refine WXL.miss (j := 7) (d := 21) rfl rfl rfl ?_
    refine WXL.miss (j := 7) (d := 21) rfl rfl rfl ?_
    refine WXL.pick_t Met.none rfl rfl ?_
    refine WXL.nil ?_
    refine Fin.then_normal ?_
    refine WX.cond rfl (fun hc0 => ?_) (fun hc0 => nomatch hc0)
    refine WX.seq ?_
    refine WX.region rfl ?_
    refine WXL.assign Met.none rfl ?_
    refine WXL.nil ?_
    refine Fin.then_normal ?_
    refine WX.ret ?_
    refine Fin.then_ret ?_
    first
    | exact Fin.result (O' := dkO d bm D mx R) (.inr rfl) rfl rfl drop_ (by unfold truncD; rw [if_pos (by omega)]; exact ⟨mx, rfl, rfl, hD⟩)
    | exact Fin.result (O' := dkO d bm D mx R) (.inr rfl) rfl rfl drop_ (by unfold truncD; rw [if_neg (by omega), if_pos (by assumption)]; exact ⟨mx, rfl, rfl, hD⟩)
    | exact Fin.result (O' := dkO d bm (stepD D).2 mx R) (.inr rfl) rfl rfl sub_ (by unfold truncD; rw [if_neg (by omega), if_neg (by simp [hg32]), if_pos (by simpa using hc1)]; exact ⟨mx, rfl, rfl, hD.step⟩)
    | exact Fin.result (O' := dkO d bm { (stepD D).2 with fs := setF D.fs n ⟨(getF D.fs n).bs.take k, min (getF D.fs n).d k⟩ } (setX mx n (fileV fa k k (min (getF D.fs n).d k)) k) R) (.inr rfl) rfl rfl drop_ (by
        unfold truncD
        rw [if_neg (by omega), if_neg (by simp [hg32]), if_neg (by simpa using hc1)]
        have hk : k ≤ (getF D.fs n).bs.length := by omega
        have hlk : ((getF D.fs n).bs.take k).length = k := by rw [List.length_take, Nat.min_eq_left hk]
        have hpre := hrow0.pre hk
        rw [Nat.mul_one, ← List.map_take] at hpre
        have hf : FileOk R0 (fileV fa k k (min (getF D.fs n).d k)) ⟨(getF D.fs n).bs.take k, min (getF D.fs n).d k⟩ := ⟨fa, k, by rw [hlk], by rw [hlk]; exact hpre, hpre.nil0, fun x hx => hB x (List.mem_of_mem_take hx)⟩
        obtain ⟨h1, h2⟩ := stepD_fs D
        have hgd := hD.get_d n
        have hs := hD.step.set n hf (by omega) ⟨by simp only; omega, by rw [hlk]; simp only; omega⟩ (by
          have := hD.used
          rw [h1, h2, hlk]
          omega)
        rw [hlk, h1] at hs
        exact ⟨_, rfl, rfl, hs⟩)
  · try simp only [cnd] at hg17
    refine WXL.move (Met.some rfl rfl rfl) rfl ?_
    refine WXL.bin (Met.some rfl rfl rfl) rfl rfl rfl ?_
    refine WXL.pick_f Met.none rfl rfl ?_
    refine WXL.move Met.none rfl ?_
    refine WXL.split (d := 21) rfl (fun hg21 => ?_) (fun hg21 => ?_)
    · try simp only [cnd] at hg21
      refine WXL.miss (j := 7) (d := 21) rfl rfl rfl ?_
      refine WXL.miss (j := 7) (d := 21) rfl rfl rfl ?_
      refine WXL.miss (j := 7) (d := 21) rfl rfl rfl ?_
      refine WXL.miss (j := 7) (d := 21) rfl rfl rfl ?_
      refine WXL.miss (j := 7) (d := 21) rfl rfl rfl ?_
      refine WXL.pick_t Met.none rfl rfl ?_
      refine WXL.nil ?_
      refine Fin.then_normal ?_
      refine WX.cond rfl (fun hc0 => ?_) (fun hc0 => nomatch hc0)
      refine WX.seq ?_
      refine WX.region rfl ?_
      refine WXL.assign Met.none rfl ?_
      refine WXL.nil ?_
      refine Fin.then_normal ?_
      refine WX.ret ?_
      refine Fin.then_ret ?_
      first
      | exact Fin.result (O' := dkO d bm D mx R) (.inr rfl) rfl rfl drop_ (by unfold truncD; rw [if_pos (by omega)]; exact ⟨mx, rfl, rfl, hD⟩)
      | exact Fin.result (O' := dkO d bm D mx R) (.inr rfl) rfl rfl drop_ (by unfold truncD; rw [if_neg (by omega), if_pos (by assumption)]; exact ⟨mx, rfl, rfl, hD⟩)
      | exact Fin.result (O' := dkO d bm (stepD D).2 mx R) (.inr rfl) rfl rfl sub_ (by unfold truncD; rw [if_neg (by omega), if_neg (by simp [hg32]), if_pos (by simpa using hc1)]; exact ⟨mx, rfl, rfl, hD.step⟩)
      | exact Fin.result (O' := dkO d bm { (stepD D).2 with fs := setF D.fs n ⟨(getF D.fs n).bs.take k, min (getF D.fs n).d k⟩ } (setX mx n (fileV fa k k (min (getF D.fs n).d k)) k) R) (.inr rfl) rfl rfl drop_ (by
          unfold truncD
          rw [if_neg (by omega), if_neg (by simp [hg32]), if_neg (by simpa using hc1)]
          have hk : k ≤ (getF D.fs n).bs.length := by omega
          have hlk : ((getF D.fs n).bs.take k).length = k := by rw [List.length_take, Nat.min_eq_left hk]
          have hpre := hrow0.pre hk
          rw [Nat.mul_one, ← List.map_take] at hpre
          have hf : FileOk R0 (fileV fa k k (min (getF D.fs n).d k)) ⟨(getF D.fs n).bs.take k, min (getF D.fs n).d k⟩ := ⟨fa, k, by rw [hlk], by rw [hlk]; exact hpre, hpre.nil0, fun x hx => hB x (List.mem_of_mem_take hx)⟩
          obtain ⟨h1, h2⟩ := stepD_fs D
          have hgd := hD.get_d n
          have hs := hD.step.set n hf (by omega) ⟨by simp only; omega, by rw [hlk]; simp only; omega⟩ (by
            have := hD.used
            rw [h1, h2, hlk]
            omega)
          rw [hlk, h1] at hs
          exact ⟨_, rfl, rfl, hs⟩)
    · try simp only [cnd] at hg21
      refine WXL.move (Met.some rfl rfl rfl) rfl ?_
      refine WXL.fieldAddr (off' := 0) (Met.some rfl rfl rfl) rfl Try.underlying71 rfl sz27 rfl ?_
      first | refine WXL.ld (Met.some rfl rfl rfl) rfl agg27 ?_ | refine WXL.ldS (Met.some rfl rfl rfl) rfl agg27 ?_
      refine WXL.len (Met.some rfl rfl rfl) rfl Try.underlying27 ?_
      refine WXL.bin (Met.some rfl rfl rfl) rfl rfl rfl ?_
      refine WXL.pick_f Met.none rfl rfl ?_
      refine WXL.nil ?_
      refine Fin.then_normal ?_
      refine WX.cond rfl (fun hc0 => ?_) (fun hc0 => ?_)
      · try simp only [cnd] at hc0
        refine WX.seq ?_
        refine WX.region rfl ?_
        refine WXL.assign Met.none rfl ?_
        refine WXL.nil ?_
        refine Fin.then_normal ?_
        refine WX.ret ?_
        refine Fin.then_ret ?_
        first
        | exact Fin.result (O' := dkO d bm D mx R) (.inr rfl) rfl rfl drop_ (by unfold truncD; rw [if_pos (by omega)]; exact ⟨mx, rfl, rfl, hD⟩)
        | exact Fin.result (O' := dkO d bm D mx R) (.inr rfl) rfl rfl drop_ (by unfold truncD; rw [if_neg (by omega), if_pos (by assumption)]; exact ⟨mx, rfl, rfl, hD⟩)
        | exact Fin.result (O' := dkO d bm (stepD D).2 mx R) (.inr rfl) rfl rfl sub_ (by unfold truncD; rw [if_neg (by omega), if_neg (by simp [hg32]), if_pos (by simpa using hc1)]; exact ⟨mx, rfl, rfl, hD.step⟩)
        | exact Fin.result (O' := dkO d bm { (stepD D).2 with fs := setF D.fs n ⟨(getF D.fs n).bs.take k, min (getF D.fs n).d k⟩ } (setX mx n (fileV fa k k (min (getF D.fs n).d k)) k) R) (.inr rfl) rfl rfl drop_ (by
            unfold truncD
            rw [if_neg (by omega), if_neg (by simp [hg32]), if_neg (by simpa using hc1)]
            have hk : k ≤ (getF D.fs n).bs.length := by omega
            have hlk : ((getF D.fs n).bs.take k).length = k := by rw [List.length_take, Nat.min_eq_left hk]
            have hpre := hrow0.pre hk
            rw [Nat.mul_one, ← List.map_take] at hpre
            have hf : FileOk R0 (fileV fa k k (min (getF D.fs n).d k)) ⟨(getF D.fs n).bs.take k, min (getF D.fs n).d k⟩ := ⟨fa, k, by rw [hlk], by rw [hlk]; exact hpre, hpre.nil0, fun x hx => hB x (List.mem_of_mem_take hx)⟩
            obtain ⟨h1, h2⟩ := stepD_fs D
            have hgd := hD.get_d n
            have hs := hD.step.set n hf (by omega) ⟨by simp only; omega, by rw [hlk]; simp only; omega⟩ (by
              have := hD.used
              rw [h1, h2, hlk]
              omega)
            rw [hlk, h1] at hs
            exact ⟨_, rfl, rfl, hs⟩)
      · try simp only [cnd] at hc0
        refine WX.skip ?_
        refine Fin.then_normal ?_
        refine WX.seq ?_
        refine WX.seq ?_
        refine WX.region rfl ?_
        refine WXL.move Met.none rfl ?_
        refine WXL.nilCheck Met.none rfl ?_
        first | refine WXL.fieldAddr Met.none rfl Try.underlying68 rfl sz4 rfl ?_ | refine WXL.faS Met.none rfl Try.underlying68 rfl sz4 ?_
        first | refine WXL.ld Met.none rfl agg4 ?_ | refine WXL.ldS Met.none rfl agg4 ?_
        refine WXL.move Met.none rfl ?_
        refine WXL.split (d := 32) rfl (fun hg32 => ?_) (fun hg32 => ?_)
        · try simp only [cnd] at hg32
          refine WXL.miss (j := 4) (d := 32) rfl rfl rfl ?_
          refine WXL.miss (j := 4) (d := 32) rfl rfl rfl ?_
          refine WXL.miss (j := 4) (d := 32) rfl rfl rfl ?_
          refine WXL.pick_t Met.none rfl rfl ?_
          refine WXL.nil ?_
          refine Fin.then_normal ?_
          refine WX.cond rfl (fun hc1 => ?_) (fun hc1 => nomatch hc1)
          refine WX.seq ?_
          refine WX.region rfl ?_
          refine WXL.assign Met.none rfl ?_
          refine WXL.nil ?_
          refine Fin.then_normal ?_
          refine WX.ret ?_
          refine Fin.then_ret ?_
          first
          | exact Fin.result (O' := dkO d bm D mx R) (.inr rfl) rfl rfl drop_ (by unfold truncD; rw [if_pos (by omega)]; exact ⟨mx, rfl, rfl, hD⟩)
          | exact Fin.result (O' := dkO d bm D mx R) (.inr rfl) rfl rfl drop_ (by unfold truncD; rw [if_neg (by omega), if_pos (by assumption)]; exact ⟨mx, rfl, rfl, hD⟩)
          | exact Fin.result (O' := dkO d bm (stepD D).2 mx R) (.inr rfl) rfl rfl sub_ (by unfold truncD; rw [if_neg (by omega), if_neg (by simp [hg32]), if_pos (by simpa using hc1)]; exact ⟨mx, rfl, rfl, hD.step⟩)
          | exact Fin.result (O' := dkO d bm { (stepD D).2 with fs := setF D.fs n ⟨(getF D.fs n).bs.take k, min (getF D.fs n).d k⟩ } (setX mx n (fileV fa k k (min (getF D.fs n).d k)) k) R) (.inr rfl) rfl rfl drop_ (by
              unfold truncD
              rw [if_neg (by omega), if_neg (by simp [hg32]), if_neg (by simpa using hc1)]
              have hk : k ≤ (getF D.fs n).bs.length := by omega
              have hlk : ((getF D.fs n).bs.take k).length = k := by rw [List.length_take, Nat.min_eq_left hk]
              have hpre := hrow0.pre hk
              rw [Nat.mul_one, ← List.map_take] at hpre
              have hf : FileOk R0 (fileV fa k k (min (getF D.fs n).d k)) ⟨(getF D.fs n).bs.take k, min (getF D.fs n).d k⟩ := ⟨fa, k, by rw [hlk], by rw [hlk]; exact hpre, hpre.nil0, fun x hx => hB x (List.mem_of_mem_take hx)⟩
              obtain ⟨h1, h2⟩ := stepD_fs D
              have hgd := hD.get_d n
              have hs := hD.step.set n hf (by omega) ⟨by simp only; omega, by rw [hlk]; simp only; omega⟩ (by
                have := hD.used
                rw [h1, h2, hlk]
                omega)
              rw [hlk, h1] at hs
              exact ⟨_, rfl, rfl, hs⟩)
        · try simp only [cnd] at hg32
          refine WXL.move (Met.some rfl rfl rfl) rfl ?_
          refine WXL.cl (O1 := dkO d bm D mx ((b7, ⟨0, false, [.slice fa (getF D.fs n).bs.length fc, I (getF D.fs n).d]⟩) :: R)) (Met.some rfl rfl rfl) rfl (fnOk_of Try.func39 (by decide +kernel)) rfl sub_ (step_ok _ d bm D mx hD.left) (fun v O' hp => ?_)
          obtain ⟨rfl, hO⟩ := hp
          subst O'
          refine WXL.not (Met.some rfl rfl rfl) rfl ?_
          refine WXL.pick_f Met.none rfl rfl ?_
          refine WXL.nil ?_
          refine Fin.then_normal ?_
          refine WX.cond rfl (fun hc1 => ?_) (fun hc1 => ?_)
          · try simp only [cnd] at hc1
            refine WX.seq ?_
            refine WX.region rfl ?_
            refine WXL.assign Met.none rfl ?_
            refine WXL.nil ?_
            refine Fin.then_normal ?_
            refine WX.ret ?_
            refine Fin.then_ret ?_
            first
            | exact Fin.result (O' := dkO d bm D mx R) (.inr rfl) rfl rfl drop_ (by unfold truncD; rw [if_pos (by omega)]; exact ⟨mx, rfl, rfl, hD⟩)
            | exact Fin.result (O' := dkO d bm D mx R) (.inr rfl) rfl rfl drop_ (by unfold truncD; rw [if_neg (by omega), if_pos (by assumption)]; exact ⟨mx, rfl, rfl, hD⟩)
            | exact Fin.result (O' := dkO d bm (stepD D).2 mx R) (.inr rfl) rfl rfl sub_ (by unfold truncD; rw [if_neg (by omega), if_neg (by simp [hg32]), if_pos (by simpa using hc1)]; exact ⟨mx, rfl, rfl, hD.step⟩)
            | exact Fin.result (O' := dkO d bm { (stepD D).2 with fs := setF D.fs n ⟨(getF D.fs n).bs.take k, min (getF D.fs n).d k⟩ } (setX mx n (fileV fa k k (min (getF D.fs n).d k)) k) R) (.inr rfl) rfl rfl drop_ (by
                unfold truncD
                rw [if_neg (by omega), if_neg (by simp [hg32]), if_neg (by simpa using hc1)]
                have hk : k ≤ (getF D.fs n).bs.length := by omega
                have hlk : ((getF D.fs n).bs.take k).length = k := by rw [List.length_take, Nat.min_eq_left hk]
                have hpre := hrow0.pre hk
                rw [Nat.mul_one, ← List.map_take] at hpre
                have hf : FileOk R0 (fileV fa k k (min (getF D.fs n).d k)) ⟨(getF D.fs n).bs.take k, min (getF D.fs n).d k⟩ := ⟨fa, k, by rw [hlk], by rw [hlk]; exact hpre, hpre.nil0, fun x hx => hB x (List.mem_of_mem_take hx)⟩
                obtain ⟨h1, h2⟩ := stepD_fs D
                have hgd := hD.get_d n
                have hs := hD.step.set n hf (by omega) ⟨by simp only; omega, by rw [hlk]; simp only; omega⟩ (by
                  have := hD.used
                  rw [h1, h2, hlk]
                  omega)
                rw [hlk, h1] at hs
                exact ⟨_, rfl, rfl, hs⟩)
          · try simp only [cnd] at hc1
            refine WX.skip ?_
            refine Fin.then_normal ?_
            refine WX.seq ?_
            obtain ⟨k, rfl⟩ : ∃ k : Nat, size = (k : Int) := ⟨size.toNat, by omega⟩
            refine WX.draw rfl ?_
            refine WXL.move Met.none rfl ?_
            refine WXL.move Met.none rfl ?_
            refine WXL.fieldAddr (off' := 0) Met.none rfl Try.underlying71 rfl sz27 rfl ?_
            first | refine WXL.ld Met.none rfl agg27 ?_ | refine WXL.ldS Met.none rfl agg27 ?_
            refine WXL.move Met.none rfl ?_
            refine WXL.pre (m := k) Met.none rfl rfl elem27 sz5 (Rowy.cons (Rowy.cons (Rowy.cons hrow))) hnil ?_
            refine WXL.fieldAddr (off' := 1) Met.none rfl Try.underlying71 rfl sz3 rfl ?_
            first | refine WXL.ld Met.none rfl agg3 ?_ | refine WXL.ldS Met.none rfl agg3 ?_
            refine WXL.move Met.none rfl ?_
            refine WXL.min Met.none rfl rfl ?_
            refine WXL.build (c := [_, _]) Met.none rfl zero71 places71 rfl ?_
            refine WXL.cl (O1 := dkO d bm (stepD D).2 mx R) Met.none rfl (fnOk_of Try.func38 (by decide +kernel)) rfl sub_ (set_ok R d bm (stepD D).2 mx n fa k k (min (getF D.fs n).d k)) (fun v O' hp => ?_)
            obtain rfl := hp
            refine WXL.nil ?_
            refine Fin.then_normal ?_
            refine WX.seq ?_
            refine WX.region rfl ?_
            refine WXL.assign Met.none rfl ?_
            refine WXL.nil ?_
            refine Fin.then_normal ?_
            refine WX.ret ?_
            first
            | exact Fin.result (O' := dkO d bm D mx R) (.inr rfl) rfl rfl drop_ (by unfold truncD; rw [if_pos (by omega)]; exact ⟨mx, rfl, rfl, hD⟩)
            | exact Fin.result (O' := dkO d bm D mx R) (.inr rfl) rfl rfl drop_ (by unfold truncD; rw [if_neg (by omega), if_pos (by assumption)]; exact ⟨mx, rfl, rfl, hD⟩)
            | exact Fin.result (O' := dkO d bm (stepD D).2 mx R) (.inr rfl) rfl rfl sub_ (by unfold truncD; rw [if_neg (by omega), if_neg (by simp [hg32]), if_pos (by simpa using hc1)]; exact ⟨mx, rfl, rfl, hD.step⟩)
            | exact Fin.result (O' := dkO d bm { (stepD D).2 with fs := setF D.fs n ⟨(getF D.fs n).bs.take k, min (getF D.fs n).d k⟩ } (setX mx n (fileV fa k k (min (getF D.fs n).d k)) k) R) (.inr rfl) rfl rfl drop_ (by
                unfold truncD
                rw [if_neg (by omega), if_neg (by simp [hg32]), if_neg (by simpa using hc1)]
                have hk : k ≤ (getF D.fs n).bs.length := by omega
                have hlk : ((getF D.fs n).bs.take k).length = k := by rw [List.length_take, Nat.min_eq_left hk]
                have hpre := hrow0.pre hk
                rw [Nat.mul_one, ← List.map_take] at hpre
                have hf : FileOk R0 (fileV fa k k (min (getF D.fs n).d k)) ⟨(getF D.fs n).bs.take k, min (getF D.fs n).d k⟩ := ⟨fa, k, by rw [hlk], by rw [hlk]; exact hpre, hpre.nil0, fun x hx => hB x (List.mem_of_mem_take hx)⟩
                obtain ⟨h1, h2⟩ := stepD_fs D
                have hgd := hD.get_d n
                have hs := hD.step.set n hf (by omega) ⟨by simp only; omega, by rw [hlk]; simp only; omega⟩ (by
                  have := hD.used
                  rw [h1, h2, hlk]
                  omega)
                rw [hlk, h1] at hs
                exact ⟨_, rfl, rfl, hs⟩)

end Go.Proofs.Ytahaplbdhgfobaa.Eng

set_option linter.unusedVariables false
set_option linter.unusedSimpArgs false
set_option maxRecDepth 4000
namespace Go.Proofs.Ytahaplbdhgfobaa.Eng
open Go Go.Proofs Go.ChangeShapes Go.WideShapes Go.RowKit

def sortK (l : List Int) : List Int := l.mergeSort fun x y => decide (x ≤ y)
def keysX (mx : MapX) : List Int := mx.es.map (·.1)

/-! ### 1. The library at the model -/
abbrev anyR : Value → Option (DataW Unit × List MemPlace) := fun _ => some (.nil, [])

theorem pair_keys {ι : Lay} {c : List (Int × Nat × Value)} : ∀ {es : List MapEntry}, PairRel ι (mflat c) es → es.map (·.key) = c.map fun e => I e.1 := by
  induction c with
  | nil => intro es hp; cases hp; rfl
  | cons p c ih =>
    obtain ⟨k, n, v⟩ := p
    intro es hp
    unfold mflat at hp
    generalize hX : I k :: I n :: v :: mflat c = X at hp
    cases hp with
    | nil => cases hX
    | cons h1 h2 h3 h4 =>
      rename_i c3 e2 es2
      injection hX with q1 q2
      injection q2 with q3 q4
      injection q4 with q5 q6
      subst q1 q5 q6
      rw [List.map_cons, List.map_cons, ih h4, h1]

theorem wf_small {k : Int} (h : 0 ≤ k ∧ k < 64) : (Lit.int .i64 k).wf = true := by
  simp only [Lit.wf, Bool.and_eq_true, decide_eq_true_eq]
  have h1 : IntKind.i64.min = -9223372036854775808 := rfl
  have h2 : IntKind.i64.max = 9223372036854775807 := rfl
  omega

theorem owns_map {w : World} {B : Nat} {es : Array MapEntry} {clock : Nat} {ks : List Int} (hb : w.heap[B]? = some (.map es clock)) (hk : es.toList.map (·.key) = ks.map I) (hn : ks.Nodup) (hr : ∀ k ∈ ks, 0 ≤ k ∧ k < 64) (hl : ks.length ≤ 16777216)
    (h1 : ∀ en ∈ es.toList, en.born < clock) (h2 : es.toList.Pairwise fun x y => x.born < y.born) :
    ∃ D0 : DataW Unit, w.ownsMap Try.prog 3 anyR B es.size D0 ∧ (intKeys D0).Perm ks ∧ Maps.size D0 = ks.length := by
  have hlen : es.size = ks.length := by
    have := congrArg List.length hk
    simpa using this
  have hread : ∀ x ∈ es.toList, ∃ k ∈ ks, x.key = I k ∧ WideElems.rd Try.prog 3 anyR x = some (.int .i64 k, .nil) := fun x hx => by
    have hm : x.key ∈ ks.map I := by rw [← hk]; exact List.mem_map.2 ⟨x, hx, rfl⟩
    obtain ⟨k, hk1, hk2⟩ := List.mem_map.1 hm
    have hkey : keyOf Try.prog 3 (I k) = some (.int .i64 k) := Maps.keyOf_int_mk Try.underlying3 (wf_small (hr k hk1))
    refine ⟨k, hk1, hk2.symm, ?_⟩
    simp only [WideElems.rd, ← hk2, hkey, anyR, Option.bind_some, Option.map_some]
  refine ⟨_, ⟨es, clock, hb, ⟨by rw [hlen]; exact Nat.le_trans hl (by decide), ⟨h1, ?_, ?_⟩, fun x hx => ?_⟩, Nat.le_refl _, rfl⟩, ?_, ?_⟩
  · exact (List.pairwise_map.2 h2).imp fun q => Nat.ne_of_lt q
  · rw [hk]
    exact List.pairwise_map.2 (hn.imp fun q e => q (by injection e))
  · obtain ⟨k, _, _, h⟩ := hread x hx
    exact ⟨_, h⟩
  · show (((es.toList.map (WideElems.rg Try.prog 3 anyR)).foldr DataW.insert []).map fun p => Go.intOf p.1).Perm ks
    refine ((WideShapes.sorted_perm _).map _).trans ?_
    rw [List.map_map]
    have e1 : es.toList.map ((fun p : Lit × DataW Unit => Go.intOf p.1) ∘ WideElems.rg Try.prog 3 anyR) = es.toList.map fun x => (match x.key with | .int _ k => k | _ => 0) := List.map_congr_left fun x hx => by
      obtain ⟨k, _, h3, h4⟩ := hread x hx
      simp only [Function.comp, WideElems.rg, h4, Option.getD_some, h3]
      rfl
    have e2 : (es.toList.map fun x => (match x.key with | .int _ k => k | _ => 0)) = (es.toList.map (·.key)).map fun v => (match v with | .int _ k => k | _ => 0) := by rw [List.map_map]; rfl
    rw [e1, e2, hk, List.map_map]
    have e3 : ks.map ((fun v : Value => (match v with | .int _ k => k | _ => 0)) ∘ I) = ks := by
      rw [show ((fun v : Value => (match v with | .int _ k => k | _ => 0)) ∘ I) = id from rfl, List.map_id]
    rw [e3]
  · show ((es.toList.map (WideElems.rg Try.prog 3 anyR)).foldr DataW.insert []).length = _
    rw [(WideShapes.sorted_perm _).length_eq, List.length_map, Array.length_toList, hlen]

theorem sorts_in (m : Nat) : AnyZI.SortsIn Try.prog sortedA_ren Fence.wide m :=
  ⟨fun blk off cap ss W hH hblk hsz => callsIn_wide.2 (AnyM.slices_Sort_int sortA blk off cap ss W hH hblk hsz),
   fun p cap W => callsIn_wide.2 (AnyM.slices_Sort_int_none sortA p cap W)⟩

theorem keys_calls (B : Nat) (w : World) : Calls Try.prog 54 #[.map (some B)] w fun e w' => e = .returned (.func (.func 62) #[] #[.pointer (some ⟨w.heap.size, 0, none⟩)]) ∧ w' = w.alloc (.cells #[.map (some B)] 66) :=
  (callsIn_wide (n := 5)).1 (AnyZI.keys_in keysA Fence.wide 5 trivial rfl (some B) w)

theorem sorted_calls {w : World} {B : Nat} {es : Array MapEntry} {clock : Nat} {ks : List Int} (hb : w.heap[B]? = some (.map es clock)) (hk : es.toList.map (·.key) = ks.map I) (hn : ks.Nodup) (hr : ∀ k ∈ ks, 0 ≤ k ∧ k < 64) (hl : ks.length ≤ 16777216)
    (h1 : ∀ en ∈ es.toList, en.born < clock) (h2 : es.toList.Pairwise fun x y => x.born < y.born) :
    Calls Try.prog 53 #[.func (.func 62) #[] #[.pointer (some ⟨w.heap.size, 0, none⟩)]] (w.alloc (.cells #[.map (some B)] 66)) fun e w' => ∃ v, e = .returned v ∧
      w'.ownsRow (w.heap.size + 1) 3 1 v ks.length ((sortK ks).map I) ∧ (v = .slice none 0 0 ↔ ks = []) ∧ Below (w.heap.size + 1) (w.alloc (.cells #[.map (some B)] 66)) w' := by
  have hB : B < w.heap.size := (Array.getElem?_eq_some_iff.1 hb).1
  have hb' : (w.alloc (.cells #[.map (some B)] 66)).heap[B]? = some (.map es clock) := (Below.heap_alloc _ _ B hB).trans hb
  obtain ⟨D0, hown, hperm, hsize⟩ := owns_map hb' hk hn hr hl h1 h2
  have hseq : SeqGives Fence.wide 2 Try.prog 62 #[.pointer (some ⟨w.heap.size, 0, none⟩)] encZ (fun ss => ss.Perm (intKeys D0)) (Maps.size D0) (w.alloc (.cells #[.map (some B)] 66)) :=
    AnyZI.keys_gives (ρ := keysA_ren) { keysA with } Fence.wide _ trivial rfl (by omega) w.heap.size B es.size D0 _ (by simp) (by simp) hown
  have cS := AnyZI.sorted_in sortedA Fence.wide 5 trivial trivial trivial trivial rfl (by omega) (sorts_in _) (enters_of Try.func61 (by kernel_rfl) rfl) 62 #[.pointer (some ⟨w.heap.size, 0, none⟩)] trivial (enters_of Try.func62 (by kernel_rfl) rfl) _ _ (by rw [hsize]; exact Nat.le_trans hl (by decide)) (by rw [hsize]; omega) _ hseq
  change CallsIn _ _ Try.prog 53 _ _ _ at cS
  refine ((callsIn_wide (n := 5)).1 cS).mono ?_
  rintro e w' ⟨v, ss, rfl, hS, hrow, hnil, hbl⟩
  have hp : ss.Perm ks := hS.trans hperm
  have hsz : (w.alloc (.cells #[.map (some B)] 66)).heap.size = w.heap.size + 1 := by simp
  rw [hsz] at hrow hbl
  rw [show ss.mergeSort (fun x y => decide (x ≤ y)) = sortK ks from mergeSort_of_perm_i hp, hp.length_eq] at hrow
  exact ⟨v, rfl, hrow, by rw [hnil]; exact ⟨fun q => by subst q; exact hp.symm.eq_nil, fun q => by subst q; exact hp.eq_nil⟩, hbl⟩

/-! ### 2. Calls and parts of regions, by hand -/
theorem ops_call {P : Program} {w : World} {ops : Array Oper} {i : Nat} {rest : List Nat} {a : Act} {Q : Exit → Act → World → Prop} {dst : Option Tmp} {f : FuncId} {fn : Func} {gargs : Array Operand} {ts : Array TypeId} {t : TypeId} {p : String} {af : Array Edge} {args : Array Value}
    (ho : ops[i]? = some { dst := dst, op := .call { callee := .value (.func f), args := gargs, argTypes := ts }, type := t, pos := p, after := af, guard := none }) (hf : P.funcs[f]? = some fn) (hb : (fn.body.isSome && fn.name != "runtime.NumGoroutine") = true) (hargs : gargs.map a.eval = args)
    (hc : Calls P f args w fun e w' => ∃ v, e = .returned v ∧ wpOpsIn (FR none) 0 P ops Q rest (a.put dst v) w') : wpOpsIn (FR none) 0 P ops Q (i :: rest) a w := by
  simp only [Bool.and_eq_true] at hb
  rw [wpOpsIn_cons]
  unfold wpOpIn
  simp only [ho]
  have hwant : Region.wanted { dst := dst, op := .call { callee := .value (.func f), args := gargs, argTypes := ts }, type := t, pos := p, after := af, guard := none } (yielded ops a.tmps) = true := rfl
  rw [hwant, if_pos rfl]
  refine ⟨fun _ _ => trivial, ?_⟩
  rw [Oper.semAt_eq _ _ _ (fun c hc => by cases hc)]
  have hrun : (execOp a.eval { dst := dst, op := .call { callee := .value (.func f), args := gargs, argTypes := ts }, type := t, pos := p, after := af, guard := none }).run P w = .ok (.enter f args) w := by
    have hga : a.eval (.func f) = .func (.func f) #[] #[] := rfl
    have e1 : (fn.name == "runtime.NumGoroutine") = false := by simpa using hb.2
    have e2 : fn.body.isNone = false := by
      have := hb.1
      cases hb0 : fn.body with
      | none => rw [hb0] at this; cases this
      | some c => rfl
    simp only [execOp, resolve, hga, hargs, Deferred.ofValue, Sem.run_bind, Sem.run_pure, Result.andThen_ok, invoke, callFunc, run_program, hf, e1, e2]
    simp
  rw [hrun]
  simp only [Oper.uponIn]
  refine ⟨fun hd => by simp [FR, Fence.wide] at hd, ?_⟩
  have hin : CallsIn (FR none) 0 P f args w _ := callsIn_wide.2 hc
  refine hin.mono fun e w' ⟨v, he, h⟩ => ?_
  subst he
  exact h

theorem exec_assign {P : Program} {w : World} {o : Oper} {ρ : Operand → Value} {y : Operand} {v : Value} (ho : o.op = .assign y) (hy : ρ y = v) : (execOp ρ o).run P w = .ok (.value v) w := by
  subst hy
  unfold execOp
  rw [ho]
  rfl

/-- The first operations of a region; the others by hand. -/
theorem At.pre {P : Program} {x : Cx} {L L1 : Tmps} {O O1 : Objs} {base : Nat} {ι0 : Lay} {h0 : AHeap} {w0 w : World} {D : List Deferred} {a : Act} {Q : Exit → Act → World → Prop} (hm : P.follows .mixedOrders = true) (hr0 : HRel base ι0 h0 w0) (hat : At x L O base ι0 h0 w0 D a w) {pl : List Oper} {ops : Array Oper} {i0 : Nat} {rest : List Nat}
    (hx : x.ρ = .late) (n : Nat) (hops1 : ops.toList.take n = pl) (hn : pl.length = n) (hsz : List.range ops.size = List.range' 0 n ++ rest) (hreg : regOk ops x.m = true) (hpre : WXL P x ops noMk 0 pl L O (fun s => St x L1 O1 s))
    (h : ∀ a w, At x L1 O1 base ι0 h0 w0 D a w → wpOpsIn (FR none) 0 P ops Q rest a w) : (Code.region i0 ops false).wpIn (FR none) 0 P Q a w := by
  obtain ⟨ι, s, g1, g2, g3, g4, g5, g6⟩ := hat
  refine wpIn_region ?_
  rw [hsz, ← hn]
  refine WXL.wp hm hpre hx ⟨ops.toList.drop n, by rw [List.drop_zero, ← hops1, List.take_append_drop]⟩ rest hreg g1 g2 fun s2 ι2 a2 w2 hK r1 r2 r3 r4 r5 r6 => ?_
  exact h a2 w2 ⟨ι2, s2, hK, r1, More.trans hr0 g2.heap g3 r2 g4.size, Keep0.trans hr0 g2.heap g3 r2 g4 r3, r4.trans g5, g6.trans r6⟩

/-! ### 3. Files -/
def filesV (n : Nat) (mx : MapX) : Value := if keysX mx = [] then .slice none 0 0 else .slice (some ⟨n, 0, none⟩) (keysX mx).length (keysX mx).length
def filesH (h : AHeap) (mx : MapX) : AHeap := if keysX mx = [] then h else h.new (.cells 1 false h.n none 0 ((sortK (keysX mx)).map I))

theorem files_sem {h : AHeap} {d bm : Nat} {ro1 ro2 off armed : Bool} {room lft : Int} {mx : MapX} (h1 : Is h d ⟨0, ro1, dObj bm room off armed lft⟩) (h2 : Is h bm ⟨2, ro2, mcells mx⟩) (hk : (keysX mx).Nodup) (hr : ∀ k ∈ keysX mx, 0 ≤ k ∧ k < 64) (hl : (keysX mx).length ≤ 16777216) :
    ∀ ρ, CallSem Try.prog ρ 41 #[Ptr d 0] h (filesV h.n mx) (filesH h mx) := by
  have hm : Try.prog.follows .mixedOrders = true := Checked.mixed Try.checked
  refine callSem_of Try.func41 rfl ?_
  intro base ι w a hs hd
  have hr1 : HRel base ι h w := hs.heap
  obtain ⟨g, hg⟩ : ∃ g, g = h.rox fun _ => true := ⟨_, rfl⟩
  have hr0 : HRel base ι g w := by rw [hg]; exact hr1.rox _
  have i1 : Is g d ⟨0, true, dObj bm room off armed lft⟩ := by rw [hg]; exact h1.rox _
  have i2 : Is g bm ⟨2, true, mcells mx⟩ := by rw [hg]; exact h2.rox _
  have hat : At ⟨9, false, h, .late⟩ (argsL [Ptr d 0] 0) (dO d bm true true room off armed lft mx) base ι g w [] a w :=
    ⟨ι, enterA Try.f41 #[Ptr d 0] g, ⟨rfl, has_args _ 0 fun j v hj => by simp [enterA, Array.getD_eq_getD_getElem?, hj], sat2 hr0.heapWF i1 i2 (by intro q; cases q), fun q => by cases q⟩, ⟨hs.size, hs.tmps, hr0, hs.base⟩, More.refl hr0, KeepsBy.zero (Keeps.refl ι _ w), hd, Stay.refl _⟩
  refine At.seq (L1 := [(2, .slice none 0 0), (0, Ptr d 0)]) (O1 := dO d bm true true room off armed lft mx) hm hr0 hat rfl (show codeOk 9 _ = true by decide +kernel) ?_ (fun a1 w1 hat1 => ?_)
  refine WX.region rfl ?_
  refine WXL.assign Met.none rfl ?_
  refine WXL.nilK ?_
  exact fun s hs => ⟨rfl, hs.tl [0, 1] 2⟩
  refine wpIn_seq (At.pre (L1 := [(6, Mp bm)]) (O1 := dO d bm true true room off armed lft mx) (rest := [4, 5, 6]) hm hr0 hat1 rfl 4 rfl rfl rfl (show regOk _ 9 = true by decide +kernel) ?_ (fun a2 w2 hat2 => ?_))
  · skip
    refine WXL.move Met.none rfl ?_
    refine WXL.nilCheck Met.none rfl ?_
    first | refine WXL.fieldAddr Met.none rfl Try.underlying68 rfl sz66 rfl ?_ | refine WXL.faS Met.none rfl Try.underlying68 rfl sz66 ?_
    first | refine WXL.ld Met.none rfl agg66 ?_ | refine WXL.ldS Met.none rfl agg66 ?_
    refine WXL.nilK ?_
    exact (fun s hs => hs.tl [0, 1] 2)
  obtain ⟨ι2, s2, q1, q2, q3, q4, q5, q6⟩ := hat2
  have hold : ∀ b, b < h.n → s2.h.o b = g.o b := fun b hb => q6.2 b (by rw [hg]; exact hb) (by rw [hg]; show isRo (mkro (h.o b)) = true; cases h.o b <;> rfl)
  have hblk : ∀ B, B < w.heap.size → w2.heap[B]? = w.heap[B]? := fun B hB => q4.block B hB fun b e r1 r2 => .inl (hold b (hr1.lt b e r1))
  obtain ⟨f2, k2, o2⟩ := q1.sat.at (j := 1) (b := bm) (x := ⟨2, true, mcells mx⟩) rfl
  have hrel := operand_rel (x := .tmp 6) q2.tmps rfl
  rw [q1.t.ev (y := .tmp 6) rfl] at hrel
  obtain ⟨em, r1, r2, r3⟩ := map_inv hrel
  obtain ⟨hone, es, clock, hes, c, hc0, hp, hp2, hp3⟩ := q2.heap.maps bm em _ _ _ _ _ _ r1 r2 o2
  unfold mcells at hc0
  injection hc0 with e1 e2
  subst e2
  have hkeys : es.toList.map (·.key) = (keysX mx).map I := by rw [pair_keys hp]; unfold keysX; rw [List.map_map]; rfl
  have hs2 : a2.tmps.size = 9 := q2.size.trans q1.m
  refine ops_call rfl Try.func54 (by decide +kernel) (args := #[.map (some em.block)]) (by simp [r3]) ((keys_calls em.block w2).mono ?_)
  rintro e w3 ⟨rfl, rfl⟩
  refine ⟨_, rfl, ?_⟩
  refine ops_call rfl Try.func53 (by decide +kernel) (args := #[.func (.func 62) #[] #[.pointer (some ⟨w2.heap.size, 0, none⟩)]]) ?_ ((sorted_calls hes hkeys hk hr hl hp2 hp3).mono ?_)
  · have e7 : ∀ v, (a2.put (some 7) v).eval (.tmp 7) = v := fun v => by
      show (a2.put (some 7) v).tmps.getD 7 undef = v
      rw [put_getD hs2 (by intro d hd; cases hd; decide), if_pos rfl]
    simp [e7]
  rintro e w4 ⟨v, rfl, hrow, hnil, hbl⟩
  refine ⟨v, rfl, ?_⟩
  obtain ⟨F7, hF7⟩ : ∃ F7 : Value, F7 = .func (.func 62) #[] #[.pointer (some ⟨w2.heap.size, 0, none⟩)] := ⟨_, rfl⟩
  rw [← hF7]
  have hs3 : (a2.put (some 7) F7).tmps.size = 9 := by simp [Act.put, hs2]
  have hs4 : ((a2.put (some 7) F7).put (some 8) v).tmps.size = 9 := by simp [Act.put, hs2]
  have e8 : ((a2.put (some 7) F7).put (some 8) v).eval (.tmp 8) = v := by
    show ((a2.put (some 7) F7).put (some 8) v).tmps.getD 8 undef = v
    rw [put_getD hs3 (by intro d hd; cases hd; decide), if_pos rfl]
  refine opsIn_value rfl rfl (fun c h => by cases h) (w1 := w4) (v := v) (exec_assign (y := .tmp 8) rfl e8) ?_
  refine wpIn_ret ⟨.inr rfl, ?_⟩
  have e2 : (((a2.put (some 7) F7).put (some 8) v).put (some 2) v).tmps.getD 2 undef = v := by
    rw [put_getD hs4 (by intro d hd; cases hd; decide), if_pos rfl]
  have hres : (results Try.f41 (((a2.put (some 7) F7).put (some 8) v).put (some 2) v).tmps).run Try.prog w4 = .ok v w4 := by
    obtain ⟨tm, htm⟩ : ∃ tm, tm = (((a2.put (some 7) F7).put (some 8) v).put (some 2) v).tmps := ⟨_, rfl⟩
    rw [← htm] at e2 ⊢
    have : results Try.f41 tm = pure (tm.getD 2 undef) := by
      simp [results, Try.f41]
    rw [this, e2]
    rfl
  have hsz2 : (w2.alloc (.cells #[.map (some em.block)] 66)).heap.size = w2.heap.size + 1 := by simp
  have hsz : w.heap.size ≤ w4.heap.size := by
    have h3 := hbl.size
    have h4 := q4.size
    omega
  have hb4 : ∀ B, B < w.heap.size → w4.heap[B]? = w.heap[B]? := fun B hB => by
    have h4 := q4.size
    rw [hbl.block B (by omega), Below.heap_alloc _ _ B (by omega), hblk B hB]
  have ho4 : w4.os = w.os ∧ w4.tape = w.tape ∧ w4.output = w.output := ⟨by rw [hbl.os]; exact q4.os, by rw [hbl.tape]; exact q4.tape, by rw [hbl.output]; exact q4.output⟩
  have hr4 : HRel base ι h w4 := hr1.pre hsz hb4
  refine ⟨q5, ?_⟩
  by_cases hk0 : keysX mx = []
  · have hv := hnil.2 hk0
    subst hv
    unfold filesV filesH
    rw [if_pos hk0, if_pos hk0]
    exact ⟨ι, _, hres, More.refl hr1, .atom rfl, hr4, Keep0.grow ho4.1 ho4.2.1 ho4.2.2 hsz hb4⟩
  · unfold filesV filesH
    rw [if_neg hk0, if_neg hk0]
    rcases hrow.2 with ⟨h0, _⟩ | ⟨g', cap, cur, hv, hgb, hg', hn1, hcap, hcs, htake⟩
    · exact absurd (hnil.1 h0) hk0
    have h4 := q4.size
    have hg4 : g' < w4.heap.size := (Array.getElem?_eq_some_iff.1 hg').1
    have hcell : ∀ i, w4.cell? ⟨g', i, none⟩ = cur[i]? := fun i => by unfold World.cell?; simp only [hg']; rfl
    have hfro : ∀ i, w4.frozen? ⟨g', i, none⟩ = false := fun i => by unfold World.frozen?; simp only [hg']; simp
    have hsl : (sortK (keysX mx)).length = (keysX mx).length := List.length_mergeSort _
    rw [Nat.mul_one] at hcs htake
    have hT : Turned w w4 fun _ _ => False := ⟨ho4.1, ho4.2.1, ho4.2.2, hsz, fun B hB _ => hb4 B hB, fun B o u hc _ => by rw [(cell_eq (hb4 B (cell_lt hc))).1]; exact hc, fun B o u hc => ⟨⟨u, by rw [(cell_eq (hb4 B (cell_lt hc))).1]; exact hc⟩, (cell_eq (hb4 B (cell_lt hc))).2⟩⟩
    obtain ⟨n1, n2, n3⟩ := new_ok' hr1 hs.base hT (en := ⟨g', 0, cap, 1, false⟩) (sz := 1) (cn := (sortK (keysX mx)).map I) ⟨by show w.heap.size ≤ g'; omega, hg4⟩ rfl (fun _ => by rw [List.length_map, hsl]; exact hn1) (fun _ x hx => by
        obtain ⟨k, _, rfl⟩ := List.mem_map.1 hx; rfl) (fun _ i v hi => ⟨v, by
          rw [← htake] at hi
          have hi2 : i < (keysX mx).length := by
            have h5 := (List.getElem?_eq_some_iff.1 hi).1
            rw [List.length_take] at h5
            omega
          rw [List.getElem?_take_of_lt hi2, Array.getElem?_toList] at hi
          show w4.cell? ⟨g', 0 + i, none⟩ = _
          rw [hcell, Nat.zero_add]
          exact hi, by
          obtain ⟨k, _, rfl⟩ := List.mem_map.1 (List.mem_of_getElem? hi)
          exact .atom rfl⟩) (fun i hi => ⟨by
          show ∃ v, w4.cell? ⟨g', 0 + i, none⟩ = _
          rw [hcell, Nat.zero_add]
          exact ⟨_, Array.getElem?_eq_getElem (by rw [hcs]; exact hi)⟩, hfro _⟩)
    refine ⟨_, v, hres, n3, ?_, n1, Keep0.grow ho4.1 ho4.2.1 ho4.2.2 hsz hb4⟩
    rw [hv]
    exact .slice (e := ⟨g', 0, cap, 1, false⟩) (by unfold Lay.add; rw [if_pos rfl]) rfl hn1 (by show 0 + cap * 1 ≤ cap; omega)

theorem files_direct {h : AHeap} {d bm : Nat} {ro1 ro2 off armed : Bool} {room lft : Int} {mx : MapX} (h1 : Is h d ⟨0, ro1, dObj bm room off armed lft⟩) (h2 : Is h bm ⟨2, ro2, mcells mx⟩) (hk : (keysX mx).Nodup) (hr : ∀ k ∈ keysX mx, 0 ≤ k ∧ k < 64) (hl : (keysX mx).length ≤ 16777216) :
    Direct Try.prog 41 #[Ptr d 0] h (filesV h.n mx) (filesH h mx) :=
  ⟨by
    unfold filesH
    split
    · exact .inl rfl
    · exact .inr (.inl ⟨_, _, rfl⟩), fun F ρ => by
    obtain ⟨f1, k1, e1⟩ := h1
    obtain ⟨f2, k2, e2⟩ := h2
    obtain ⟨r1, q1⟩ := un_cells (F := F) e1
    obtain ⟨r2, q2⟩ := un_cells (F := F) e2
    have := files_sem (ro1 := r1) (ro2 := r2) (off := off) (armed := armed) (room := room) (lft := lft) (bm := bm) (mx := mx) ⟨f1, k1, q1⟩ ⟨f2, k2, q2⟩ hk hr hl ρ
    have e3 : (filesH h mx).un F = filesH (h.un F) mx := by
      unfold filesH
      split
      · rfl
      · rw [un_new]; rfl
    rw [e3]
    exact this⟩

end Go.Proofs.Ytahaplbdhgfobaa.Eng

set_option linter.unusedVariables false
set_option linter.unusedSimpArgs false
namespace Go.Proofs.Ytahaplbdhgfobaa.Eng

/-! ### 1. Numbers of files -/
def fnos (D : Dk) : List Int := sortK (D.fs.map (·.1))

theorem used_count : ∀ {fs : List (Int × Fi)}, (∀ e ∈ fs, FiOk e) → (fs.length : Int) ≤ used fs
  | [], _ => Int.le_refl _
  | e :: l, h => by
    have h1 := used_count fun e' he => h e' (List.mem_cons_of_mem _ he)
    have h2 := (h e (List.mem_cons_self ..)).2.1
    have h3 : 0 < e.2.bs.length := List.length_pos_iff.2 h2
    simp only [used, List.length_cons]
    omega

theorem DkI.keysX {R : Objs} {D : Dk} {mx : MapX} (h : DkI R D mx) : Eng.keysX mx = D.fs.map (·.1) := by
  unfold Eng.keysX
  rw [keys_es, h.di.rel.keys]

theorem sortK_perm (l : List Int) : (sortK l).Perm l := List.mergeSort_perm _ _

theorem fnos_nd {R : Objs} {D : Dk} {mx : MapX} (h : DkI R D mx) : (fnos D).Nodup := (sortK_perm _).nodup_iff.2 h.di.nd
theorem fnos_mem {D : Dk} {n : Int} : n ∈ fnos D ↔ n ∈ D.fs.map (·.1) := (sortK_perm _).mem_iff
theorem fnos_len {R : Objs} {D : Dk} {mx : MapX} (h : DkI R D mx) : (fnos D).length ≤ 16777216 := by
  have h1 := used_count h.ok
  have h2 := h.used
  have h3 := h.room
  have h4 : (fnos D).length = D.fs.length := by
    unfold fnos
    rw [(sortK_perm _).length_eq, List.length_map]
  omega
theorem fnos_range {R : Objs} {D : Dk} {mx : MapX} (h : DkI R D mx) {n : Int} (hn : n ∈ fnos D) : 0 ≤ n ∧ n < 64 := by
  obtain ⟨e, he, rfl⟩ := List.mem_map.1 (fnos_mem.1 hn)
  exact (h.ok e he).1

theorem files_ok (q : Bool) (R : Objs) {R0 : Objs} (d bm : Nat) (D : Dk) (mx : MapX) (hD : DkI R0 D mx) :
    Spec Try.prog q 41 #[Ptr d 0] (dkO d bm D mx R) fun v O' => ∃ a c G, v = .slice a (fnos D).length c ∧ Grow 1 a (fnos D).length c ((fnos D).map I) G ∧ O' = G ++ dkO d bm D mx R :=
  Spec.direct fun g hs => by
    have hk := hD.keysX
    have hd := files_direct (ro1 := false) (ro2 := false) (bm := bm) (mx := mx) (hs.at (j := 0) (b := d) rfl) (hs.at (j := 1) rfl) (by rw [hk]; exact hD.di.nd) (by
      rw [hk]
      intro k hk
      obtain ⟨e, he, rfl⟩ := List.mem_map.1 hk
      exact (hD.ok e he).1) (by
      have := fnos_len hD
      unfold fnos at this
      rw [(sortK_perm _).length_eq] at this
      rw [hk]
      exact this)
    have hf : fnos D = sortK (Eng.keysX mx) := by unfold fnos; rw [hk]
    have hl : (fnos D).length = (Eng.keysX mx).length := by rw [hf]; exact List.length_mergeSort _
    unfold filesV filesH at hd
    by_cases h0 : Eng.keysX mx = []
    · rw [if_pos h0, if_pos h0] at hd
      refine ⟨_, g, _, hd, ⟨none, 0, [], ?_, ?_, rfl⟩, hs, fun _ => Old.refl g⟩
      · rw [hl, h0]; rfl
      · rw [hl, hf, h0, show sortK [] = [] from by simp [sortK]]; exact .nil
    · rw [if_neg h0, if_neg h0] at hd
      refine ⟨_, _, _, hd, ⟨_, _, [(g.n, ⟨1, false, (fnos D).map I⟩)], by rw [hl], .row (by simp), rfl⟩, ?_, fun _ => ⟨Nat.le_succ _, fun b hb => ?_⟩⟩
      · rw [← hf]
        exact hs.new 1 _
      · show (if b = g.n then _ else g.o b) = _
        rw [if_neg (by omega)]

/-! ### 2. A crash -/
/-- How many loose bytes of the i-th file are kept. -/
def keepN (keep : List Int) (i : Nat) (f : Fi) : Int := if i < keep.length then max 0 (min (nth keep i) (f.bs.length - f.d)) else 0
def cutF (keep : List Int) (i : Nat) (f : Fi) : Fi := ⟨f.bs.take (f.d + keepN keep i f).toNat, f.d⟩
def cutAt (D : Dk) (keep : List Int) (i : Nat) : Int × Fi := (nth (fnos D) i, cutF keep i (getF D.fs (nth (fnos D) i)))
def cuts (D : Dk) (keep : List Int) (i : Nat) : List (Int × Fi) := (List.range i).map (cutAt D keep)

def looseN (f : Fi) : Nat := f.bs.length - f.d.toNat
def looseSum : List (Int × Fi) → Nat
  | [] => 0
  | e :: l => looseN e.2 + looseSum l

/-- A byte with a bit turned. -/
def flipB (a : Int) (k : Nat) : Int := IntKind.wrap .u8 ((BitVec.ofInt 8 a) ^^^ (BitVec.ofInt 8 (IntKind.wrap .u8 (1 * 2 ^ (min k 8))))).toNat

/-- The p-th loose byte's bit turned. -/
def flipC (p k : Nat) : List (Int × Fi) → List (Int × Fi)
  | [] => []
  | e :: l => if p < looseN e.2 then (e.1, ⟨e.2.bs.set (e.2.d.toNat + p) (flipB (nth e.2.bs (e.2.d.toNat + p)) k), e.2.d⟩) :: l else e :: flipC (p - looseN e.2) k l

def crashC (D : Dk) (keep : List Int) (flip : Int) : List (Int × Fi) :=
  let l := cuts D keep (fnos D).length
  let m := 8 * looseSum l
  if 0 ≤ flip ∧ 0 < m then flipC (flip.toNat % m / 8) (7 - flip.toNat % m % 8) l else l

theorem cuts_succ (D : Dk) (keep : List Int) (i : Nat) : cuts D keep (i + 1) = cuts D keep i ++ [cutAt D keep i] := by
  unfold cuts
  rw [List.range_succ, List.map_append]
  rfl

theorem looseSum_app : ∀ (a b : List (Int × Fi)), looseSum (a ++ b) = looseSum a + looseSum b
  | [], b => by simp [looseSum]
  | e :: a, b => by
    rw [List.cons_append]
    simp only [looseSum]
    rw [looseSum_app a b]
    omega

theorem keepN_range (keep : List Int) (i : Nat) {f : Fi} (h : 0 ≤ f.d ∧ f.d ≤ f.bs.length) : 0 ≤ keepN keep i f ∧ f.d + keepN keep i f ≤ f.bs.length := by
  unfold keepN
  split <;> omega

theorem cutF_len (keep : List Int) (i : Nat) {f : Fi} (h : 0 ≤ f.d ∧ f.d ≤ f.bs.length) : ((cutF keep i f).bs.length : Int) = f.d + keepN keep i f := by
  have := keepN_range keep i h
  unfold cutF
  simp only [List.length_take]
  omega

theorem used_same : ∀ {a b : List (Int × Fi)}, a.map (fun e => (e.1, e.2.bs.length)) = b.map (fun e => (e.1, e.2.bs.length)) → used a = used b
  | [], [], _ => rfl
  | [], _ :: _, h => by simp at h
  | _ :: _, [], h => by simp at h
  | e :: a, f :: b, h => by
    simp only [List.map_cons, List.cons.injEq, Prod.mk.injEq] at h
    simp only [used]
    rw [used_same h.2, h.1.2]

end Go.Proofs.Ytahaplbdhgfobaa.Eng

set_option linter.unusedVariables false
set_option linter.unusedSimpArgs false
namespace Go.Proofs.Ytahaplbdhgfobaa.Eng

/-- A file that has been cut, and its own row. -/
structure OwnF where
  n : Int
  f : Fi
  a : Option Addr
  c : Nat
  G : Objs

def OwnF.nf (o : OwnF) : Int × Fi := (o.n, o.f)
def rowsO (ow : List OwnF) : Objs := ow.flatMap (·.G)
def looseV1 (a : Option Addr) (dn k : Nat) : List Value := (List.range' dn k).map (ePtr a)
def looseV (ow : List OwnF) : List Value := ow.flatMap fun o => looseV1 o.a o.f.d.toNat (looseN o.f)

theorem rowsO_app (a b : List OwnF) : rowsO (a ++ b) = rowsO a ++ rowsO b := List.flatMap_append ..
theorem looseV_app (a b : List OwnF) : looseV (a ++ b) = looseV a ++ looseV b := List.flatMap_append ..
theorem rowsO_cons (o : OwnF) (b : List OwnF) : rowsO (o :: b) = o.G ++ rowsO b := rfl
theorem looseV_cons (o : OwnF) (b : List OwnF) : looseV (o :: b) = looseV1 o.a o.f.d.toNat (looseN o.f) ++ looseV b := rfl
theorem looseV1_len (a : Option Addr) (dn k : Nat) : (looseV1 a dn k).length = k := by unfold looseV1; rw [List.length_map, List.length_range']
theorem looseV1_succ (a : Option Addr) (dn k : Nat) : looseV1 a dn (k + 1) = looseV1 a dn k ++ [ePtr a (dn + k)] := by
  unfold looseV1
  rw [List.range'_1_concat, List.map_append]
  rfl
theorem looseV1_get (a : Option Addr) (dn k r : Nat) (h : r < k) : (looseV1 a dn k)[r]? = some (ePtr a (dn + r)) := by
  unfold looseV1
  rw [List.getElem?_map, List.getElem?_range' h]
  simp

theorem looseV_len : ∀ ow : List OwnF, (looseV ow).length = looseSum (ow.map OwnF.nf)
  | [] => rfl
  | o :: ow => by
    rw [looseV_cons, List.length_append, looseV1_len, looseV_len ow, List.map_cons]
    rfl

theorem flip_split (k : Nat) : ∀ (ow : List OwnF) (p : Nat), p < looseSum (ow.map OwnF.nf) → ∃ ow1 o ow2 r, ow = ow1 ++ o :: ow2 ∧ r < looseN o.f ∧ (looseV ow)[p]? = some (ePtr o.a (o.f.d.toNat + r)) ∧
      flipC p k (ow.map OwnF.nf) = ow1.map OwnF.nf ++ (o.n, ⟨o.f.bs.set (o.f.d.toNat + r) (flipB (nth o.f.bs (o.f.d.toNat + r)) k), o.f.d⟩) :: ow2.map OwnF.nf
  | [], p, h => absurd h (Nat.not_lt_zero _)
  | o :: ow, p, h => by
    rw [List.map_cons] at h ⊢
    by_cases hp : p < looseN o.f
    · refine ⟨[], o, ow, p, rfl, hp, ?_, ?_⟩
      · rw [looseV_cons, List.getElem?_append_left (by rw [looseV1_len]; exact hp)]
        exact looseV1_get _ _ _ _ hp
      · unfold flipC
        rw [if_pos (show p < looseN (OwnF.nf o).2 from hp)]
        rfl
    · have h2 : p - looseN o.f < looseSum (ow.map OwnF.nf) := by
        have : looseSum (OwnF.nf o :: ow.map OwnF.nf) = looseN o.f + looseSum (ow.map OwnF.nf) := rfl
        omega
      obtain ⟨ow1, o', ow2, r, h3, h4, h5, h6⟩ := flip_split k ow (p - looseN o.f) h2
      refine ⟨o :: ow1, o', ow2, r, by rw [h3]; rfl, h4, ?_, ?_⟩
      · rw [looseV_cons, List.getElem?_append_right (by rw [looseV1_len]; omega), looseV1_len]
        exact h5
      · unfold flipC
        rw [if_neg (show ¬ p < looseN (OwnF.nf o).2 from hp)]
        show OwnF.nf o :: flipC (p - looseN o.f) k _ = _
        rw [h6]
        rfl

theorem mget_app {α : Type} (k : Int) : ∀ (a b : List (Int × α)), mget k (a ++ b) = (mget k a).or (mget k b)
  | [], b => by simp [mget]
  | (n, v) :: a, b => by
    rw [List.cons_append]
    simp only [mget]
    split
    · simp
    · exact mget_app k a b

theorem mget_none {α : Type} {k : Int} : ∀ {m : List (Int × α)}, k ∉ m.map (·.1) → mget k m = none
  | [], _ => rfl
  | (n, v) :: m, h => by
    simp only [List.map_cons, List.mem_cons, not_or] at h
    simp only [mget]
    rw [if_neg h.1, mget_none h.2]

theorem mget_some {α : Type} {k : Int} {v : α} : ∀ {m : List (Int × α)}, (m.map (·.1)).Nodup → (k, v) ∈ m → mget k m = some v
  | [], _, h => by simp at h
  | (n, u) :: m, hn, h => by
    simp only [List.map_cons, List.nodup_cons] at hn
    simp only [mget]
    rcases List.mem_cons.1 h with h | h
    · injection h with h1 h2; subst h1 h2; rw [if_pos rfl]
    · rw [if_neg (fun q => hn.1 (by rw [← q]; exact List.mem_map.2 ⟨_, h, rfl⟩))]
      exact mget_some hn.2 h

theorem mget_put {α : Type} {k j : Int} {u : α} : ∀ {m : List (Int × α)}, mget j (mput k u m) = if j = k then some u else mget j m
  | [] => by simp only [mput, mget]
  | (n, v) :: m => by
    simp only [mput]
    by_cases q : k = n
    · rw [if_pos q]
      subst q
      simp only [mget]
      split <;> rfl
    · rw [if_neg q]
      simp only [mget]
      rw [mget_put]
      by_cases h1 : j = n
      · rw [if_pos h1, if_neg (fun e => q (e.symm.trans h1)), if_pos h1]
      · rw [if_neg h1, if_neg h1]

theorem mget_del {α : Type} {k j : Int} : ∀ {m : List (Int × α)}, (m.map (·.1)).Nodup → mget j (mdel k m) = if j = k then none else mget j m
  | [], _ => by simp [mdel, mget]
  | (n, v) :: m, hn => by
    simp only [List.map_cons, List.nodup_cons] at hn
    simp only [mdel]
    by_cases q : k = n
    · rw [if_pos q]
      subst q
      by_cases h1 : j = k
      · rw [if_pos h1]; subst h1; exact mget_none hn.1
      · rw [if_neg h1]; simp only [mget]; rw [if_neg h1]
    · rw [if_neg q]
      simp only [mget]
      rw [mget_del hn.2]
      by_cases h1 : j = n
      · rw [if_pos h1, if_neg (fun e => q (e.symm.trans h1)), if_pos h1]
      · rw [if_neg h1, if_neg h1]

theorem get_set' {fs : List (Int × Fi)} {k j : Int} {f : Fi} (hn : (fs.map (·.1)).Nodup) : getF (setF fs k f) j = if j = k then (if f.bs = [] then ⟨[], 0⟩ else f) else getF fs j := by
  unfold setF getF
  by_cases hb : f.bs = []
  · rw [if_pos hb, mget_del (mput_nd hn), mget_put]
    by_cases h : j = k
    · rw [if_pos h, if_pos h, if_pos hb]; rfl
    · rw [if_neg h, if_neg h, if_neg h]
  · rw [if_neg hb, mget_put]
    by_cases h : j = k
    · rw [if_pos h, if_pos h, if_neg hb]; rfl
    · rw [if_neg h, if_neg h]

theorem setX_get {mx : MapX} {k j : Int} {v : Value} {n : Nat} (hn : (mx.kv.map (·.1)).Nodup) : mget j (setX mx k v n).kv = if j = k then (if n = 0 then none else some v) else mget j mx.kv := by
  unfold setX
  by_cases h0 : n = 0
  · rw [if_pos h0, MapX.kv_del, MapX.kv_put, mget_del (mput_nd hn), mget_put]
    by_cases h : j = k
    · rw [if_pos h, if_pos h, if_pos h0]
    · rw [if_neg h, if_neg h, if_neg h]
  · rw [if_neg h0, MapX.kv_put, mget_put]
    by_cases h : j = k
    · rw [if_pos h, if_pos h, if_neg h0]
    · rw [if_neg h, if_neg h]

theorem mem_set {fs : List (Int × Fi)} {k : Int} {f : Fi} {e : Int × Fi} (h : e ∈ setF fs k f) : e.1 = k ∨ e ∈ fs := by
  unfold setF at h
  have : e ∈ mput k f fs := by
    split at h
    · exact mdel_sub.subset h
    · exact h
  rcases mput_all this with q | q
  · exact .inl (by rw [q])
  · exact .inr q

/-- The loop over the files, between two rounds. -/
structure CrS where
  i : Nat
  ow : List OwnF
  D : Dk
  mx : MapX
  a : Option Addr
  c : Nat
  G : Objs

structure CrI (D0 : Dk) (keep : List Int) (R0 : Objs) (q : CrS) : Prop where
  i : q.i ≤ (fnos D0).length
  ow : q.ow.map OwnF.nf = cuts D0 keep q.i
  row : ∀ o ∈ q.ow, Grow 1 o.a o.f.bs.length o.c (o.f.bs.map B8) o.G ∧ Bytes o.f.bs
  val : ∀ o ∈ q.ow, o.f.bs ≠ [] → mget o.n q.mx.kv = some (fileV o.a o.f.bs.length o.c o.f.d)
  get : ∀ m, getF q.D.fs m = (mget m (cuts D0 keep q.i)).getD (getF D0.fs m)
  keys : ∀ e ∈ q.D.fs, e.1 ∈ fnos D0
  dk : DkI (rowsO q.ow ++ R0) q.D q.mx
  same : q.D.room = D0.room ∧ q.D.off = D0.off ∧ q.D.armed = D0.armed ∧ q.D.left = D0.left
  loose : Grow 1 q.a (looseV q.ow).length q.c (looseV q.ow) q.G

theorem cuts_keys (D0 : Dk) (keep : List Int) (i : Nat) (hi : i ≤ (fnos D0).length) : (cuts D0 keep i).map (·.1) = (fnos D0).take i := by
  unfold cuts
  rw [List.map_map]
  apply List.ext_getElem
  · rw [List.length_map, List.length_range, List.length_take]; omega
  · intro j h1 h2
    rw [List.length_map, List.length_range] at h1
    simp only [List.getElem_map, List.getElem_range, Function.comp, cutAt, List.getElem_take]
    exact nth_get (by omega)

theorem take_nth_notin {l : List Int} (hn : l.Nodup) {i : Nat} (hi : i < l.length) : nth l i ∉ l.take i := by
  intro h
  rw [List.mem_take_iff_getElem] at h
  obtain ⟨j, hj, he⟩ := h
  rw [nth_get hi] at he
  have := (List.getElem_inj hn).1 he
  omega

/-! ### The turned bit -/
theorem FRel.of {R : Objs} : ∀ {m : List (Int × Value)} {fs : List (Int × Fi)}, m.map (·.1) = fs.map (·.1) → (m.map (·.1)).Nodup → (∀ k v f, mget k m = some v → mget k fs = some f → FileOk R v f) → FRel R m fs
  | [], [], _, _, _ => .nil
  | [], _ :: _, h, _, _ => by simp at h
  | _ :: _, [], h, _, _ => by simp at h
  | (k, v) :: m, (k', f) :: fs, h, hn, ha => by
    simp only [List.map_cons, List.cons.injEq] at h
    obtain ⟨h1, h2⟩ := h
    subst h1
    simp only [List.map_cons, List.nodup_cons] at hn
    refine .cons (ha k v f (by simp [mget]) (by simp [mget])) (FRel.of h2 hn.2 fun j u g hu hg => ?_)
    have hj : j ≠ k := fun q => hn.1 (by
      subst q
      exact List.mem_map.2 ⟨_, mget_mem hu, rfl⟩)
    exact ha j u g (by simp only [mget]; rw [if_neg hj]; exact hu) (by simp only [mget]; rw [if_neg hj]; exact hg)

theorem mput_keys {α : Type} {k : Int} {u : α} : ∀ {m : List (Int × α)}, k ∈ m.map (·.1) → (mput k u m).map (·.1) = m.map (·.1)
  | [], h => by simp at h
  | (n, v) :: m, h => by
    simp only [mput]
    by_cases q : k = n
    · rw [if_pos q]; subst q; rfl
    · rw [if_neg q]
      simp only [List.map_cons, List.mem_cons] at h ⊢
      rw [mput_keys (h.resolve_left q)]

theorem rowsO_count {o : OwnF} (Q : Nat × Ent → Bool) : ∀ {ow : List OwnF}, o ∈ ow → o.G.countP Q ≤ (rowsO ow).countP Q
  | x :: ow, h => by
    rw [rowsO_cons, List.countP_append]
    rcases List.mem_cons.1 h with rfl | h
    · omega
    · have := rowsO_count Q h
      omega

theorem mem_some {α : Type} {k : Int} : ∀ {m : List (Int × α)}, k ∈ m.map (·.1) → ∃ v, mget k m = some v
  | [], h => by simp at h
  | (n, v) :: m, h => by
    simp only [mget]
    by_cases q : k = n
    · rw [if_pos q]; exact ⟨v, rfl⟩
    · rw [if_neg q]
      simp only [List.map_cons, List.mem_cons] at h
      exact mem_some (h.resolve_left q)

theorem get_hardE (fs : List (Int × Fi)) (k : Int) : getF (hardAll fs) k = (getF fs k).hard := by
  unfold getF hardAll
  induction fs with
  | nil => rfl
  | cons e l ih =>
    obtain ⟨n, f⟩ := e
    simp only [List.map_cons, mget]
    by_cases q : k = n
    · rw [if_pos q, if_pos q]; rfl
    · rw [if_neg q, if_neg q]; exact ih

theorem crash_get {D0 : Dk} {keep : List Int} {R0 : Objs} {q : CrS} (h : CrI D0 keep R0 q) (hq : q.i = (fnos D0).length) (m : Int) : getF q.D.fs m = (mget m (cuts D0 keep (fnos D0).length)).getD ⟨[], 0⟩ := by
  rw [h.get m, hq]
  by_cases hm : m ∈ fnos D0
  · obtain ⟨v, hv⟩ := mem_some (m := cuts D0 keep (fnos D0).length) (k := m) (by rw [cuts_keys D0 keep _ (Nat.le_refl _), List.take_length]; exact hm)
    rw [hv]; rfl
  · have : getF D0.fs m = ⟨[], 0⟩ := by
      unfold getF
      rw [mget_none (fun e => hm (fnos_mem.2 e))]
      rfl
    rw [this]

theorem crash_flip {D0 : Dk} {keep : List Int} {R0 : Objs} {q : CrS} (h : CrI D0 keep R0 q) (hq : q.i = (fnos D0).length) (hnd : (fnos D0).Nodup) {ow1 ow2 : List OwnF} {o : OwnF} {b : Nat} {f2 : Fi} (how : q.ow = ow1 ++ o :: ow2) (ha : o.a = some ⟨b, 0, none⟩) (hne : o.f.bs ≠ [])
    (hl : f2.bs.length = o.f.bs.length) (hd : f2.d = o.f.d) (hB : Bytes f2.bs) :
    DkI ((rowsO ow1 ++ ((b, ⟨1, false, f2.bs.map B8⟩) :: rowsO ow2)) ++ R0) { q.D with fs := mput o.n f2 q.D.fs } q.mx ∧
      (∀ m, getF (mput o.n f2 q.D.fs) m = if m = o.n then f2 else getF q.D.fs m) ∧ ∀ m, (mget m (ow1.map OwnF.nf ++ (o.n, f2) :: ow2.map OwnF.nf)).getD ⟨[], 0⟩ = if m = o.n then f2 else getF q.D.fs m := by
  have hck := cuts_keys D0 keep q.i (Nat.le_of_eq hq)
  have hkeys : q.ow.map (·.n) = fnos D0 := by
    have e1 : q.ow.map (·.n) = (q.ow.map OwnF.nf).map (·.1) := by rw [List.map_map]; rfl
    rw [e1, h.ow, hck, hq, List.take_length]
  have hond : (q.ow.map (·.n)).Nodup := by rw [hkeys]; exact hnd
  have hcnd : ((cuts D0 keep q.i).map (·.1)).Nodup := by rw [hck, hq, List.take_length]; exact hnd
  have hom : o ∈ q.ow := by rw [how]; simp
  have hown : ∀ o2 ∈ q.ow, getF q.D.fs o2.n = o2.f := fun o2 h2 => by
    rw [h.get, mget_some hcnd (by rw [← h.ow]; exact List.mem_map.2 ⟨o2, h2, rfl⟩)]
    rfl
  have hget : ∀ m, getF (mput o.n f2 q.D.fs) m = if m = o.n then f2 else getF q.D.fs m := fun m => by
    unfold getF
    rw [mget_put]
    split <;> rfl
  have hin : o.n ∈ q.D.fs.map (·.1) := by
    rw [← h.dk.di.rel.keys]
    exact List.mem_map.2 ⟨_, mget_mem (h.val o hom hne), rfl⟩
  have hnk : (q.mx.kv.map (·.1)).Nodup := by rw [← keys_es]; exact h.dk.keys
  have hf0 : f2.bs ≠ [] := fun e => hne (List.length_eq_zero_iff.1 (by rw [← hl, e]; rfl))
  refine ⟨⟨⟨FRel.of (by rw [mput_keys hin]; exact h.dk.di.rel.keys) hnk fun k v f hv hf => ?_, mput_nd h.dk.di.nd⟩, fun e he => ?_, h.dk.room, h.dk.left, ?_⟩, hget, fun m => ?_⟩
  · rw [mget_put] at hf
    by_cases hk : k = o.n
    · subst hk
      rw [if_pos rfl] at hf
      injection hf with hf
      subst hf
      rw [h.val o hom hne] at hv
      injection hv with hv
      subst hv
      refine ⟨o.a, o.c, by rw [hl, hd], ?_, (fun q => by rw [ha] at q; cases q), hB⟩
      rw [ha]
      exact .inr ⟨b, 0, ⟨1, false, f2.bs.map B8⟩, rfl, fun g hg => hg.mem (by simp), rfl, by show 0 + f2.bs.length * 1 ≤ (f2.bs.map B8).length; rw [List.length_map]; omega, by rw [List.drop_zero, Nat.mul_one]; exact List.take_of_length_le (by rw [List.length_map]; omega)⟩
    · rw [if_neg hk] at hf
      have hkin : k ∈ fnos D0 := h.keys _ (mget_mem hf)
      rw [← hkeys] at hkin
      obtain ⟨o2, h2, rfl⟩ := List.mem_map.1 hkin
      have hgf := hown o2 h2
      have hff : getF q.D.fs o2.n = f := by unfold getF; rw [hf]; rfl
      rw [hgf] at hff
      subst hff
      have hne2 : o2.f.bs ≠ [] := (h.dk.ok _ (mget_mem hf)).2.1
      rw [h.val o2 h2 hne2] at hv
      injection hv with hv
      subst hv
      obtain ⟨hg2, hB2⟩ := h.row o2 h2
      refine ⟨o2.a, o2.c, rfl, ?_, fun q => (hg2.nil0 q).1, hB2⟩
      have hr := hg2.rowy (R := ([] : Objs))
      rw [List.append_nil] at hr
      refine hr.inc fun g hg => hg.sub fun Q => ?_
      rw [how] at h2
      have : o2 ∈ ow1 ∨ o2 ∈ ow2 := by
        rcases List.mem_append.1 h2 with h2 | h2
        · exact .inl h2
        · rcases List.mem_cons.1 h2 with h2 | h2
          · exact absurd (by rw [h2]) hk
          · exact .inr h2
      simp only [List.countP_append, List.countP_cons]
      rcases this with h3 | h3
      · have := rowsO_count Q h3; omega
      · have := rowsO_count Q h3; omega
  · rcases mput_all he with q1 | q1
    · rw [q1]
      obtain ⟨v, hv⟩ := mem_some hin
      have h3 := h.dk.ok _ (mget_mem hv)
      have h4 : v = o.f := by
        have := hown o hom
        unfold getF at this
        rw [hv] at this
        exact this
      rw [h4] at h3
      exact ⟨h3.1, hf0, by rw [hd]; exact h3.2.2.1, by rw [hd, hl]; exact h3.2.2.2⟩
    · exact h.dk.ok e q1
  · show used (mput o.n f2 q.D.fs) ≤ q.D.room
    rw [used_put, hown o hom, hl]
    have := h.dk.used
    omega
  · rw [mget_app]
    have hn1 : (ow1.map OwnF.nf).map (·.1) = ow1.map (·.n) := by rw [List.map_map]; rfl
    have hn2 : (ow2.map OwnF.nf).map (·.1) = ow2.map (·.n) := by rw [List.map_map]; rfl
    by_cases hm : m = o.n
    · subst hm
      rw [if_pos rfl, mget_none (m := ow1.map OwnF.nf)]
      · simp [mget]
      · rw [hn1]
        rw [how, List.map_append, List.nodup_append] at hond
        exact fun e => hond.2.2 _ e _ (by simp) rfl
    · have e : ∀ v : Fi, mget m ((o.n, v) :: ow2.map OwnF.nf) = mget m (ow2.map OwnF.nf) := fun v => by
        simp only [mget]
        rw [if_neg hm]
      rw [if_neg hm, crash_get h hq m, ← hq, ← h.ow, how, List.map_append, List.map_cons, mget_app, show OwnF.nf o = (o.n, o.f) from rfl, e, e]

end Go.Proofs.Ytahaplbdhgfobaa.Eng

set_option linter.unusedVariables false
set_option linter.unusedSimpArgs false
namespace Go.Proofs.Ytahaplbdhgfobaa.Eng

/-- What a crash comes to. -/
def CrashPost (D0 : Dk) (keep : List Int) (flip : Int) (d bm : Nat) (R R0 : Objs) (O' : Objs) : Prop :=
  ∃ mx' N D', O' = dkO d bm D' mx' (N ++ R) ∧ DkI (N ++ R0) D' mx' ∧ D'.room = D0.room ∧ D'.off = false ∧ D'.armed = false ∧ ∀ m, getF D'.fs m = ((mget m (crashC D0 keep flip)).getD ⟨[], 0⟩).hard

theorem looseSum_le (D0 : Dk) (keep : List Int) (M : Nat) (h : ∀ n, (getF D0.fs n).bs.length ≤ M) : ∀ i, looseSum (cuts D0 keep i) ≤ i * M
  | 0 => Nat.zero_le _
  | i + 1 => by
    have h1 := looseSum_le D0 keep M h i
    have h2 := h (nth (fnos D0) i)
    rw [cuts_succ, looseSum_app, Nat.succ_mul]
    have h3 : looseSum [cutAt D0 keep i] ≤ M := by
      show looseN (cutF keep i (getF D0.fs (nth (fnos D0) i))) + 0 ≤ M
      unfold looseN cutF
      simp only [List.length_take]
      omega
    omega

theorem flipB_range (a : Int) (k : Nat) : 0 ≤ flipB a k ∧ flipB a k < 256 := wrap8_lt _

theorem Rowy.mid {A N R : Objs} {sz : Nat} {a : Option Addr} {n : Nat} {cs : List Value} (h : Rowy (A ++ R) sz a n cs) : Rowy (A ++ (N ++ R)) sz a n cs :=
  h.inc fun g hg => hg.sub (by intro Q; simp only [List.countP_append]; omega)
theorem FRel.mid {A N R : Objs} {m : List (Int × Value)} {fs : List (Int × Fi)} (h : FRel (A ++ R) m fs) : FRel (A ++ (N ++ R)) m fs := by
  induction h with
  | nil => exact .nil
  | cons h1 _ ih =>
    obtain ⟨a, c, h2, h3, h4⟩ := h1
    exact .cons ⟨a, c, h2, h3.mid, h4⟩ ih

theorem crash_ok (R : Objs) {R0 : Objs} (d bm : Nat) (D0 : Dk) (mx0 : MapX) (keep : List Int) (ak : Option Addr) (ck : Nat) (flip : Int) (hD : DkI R0 D0 mx0) (hi : ∀ Q : Nat × Ent → Bool, R0.countP Q ≤ R.countP Q) (hroom : D0.room ≤ 1000000) (hf64 : In64 flip) (hk64 : ∀ n ∈ keep, In64 n) (hkl : Short keep)
    (hk : Src R 1 (.slice ak keep.length ck) keep.length (keep.map I)) :
    Spec Try.prog false 16 #[Ptr d 0, .slice ak keep.length ck, I flip] (dkO d bm D0 mx0 R) fun v O' => CrashPost D0 keep flip d bm R R0 O' := by
  have hnd := fnos_nd hD
  have hfl := fnos_len hD
  have hfl2 : (fnos D0).length ≤ 1000000 := by
    have h1 := used_count hD.ok
    have h2 := hD.used
    have h4 : (fnos D0).length = D0.fs.length := by
      unfold fnos
      rw [(sortK_perm _).length_eq, List.length_map]
    omega
  refine Spec.enter (args := [_, _, _]) (m := 107) Try.func16 rfl rfl (by decide +kernel) fun h0 => ?_
  refine WX.seq ?_
  refine WX.region rfl ?_
  refine WXL.assign Met.none rfl ?_
  refine WXL.nil ?_
  refine Fin.then_normal ?_
  refine WX.seq ?_
  refine WX.seq ?_
  refine WX.region rfl ?_
  refine WXL.move Met.none rfl ?_
  refine WXL.cl (O1 := _) Met.none rfl (fnOk_of Try.func41 (by decide +kernel)) rfl (fun _ h => h) (files_ok _ R d bm D0 mx0 hD) (fun v O' hp => ?_)
  obtain ⟨a15, c15, G15, rfl, hG15, rfl⟩ := hp
  refine WXL.len Met.none rfl Try.underlying33 ?_
  refine WXL.move Met.none rfl ?_
  refine WXL.nil ?_
  refine Fin.then_normal ?_
  refine WX.block ?_
  obtain ⟨B, hB⟩ : ∃ B, B = G15 ++ R := ⟨_, rfl⟩
  have hsF : Src B 1 (.slice a15 (fnos D0).length c15) (fnos D0).length ((fnos D0).map I) := hB ▸ hG15.src
  have hsK : Src B 1 (.slice ak keep.length ck) keep.length (keep.map I) := hB ▸ Src.app hk
  have hiB : ∀ Q : Nat × Ent → Bool, R0.countP Q ≤ B.countP Q := fun Q => by
    have := hi Q
    rw [hB, List.countP_append]
    omega
  refine WX.re (O' := dkO d bm D0 mx0 ([] ++ ([] ++ B))) ?_ (by rw [hB]; exact sub_)
  refine WX.loop (fun q : CrS => [(0, Ptr d 0), (1, .slice ak keep.length ck), (2, I flip), (6, .slice q.a (looseV q.ow).length q.c), (15, .slice a15 (fnos D0).length c15), (16, I ((fnos D0).length : Nat)), (17, I (q.i : Nat))]) (fun q => dkO d bm q.D q.mx (q.G ++ (rowsO q.ow ++ B))) (CrI D0 keep R0) (fun q => (fnos D0).length - q.i) ⟨0, [], D0, mx0, none, 0, []⟩ ⟨Nat.zero_le _, rfl, (fun o ho => by simp at ho), (fun o ho => by simp at ho), (fun m => rfl), (fun e he => fnos_mem.2 (List.mem_map.2 ⟨e, he, rfl⟩)), hD, ⟨rfl, rfl, rfl, rfl⟩, .nil⟩ (fun s hs => hs.tl [] 0) (fun q hq => ?_)
  obtain ⟨i, ow, D, mx, a6, c6, G6⟩ := q
  obtain ⟨hin, how, hgr, hval, hget, hkeys, hDi, hsame, hloose⟩ := hq
  simp only at hin how hgr hval hget hkeys hDi hsame hloose
  dsimp only
  have hlsum : (looseV ow).length ≤ i * 1000000 := by
    rw [looseV_len, how]
    exact looseSum_le D0 keep 1000000 (fun n => by
      have h1 := used_get D0.fs n
      have h2 := hD.used
      omega) i
  refine WX.seq ?_
  refine WX.region rfl ?_
  refine WXL.bin Met.none rfl rfl rfl ?_
  refine WXL.nil ?_
  refine Fin.then_normal ?_
  refine WX.seq ?_
  refine WX.cond rfl (fun hc0 => ?_) (fun hc0 => ?_)
  · try simp only [cnd] at hc0
    refine WX.skip ?_
    refine Fin.then_normal ?_
    refine WX.seq ?_
    refine WX.block ?_
    refine WX.seq ?_
    have hik : i < (fnos D0).length := by omega
    obtain ⟨n, hn⟩ : ∃ n, n = nth (fnos D0) i := ⟨_, rfl⟩
    have hnin : n ∈ fnos D0 := hn ▸ nth_mem hik
    have hn64 := fnos_range hD hnin
    have hnot : n ∉ (cuts D0 keep i).map (·.1) := by rw [cuts_keys D0 keep i (by omega), hn]; exact take_nth_notin hnd hik
    have hfn : getF D.fs n = getF D0.fs n := by rw [hget n, mget_none hnot]; rfl
    obtain ⟨fa, fc, hfv, hrow0, hnil, hfB⟩ := hDi.di.get n
    obtain ⟨f, hf⟩ : ∃ f, f = getF D.fs n := ⟨_, rfl⟩
    have hfd := hDi.get_d n
    have hflen := hDi.get_len n
    rw [← hf] at hfv hrow0 hfB hfd hflen hfn
    have hrow := hrow0.inc (R := G6 ++ (rowsO ow ++ B)) (fun g hg => hg.sub (by intro Q; have := hiB Q; simp only [List.countP_append]; omega))
    obtain ⟨kk, hkk⟩ : ∃ kk, kk = keepN keep i f := ⟨_, rfl⟩
    have hkr := keepN_range keep i hfd
    obtain ⟨cb, hcb⟩ : ∃ cb, cb = (cutF keep i f).bs := ⟨_, rfl⟩
    have hcl := cutF_len keep i hfd
    rw [← hcb, ← hkk] at hcl
    rw [← hkk] at hkr
    have htk : f.bs.take cb.length = cb := by
      rw [hcb]
      show f.bs.take (f.bs.take _).length = f.bs.take _
      rw [List.length_take, ← List.take_take, List.take_length]
    refine WX.region rfl ?_
    refine WXL.move Met.none rfl ?_
    first | refine WXL.ix Met.none rfl rfl elem33 sz3 ?_ | refine WXL.ixS Met.none rfl rfl elem33 sz3 ?_
    first | refine WXL.ld Met.none rfl agg3 ?_ (hv := (show ((fnos D0).map I)[i]? = some (I n) from by rw [hn]; exact cell_map _ _ _ hik)) | refine WXL.ldS Met.none rfl agg3 ?_ (hv := (show ((fnos D0).map I)[i]? = some (I n) from by rw [hn]; exact cell_map _ _ _ hik))
    refine WXL.assign Met.none rfl ?_
    refine WXL.assign Met.none rfl ?_
    refine WXL.nil ?_
    refine Fin.then_normal ?_
    refine WX.seq ?_
    refine WX.region rfl ?_
    refine WXL.move Met.none rfl ?_
    refine WXL.nilCheck Met.none rfl ?_
    first | refine WXL.fieldAddr Met.none rfl Try.underlying68 rfl sz66 rfl ?_ | refine WXL.faS Met.none rfl Try.underlying68 rfl sz66 ?_
    first | refine WXL.ld Met.none rfl agg66 ?_ | refine WXL.ldS Met.none rfl agg66 ?_
    refine WXL.move Met.none rfl ?_
    refine WXL.lookup Met.none rfl rfl mapT66 zero71 at_ (show _ = fileV fa f.bs.length fc f.d from hfv) ?_
    refine WXL.alloc (c := [_, _]) Met.none zero71 rfl (fun b9 => ?_)
    refine WXL.st (vs := [_, _]) (c' := [_, _]) (j := 0) Met.none rfl rfl rfl sz71 ?_ (hj := rfl)
    refine WXL.nil ?_
    refine Fin.then_normal ?_
    refine WX.seq ?_
    refine WX.region rfl ?_
    refine WXL.assign Met.none rfl ?_
    refine WXL.nil ?_
    refine Fin.then_normal ?_
    refine WX.seq ?_
    refine WX.seq ?_
    refine WX.region rfl ?_
    refine WXL.move Met.none rfl ?_
    refine WXL.move Met.none rfl ?_
    refine WXL.len Met.none rfl Try.underlying33 ?_
    refine WXL.bin Met.none rfl rfl rfl ?_
    refine WXL.nil ?_
    refine Fin.then_normal ?_
    refine WX.cond rfl (fun hc1 => ?_) (fun hc1 => ?_)
    · try simp only [cnd] at hc1
      have hik2 : i < keep.length := by omega
      refine WX.draw rfl ?_
      refine WXL.move Met.none rfl ?_
      refine WXL.move Met.none rfl ?_
      first | refine WXL.ix Met.none rfl rfl elem33 sz3 ?_ | refine WXL.ixS Met.none rfl rfl elem33 sz3 ?_
      first | refine WXL.ld Met.none rfl agg3 ?_ (hv := (cell_map _ _ _ (by omega))) | refine WXL.ldS Met.none rfl agg3 ?_ (hv := (cell_map _ _ _ (by omega)))
      refine WXL.fieldAddr (off' := 0) Met.none rfl Try.underlying71 rfl sz27 rfl ?_
      first | refine WXL.ld Met.none rfl agg27 ?_ | refine WXL.ldS Met.none rfl agg27 ?_
      refine WXL.len Met.none rfl Try.underlying27 ?_
      refine WXL.fieldAddr (off' := 1) Met.none rfl Try.underlying71 rfl sz3 rfl ?_
      first | refine WXL.ld Met.none rfl agg3 ?_ | refine WXL.ldS Met.none rfl agg3 ?_
      refine WXL.bin Met.none rfl rfl bvS ?_
      refine WXL.min Met.none rfl rfl ?_
      refine WXL.max Met.none rfl rfl ?_
      refine WXL.assign Met.none rfl ?_
      refine WXL.nil ?_
      refine Fin.then_normal ?_
      refine WX.seq ?_
      have hcat : ∃ z : Int, z = kk := ⟨_, rfl⟩
      have hkk2 : kk = if i < keep.length then max 0 (min (nth keep i) (f.bs.length - f.d)) else 0 := hkk
      first | rw [if_pos hik2] at hkk2 | rw [if_neg (by omega)] at hkk2
      refine WX.region rfl ?_
      refine WXL.fieldAddr (off' := 0) Met.none rfl Try.underlying71 rfl sz27 rfl ?_
      first | refine WXL.ld Met.none rfl agg27 ?_ | refine WXL.ldS Met.none rfl agg27 ?_
      refine WXL.fieldAddr (off' := 1) Met.none rfl Try.underlying71 rfl sz3 rfl ?_
      first | refine WXL.ld Met.none rfl agg3 ?_ | refine WXL.ldS Met.none rfl agg3 ?_
      refine WXL.move Met.none rfl ?_
      refine WXL.bin Met.none rfl rfl bvA ?_
      refine WXL.pre (m := cb.length) Met.none rfl rfl elem27 sz5 (Rowy.cons (Rowy.cons (Rowy.cons hrow))) hnil ?_
      refine WXL.cl (O1 := _) Met.none rfl (fnOk_of Try.func37 (by decide +kernel)) rfl (fun _ h => h) (clone_ok _ cb fa cb.length (by omega) (fun q => by
      have := hrow.nil0 q
      have h2 : cb.length = 0 := by omega
      exact List.length_eq_zero_iff.1 h2) (Src.cons (Src.cons (Src.cons (by
      have hpre := hrow.pre (m := cb.length) (by omega)
      rw [Nat.mul_one, ← List.map_take, htk] at hpre
      exact hpre.src hpre.nil0))))) (fun v O' hp => ?_)
      obtain ⟨a51, c51, G51, rfl, hG51, rfl⟩ := hp
      refine WXL.re (O' := (b9, ⟨0, false, [.slice fa f.bs.length fc, I f.d]⟩) :: dkO d bm D mx (G6 ++ ((rowsO ow ++ G51) ++ B))) ?_
      refine WXL.fieldAddr (off' := 0) Met.none rfl Try.underlying71 rfl sz27 rfl ?_
      refine WXL.st (vs := [_]) (c' := [_, _]) (j := 0) Met.none rfl rfl rfl sz27 ?_ (hj := rfl)
      refine WXL.nil ?_
      refine Fin.then_normal ?_
      refine WX.seq ?_
      refine WX.seq ?_
      refine WX.region rfl ?_
      refine WXL.fieldAddr (off' := 1) Met.none rfl Try.underlying71 rfl sz3 rfl ?_
      first | refine WXL.ld Met.none rfl agg3 ?_ | refine WXL.ldS Met.none rfl agg3 ?_
      refine WXL.assign Met.none rfl ?_
      refine WXL.nil ?_
      refine Fin.then_normal ?_
      refine WX.block ?_
      obtain ⟨dn, hdn⟩ : ∃ dn : Nat, f.d = (dn : Int) := ⟨f.d.toNat, by omega⟩
      have hsC : Src ((rowsO ow ++ G51) ++ B) 1 (.slice a51 cb.length c51) cb.length (cb.map B8) := by rw [List.append_assoc]; exact Src.app hG51.src
      rw [hdn]
      refine WX.loop (fun q : Nat × Option Addr × Nat × Objs => [(0, Ptr d 0), (1, .slice ak keep.length ck), (2, I flip), (6, .slice q.2.1 ((looseV ow).length + q.1) q.2.2.1), (8, I n), (9, Ptr b9 0), (11, I ((dn + q.1 : Nat) : Int)), (15, .slice a15 (fnos D0).length c15), (16, I ((fnos D0).length : Nat)), (17, I (i : Nat))]) (fun q => (b9, ⟨0, false, [.slice a51 cb.length c51, I (dn : Int)]⟩) :: dkO d bm D mx (q.2.2.2 ++ ((rowsO ow ++ G51) ++ B))) (fun q => dn + q.1 ≤ cb.length ∧ Grow 1 q.2.1 ((looseV ow).length + q.1) q.2.2.1 (looseV ow ++ looseV1 a51 dn q.1) q.2.2.2) (fun q => cb.length - q.1) (0, a6, c6, G6) ⟨by show dn + 0 ≤ _; omega, by rw [show looseV1 a51 dn 0 = [] from rfl, List.append_nil]; exact hloose⟩ (fun s hs => hs.tl [] 0) (fun q hq => ?_)
      obtain ⟨j, a7, c7, G7⟩ := q
      obtain ⟨hj, hG7⟩ := hq
      simp only at hj hG7
      dsimp only
      refine WX.seq ?_
      refine WX.seq ?_
      refine WX.region rfl ?_
      refine WXL.move Met.none rfl ?_
      refine WXL.fieldAddr (off' := 0) Met.none rfl Try.underlying71 rfl sz27 rfl ?_
      first | refine WXL.ld Met.none rfl agg27 ?_ | refine WXL.ldS Met.none rfl agg27 ?_
      refine WXL.len Met.none rfl Try.underlying27 ?_
      refine WXL.bin Met.none rfl rfl rfl ?_
      refine WXL.nil ?_
      refine Fin.then_normal ?_
      refine WX.cond rfl (fun hc2 => ?_) (fun hc2 => ?_)
      · try simp only [cnd] at hc2
        refine WX.skip ?_
        refine Fin.then_normal ?_
        refine WX.seq ?_
        refine WX.block ?_
        obtain ⟨b51, rfl, hG51e, hcl51⟩ : ∃ b51, a51 = some ⟨b51, 0, none⟩ ∧ G51 = [(b51, ⟨1, false, cb.map B8⟩)] ∧ (cb.map B8).length = cb.length * 1 := by
          rcases hG51 with ⟨_, h0, _⟩ | h
          · omega
          · exact h
        refine WX.region rfl ?_
        refine WXL.move Met.none rfl ?_
        refine WXL.fieldAddr (off' := 0) Met.none rfl Try.underlying71 rfl sz27 rfl ?_
        first | refine WXL.ld Met.none rfl agg27 ?_ | refine WXL.ldS Met.none rfl agg27 ?_
        refine WXL.move Met.none rfl ?_
        first | refine WXL.ix Met.none rfl rfl elem27 sz5 ?_ | refine WXL.ixS Met.none rfl rfl elem27 sz5 ?_
        refine WXL.buildSlice (c := [_]) Met.none rfl elem74 sz76 zero76 (by decide) (by decide) rfl rfl rfl rfl (fun b67 => ?_)
        refine WXL.apG [_, _, _, _] Met.none rfl rfl isrow74 elem74 sz76 by76 zero76 (Src.lit (cs := [_])) (fun a68 c68 G68 hG68 => ?_)
        refine WXL.assign Met.none rfl ?_
        refine WXL.nil ?_
        refine Fin.block_normal ?_
        refine Fin.then_normal ?_
        refine WX.region rfl ?_
        refine WXL.move Met.none rfl ?_
        refine WXL.bin Met.none rfl rfl bvA ?_
        refine WXL.assign Met.none rfl ?_
        refine WXL.nil ?_
        refine Fin.loop_next (j + 1, a68, c68, G68) ⟨by simp only; omega, ?_⟩ (by simp only; omega) (fun s hs => hs.tl [] 1)
        simp only
        rw [looseV1_succ, ← List.append_assoc, show ePtr (some ⟨b51, 0, none⟩) (dn + j) = Ptr b51 (dn + j) from by unfold ePtr; simp]
        exact hG68
      · try simp only [cnd] at hc2
        refine WX.exit ?_
        refine Fin.then_exit ?_
        refine Fin.loop_exit ?_
        refine Fin.block_hit rfl ?_
        refine Fin.then_normal ?_
        have hjl : j = cb.length - dn := by omega
        obtain ⟨o, ho⟩ : ∃ o : OwnF, o = ⟨n, cutF keep i f, a51, c51, G51⟩ := ⟨_, rfl⟩
        have hof : o.f.bs = cb ∧ o.f.d = f.d := by rw [ho]; exact ⟨hcb.symm, rfl⟩
        have hoG : Grow 1 o.a o.f.bs.length o.c (o.f.bs.map B8) o.G := by rw [hof.1, ho]; exact hG51
        have hlo : looseN o.f = j := by
          unfold looseN
          rw [hof.1, hof.2, hdn, Int.toNat_natCast, hjl]
        have hlv : looseV (ow ++ [o]) = looseV ow ++ looseV1 a51 dn j := by
          rw [looseV_app]
          show looseV ow ++ (looseV1 o.a o.f.d.toNat (looseN o.f) ++ []) = _
          rw [List.append_nil, hlo, hof.2, hdn, Int.toNat_natCast, ho]
        have hro : rowsO (ow ++ [o]) = rowsO ow ++ G51 := by
          rw [rowsO_app]
          show rowsO ow ++ (o.G ++ []) = _
          rw [List.append_nil, ho]
        have hlvl : (looseV ow).length + j = (looseV (ow ++ [o])).length := by rw [hlv, List.length_append, looseV1_len]
        have hcut : cutAt D0 keep i = (n, o.f) := by
          unfold cutAt
          rw [← hn, ← hfn, ho]
        have hfile : FileOk (rowsO (ow ++ [o]) ++ R0) (fileV a51 cb.length c51 f.d) o.f := ⟨a51, c51, by rw [hof.1, hof.2], by
          rw [hro, List.append_assoc, hof.1]
          exact Rowy.app hG51.rowy, fun q => (hG51.nil0 q).1, by
          rw [hof.1, ← htk]
          exact take_bytes hfB⟩
        have hcbl : o.f.bs.length = cb.length := by rw [hof.1]
        have hnk : (mx.kv.map (·.1)).Nodup := by rw [← keys_es]; exact hDi.keys
        have hDn : DkI (rowsO (ow ++ [o]) ++ R0) { D with fs := setF D.fs n o.f } (setX mx n (fileV a51 cb.length c51 f.d) cb.length) := by
          have h0 : DkI (rowsO (ow ++ [o]) ++ R0) D mx := ⟨⟨by
            rw [hro, List.append_assoc]
            exact hDi.di.rel.mid, hDi.di.nd⟩, hDi.ok, hDi.room, hDi.left, hDi.used⟩
          have h1 := h0.set n hfile hn64 ⟨by rw [hof.2]; omega, by rw [hof.1, hof.2]; omega⟩ (by
            have := hDi.used
            rw [hcbl, ← hf]
            omega)
          rw [hcbl] at h1
          exact h1
        refine WX.region rfl ?_
        refine WXL.move Met.none rfl ?_
        refine WXL.move Met.none rfl ?_
        refine WXL.ldN (vs := [_, _]) Met.none rfl agg71 sz71 ?_
        refine WXL.cl (O1 := dkO d bm D mx ((b9, ⟨0, false, [.slice a51 cb.length c51, I (dn : Int)]⟩) :: (G7 ++ ((rowsO ow ++ G51) ++ B)))) Met.none rfl (fnOk_of Try.func38 (by decide +kernel)) rfl sub_ (set_ok _ d bm D mx n a51 cb.length c51 (dn : Int)) (fun v O' hp => ?_)
        obtain rfl := hp
        refine WXL.nil ?_
        refine Fin.block_normal ?_
        refine Fin.then_normal ?_
        refine WX.region rfl ?_
        refine WXL.bin Met.none rfl rfl bvA ?_
        refine WXL.move Met.none rfl ?_
        refine WXL.nil ?_
        rw [← hdn]
        refine Fin.loop_next (⟨i + 1, ow ++ [o], { D with fs := setF D.fs n o.f }, setX mx n (fileV a51 cb.length c51 f.d) cb.length, a7, c7, G7⟩ : CrS) ⟨by simp only; omega, ?_, ?_, ?_, ?_, ?_, hDn, hsame, ?_⟩ (by simp only; omega) ?_
        · simp only
          rw [List.map_append, how, cuts_succ, hcut, ho]
          rfl
        · intro o' h'
          rcases List.mem_append.1 h' with q | q
          · exact hgr o' q
          · rw [List.mem_singleton] at q; subst q; exact ⟨hoG, by rw [hof.1, ← htk]; exact take_bytes hfB⟩
        · intro o' h' hne
          simp only
          rw [setX_get hnk]
          rcases List.mem_append.1 h' with q | q
          · rw [if_neg (fun e => hnot (by rw [← how, List.map_map]; exact List.mem_map.2 ⟨o', q, e⟩))]
            exact hval o' q hne
          · rw [List.mem_singleton] at q
            subst q
            rw [if_pos (by rw [ho]), if_neg (fun e => hne (by rw [hof.1]; exact List.length_eq_zero_iff.1 e)), hof.1, hof.2]
            rw [ho]
        · intro m
          simp only
          rw [get_set' hDi.di.nd, cuts_succ, mget_app, hcut]
          by_cases hm : m = n
          · subst hm
            rw [if_pos rfl, mget_none hnot]
            simp only [mget, if_pos, Option.or, Option.getD_some]
            split
            · rename_i hb0
              have h5 : o.f.d = 0 := by
                rw [hof.1] at hb0
                rw [hof.2]
                rw [hb0] at hcl
                simp at hcl
                omega
              cases hof' : o.f with
              | mk b' d' => rw [hof'] at hb0 h5; simp only at hb0 h5; rw [hb0, h5]
            · rfl
          · rw [if_neg hm, hget m]
            simp only [mget, if_neg hm]
            cases mget m (cuts D0 keep i) <;> rfl
        · intro e he
          rcases mem_set he with q | q
          · rw [q]; exact hnin
          · exact hkeys e q
        · simp only
          rw [← hlvl, hlv]
          exact hG7
        · simp only
          rw [hro, ← hlvl]
          exact (fun s hs => hs.tl [0, 1] 3)
    · try simp only [cnd] at hc1
      refine WX.skip ?_
      refine Fin.then_normal ?_
      refine WX.seq ?_
      have hcat : ∃ z : Int, z = kk := ⟨_, rfl⟩
      have hkk2 : kk = if i < keep.length then max 0 (min (nth keep i) (f.bs.length - f.d)) else 0 := hkk
      first | rw [if_pos hik2] at hkk2 | rw [if_neg (by omega)] at hkk2
      refine WX.region rfl ?_
      refine WXL.fieldAddr (off' := 0) Met.none rfl Try.underlying71 rfl sz27 rfl ?_
      first | refine WXL.ld Met.none rfl agg27 ?_ | refine WXL.ldS Met.none rfl agg27 ?_
      refine WXL.fieldAddr (off' := 1) Met.none rfl Try.underlying71 rfl sz3 rfl ?_
      first | refine WXL.ld Met.none rfl agg3 ?_ | refine WXL.ldS Met.none rfl agg3 ?_
      refine WXL.move Met.none rfl ?_
      refine WXL.bin Met.none rfl rfl bvA ?_
      refine WXL.pre (m := cb.length) Met.none rfl rfl elem27 sz5 (Rowy.cons (Rowy.cons (Rowy.cons hrow))) hnil ?_
      refine WXL.cl (O1 := _) Met.none rfl (fnOk_of Try.func37 (by decide +kernel)) rfl (fun _ h => h) (clone_ok _ cb fa cb.length (by omega) (fun q => by
      have := hrow.nil0 q
      have h2 : cb.length = 0 := by omega
      exact List.length_eq_zero_iff.1 h2) (Src.cons (Src.cons (Src.cons (by
      have hpre := hrow.pre (m := cb.length) (by omega)
      rw [Nat.mul_one, ← List.map_take, htk] at hpre
      exact hpre.src hpre.nil0))))) (fun v O' hp => ?_)
      obtain ⟨a51, c51, G51, rfl, hG51, rfl⟩ := hp
      refine WXL.re (O' := (b9, ⟨0, false, [.slice fa f.bs.length fc, I f.d]⟩) :: dkO d bm D mx (G6 ++ ((rowsO ow ++ G51) ++ B))) ?_
      refine WXL.fieldAddr (off' := 0) Met.none rfl Try.underlying71 rfl sz27 rfl ?_
      refine WXL.st (vs := [_]) (c' := [_, _]) (j := 0) Met.none rfl rfl rfl sz27 ?_ (hj := rfl)
      refine WXL.nil ?_
      refine Fin.then_normal ?_
      refine WX.seq ?_
      refine WX.seq ?_
      refine WX.region rfl ?_
      refine WXL.fieldAddr (off' := 1) Met.none rfl Try.underlying71 rfl sz3 rfl ?_
      first | refine WXL.ld Met.none rfl agg3 ?_ | refine WXL.ldS Met.none rfl agg3 ?_
      refine WXL.assign Met.none rfl ?_
      refine WXL.nil ?_
      refine Fin.then_normal ?_
      refine WX.block ?_
      obtain ⟨dn, hdn⟩ : ∃ dn : Nat, f.d = (dn : Int) := ⟨f.d.toNat, by omega⟩
      have hsC : Src ((rowsO ow ++ G51) ++ B) 1 (.slice a51 cb.length c51) cb.length (cb.map B8) := by rw [List.append_assoc]; exact Src.app hG51.src
      rw [hdn]
      refine WX.loop (fun q : Nat × Option Addr × Nat × Objs => [(0, Ptr d 0), (1, .slice ak keep.length ck), (2, I flip), (6, .slice q.2.1 ((looseV ow).length + q.1) q.2.2.1), (8, I n), (9, Ptr b9 0), (11, I ((dn + q.1 : Nat) : Int)), (15, .slice a15 (fnos D0).length c15), (16, I ((fnos D0).length : Nat)), (17, I (i : Nat))]) (fun q => (b9, ⟨0, false, [.slice a51 cb.length c51, I (dn : Int)]⟩) :: dkO d bm D mx (q.2.2.2 ++ ((rowsO ow ++ G51) ++ B))) (fun q => dn + q.1 ≤ cb.length ∧ Grow 1 q.2.1 ((looseV ow).length + q.1) q.2.2.1 (looseV ow ++ looseV1 a51 dn q.1) q.2.2.2) (fun q => cb.length - q.1) (0, a6, c6, G6) ⟨by show dn + 0 ≤ _; omega, by rw [show looseV1 a51 dn 0 = [] from rfl, List.append_nil]; exact hloose⟩ (fun s hs => hs.tl [] 0) (fun q hq => ?_)
      obtain ⟨j, a7, c7, G7⟩ := q
      obtain ⟨hj, hG7⟩ := hq
      simp only at hj hG7
      dsimp only
      refine WX.seq ?_
      refine WX.seq ?_
      refine WX.region rfl ?_
      refine WXL.move Met.none rfl ?_
      refine WXL.fieldAddr (off' := 0) Met.none rfl Try.underlying71 rfl sz27 rfl ?_
      first | refine WXL.ld Met.none rfl agg27 ?_ | refine WXL.ldS Met.none rfl agg27 ?_
      refine WXL.len Met.none rfl Try.underlying27 ?_
      refine WXL.bin Met.none rfl rfl rfl ?_
      refine WXL.nil ?_
      refine Fin.then_normal ?_
      refine WX.cond rfl (fun hc2 => ?_) (fun hc2 => ?_)
      · try simp only [cnd] at hc2
        refine WX.skip ?_
        refine Fin.then_normal ?_
        refine WX.seq ?_
        refine WX.block ?_
        obtain ⟨b51, rfl, hG51e, hcl51⟩ : ∃ b51, a51 = some ⟨b51, 0, none⟩ ∧ G51 = [(b51, ⟨1, false, cb.map B8⟩)] ∧ (cb.map B8).length = cb.length * 1 := by
          rcases hG51 with ⟨_, h0, _⟩ | h
          · omega
          · exact h
        refine WX.region rfl ?_
        refine WXL.move Met.none rfl ?_
        refine WXL.fieldAddr (off' := 0) Met.none rfl Try.underlying71 rfl sz27 rfl ?_
        first | refine WXL.ld Met.none rfl agg27 ?_ | refine WXL.ldS Met.none rfl agg27 ?_
        refine WXL.move Met.none rfl ?_
        first | refine WXL.ix Met.none rfl rfl elem27 sz5 ?_ | refine WXL.ixS Met.none rfl rfl elem27 sz5 ?_
        refine WXL.buildSlice (c := [_]) Met.none rfl elem74 sz76 zero76 (by decide) (by decide) rfl rfl rfl rfl (fun b67 => ?_)
        refine WXL.apG [_, _, _, _] Met.none rfl rfl isrow74 elem74 sz76 by76 zero76 (Src.lit (cs := [_])) (fun a68 c68 G68 hG68 => ?_)
        refine WXL.assign Met.none rfl ?_
        refine WXL.nil ?_
        refine Fin.block_normal ?_
        refine Fin.then_normal ?_
        refine WX.region rfl ?_
        refine WXL.move Met.none rfl ?_
        refine WXL.bin Met.none rfl rfl bvA ?_
        refine WXL.assign Met.none rfl ?_
        refine WXL.nil ?_
        refine Fin.loop_next (j + 1, a68, c68, G68) ⟨by simp only; omega, ?_⟩ (by simp only; omega) (fun s hs => hs.tl [] 1)
        simp only
        rw [looseV1_succ, ← List.append_assoc, show ePtr (some ⟨b51, 0, none⟩) (dn + j) = Ptr b51 (dn + j) from by unfold ePtr; simp]
        exact hG68
      · try simp only [cnd] at hc2
        refine WX.exit ?_
        refine Fin.then_exit ?_
        refine Fin.loop_exit ?_
        refine Fin.block_hit rfl ?_
        refine Fin.then_normal ?_
        have hjl : j = cb.length - dn := by omega
        obtain ⟨o, ho⟩ : ∃ o : OwnF, o = ⟨n, cutF keep i f, a51, c51, G51⟩ := ⟨_, rfl⟩
        have hof : o.f.bs = cb ∧ o.f.d = f.d := by rw [ho]; exact ⟨hcb.symm, rfl⟩
        have hoG : Grow 1 o.a o.f.bs.length o.c (o.f.bs.map B8) o.G := by rw [hof.1, ho]; exact hG51
        have hlo : looseN o.f = j := by
          unfold looseN
          rw [hof.1, hof.2, hdn, Int.toNat_natCast, hjl]
        have hlv : looseV (ow ++ [o]) = looseV ow ++ looseV1 a51 dn j := by
          rw [looseV_app]
          show looseV ow ++ (looseV1 o.a o.f.d.toNat (looseN o.f) ++ []) = _
          rw [List.append_nil, hlo, hof.2, hdn, Int.toNat_natCast, ho]
        have hro : rowsO (ow ++ [o]) = rowsO ow ++ G51 := by
          rw [rowsO_app]
          show rowsO ow ++ (o.G ++ []) = _
          rw [List.append_nil, ho]
        have hlvl : (looseV ow).length + j = (looseV (ow ++ [o])).length := by rw [hlv, List.length_append, looseV1_len]
        have hcut : cutAt D0 keep i = (n, o.f) := by
          unfold cutAt
          rw [← hn, ← hfn, ho]
        have hfile : FileOk (rowsO (ow ++ [o]) ++ R0) (fileV a51 cb.length c51 f.d) o.f := ⟨a51, c51, by rw [hof.1, hof.2], by
          rw [hro, List.append_assoc, hof.1]
          exact Rowy.app hG51.rowy, fun q => (hG51.nil0 q).1, by
          rw [hof.1, ← htk]
          exact take_bytes hfB⟩
        have hcbl : o.f.bs.length = cb.length := by rw [hof.1]
        have hnk : (mx.kv.map (·.1)).Nodup := by rw [← keys_es]; exact hDi.keys
        have hDn : DkI (rowsO (ow ++ [o]) ++ R0) { D with fs := setF D.fs n o.f } (setX mx n (fileV a51 cb.length c51 f.d) cb.length) := by
          have h0 : DkI (rowsO (ow ++ [o]) ++ R0) D mx := ⟨⟨by
            rw [hro, List.append_assoc]
            exact hDi.di.rel.mid, hDi.di.nd⟩, hDi.ok, hDi.room, hDi.left, hDi.used⟩
          have h1 := h0.set n hfile hn64 ⟨by rw [hof.2]; omega, by rw [hof.1, hof.2]; omega⟩ (by
            have := hDi.used
            rw [hcbl, ← hf]
            omega)
          rw [hcbl] at h1
          exact h1
        refine WX.region rfl ?_
        refine WXL.move Met.none rfl ?_
        refine WXL.move Met.none rfl ?_
        refine WXL.ldN (vs := [_, _]) Met.none rfl agg71 sz71 ?_
        refine WXL.cl (O1 := dkO d bm D mx ((b9, ⟨0, false, [.slice a51 cb.length c51, I (dn : Int)]⟩) :: (G7 ++ ((rowsO ow ++ G51) ++ B)))) Met.none rfl (fnOk_of Try.func38 (by decide +kernel)) rfl sub_ (set_ok _ d bm D mx n a51 cb.length c51 (dn : Int)) (fun v O' hp => ?_)
        obtain rfl := hp
        refine WXL.nil ?_
        refine Fin.block_normal ?_
        refine Fin.then_normal ?_
        refine WX.region rfl ?_
        refine WXL.bin Met.none rfl rfl bvA ?_
        refine WXL.move Met.none rfl ?_
        refine WXL.nil ?_
        rw [← hdn]
        refine Fin.loop_next (⟨i + 1, ow ++ [o], { D with fs := setF D.fs n o.f }, setX mx n (fileV a51 cb.length c51 f.d) cb.length, a7, c7, G7⟩ : CrS) ⟨by simp only; omega, ?_, ?_, ?_, ?_, ?_, hDn, hsame, ?_⟩ (by simp only; omega) ?_
        · simp only
          rw [List.map_append, how, cuts_succ, hcut, ho]
          rfl
        · intro o' h'
          rcases List.mem_append.1 h' with q | q
          · exact hgr o' q
          · rw [List.mem_singleton] at q; subst q; exact ⟨hoG, by rw [hof.1, ← htk]; exact take_bytes hfB⟩
        · intro o' h' hne
          simp only
          rw [setX_get hnk]
          rcases List.mem_append.1 h' with q | q
          · rw [if_neg (fun e => hnot (by rw [← how, List.map_map]; exact List.mem_map.2 ⟨o', q, e⟩))]
            exact hval o' q hne
          · rw [List.mem_singleton] at q
            subst q
            rw [if_pos (by rw [ho]), if_neg (fun e => hne (by rw [hof.1]; exact List.length_eq_zero_iff.1 e)), hof.1, hof.2]
            rw [ho]
        · intro m
          simp only
          rw [get_set' hDi.di.nd, cuts_succ, mget_app, hcut]
          by_cases hm : m = n
          · subst hm
            rw [if_pos rfl, mget_none hnot]
            simp only [mget, if_pos, Option.or, Option.getD_some]
            split
            · rename_i hb0
              have h5 : o.f.d = 0 := by
                rw [hof.1] at hb0
                rw [hof.2]
                rw [hb0] at hcl
                simp at hcl
                omega
              cases hof' : o.f with
              | mk b' d' => rw [hof'] at hb0 h5; simp only at hb0 h5; rw [hb0, h5]
            · rfl
          · rw [if_neg hm, hget m]
            simp only [mget, if_neg hm]
            cases mget m (cuts D0 keep i) <;> rfl
        · intro e he
          rcases mem_set he with q | q
          · rw [q]; exact hnin
          · exact hkeys e q
        · simp only
          rw [← hlvl, hlv]
          exact hG7
        · simp only
          rw [hro, ← hlvl]
          exact (fun s hs => hs.tl [0, 1] 3)
  · try simp only [cnd] at hc0
    refine WX.exit ?_
    refine Fin.then_exit ?_
    refine Fin.loop_exit ?_
    refine Fin.block_hit rfl ?_
    refine Fin.then_normal ?_
    refine WX.seq ?_
    refine WX.seq ?_
    have hie : i = (fnos D0).length := by omega
    have hC : CrI D0 keep R0 ⟨i, ow, D, mx, a6, c6, G6⟩ := ⟨hin, how, hgr, hval, hget, hkeys, hDi, hsame, hloose⟩
    have hcg := crash_get hC hie
    have hls : (looseV ow).length = looseSum (cuts D0 keep (fnos D0).length) := by rw [looseV_len, how, hie]
    have hlb : (looseV ow).length ≤ 1000000000000 := by omega
    refine WX.region rfl ?_
    refine WXL.move Met.none rfl ?_
    refine WXL.len Met.none rfl Try.underlying74 ?_
    refine WXL.bin Met.none rfl rfl bvM ?_
    refine WXL.assign Met.none rfl ?_
    refine WXL.nil ?_
    refine Fin.then_normal ?_
    refine WX.seq ?_
    refine WX.region rfl ?_
    refine WXL.move Met.none rfl ?_
    refine WXL.bin Met.none rfl rfl rfl ?_
    refine WXL.move Met.none rfl ?_
    refine WXL.split (d := 79) rfl (fun hg79 => ?_) (fun hg79 => ?_)
    · try simp only [cnd] at hg79
      refine WXL.move (Met.some rfl rfl rfl) rfl ?_
      refine WXL.bin (Met.some rfl rfl rfl) rfl rfl rfl ?_
      refine WXL.pick_t Met.none rfl rfl ?_
      refine WXL.nil ?_
      refine Fin.then_normal ?_
      refine WX.cond rfl (fun hc3 => ?_) (fun hc3 => ?_)
      · try simp only [cnd] at hc3
        refine WX.seq ?_
        obtain ⟨fl, hfle⟩ : ∃ fl : Nat, flip = (fl : Int) := ⟨flip.toNat, by omega⟩
        obtain ⟨q, hq⟩ : ∃ q, q = fl % (8 * (looseV ow).length) := ⟨_, rfl⟩
        have hqm : flip.tmod (8 * ((looseV ow).length : Int)) = (q : Int) := by
          rw [hfle, Int.tmod_eq_emod_of_nonneg (by omega), hq, Int.natCast_emod, Int.natCast_mul]
          rfl
        have hqlt : q < 8 * (looseV ow).length := by rw [hq]; exact Nat.mod_lt _ (by omega)
        have hq8 : (q : Int).tdiv 8 = ((q / 8 : Nat) : Int) := by rw [Int.tdiv_eq_ediv_of_nonneg (by omega)]; omega
        have hq8m : (q : Int).tmod 8 = ((q % 8 : Nat) : Int) := by rw [Int.tmod_eq_emod_of_nonneg (by omega)]; omega
        obtain ⟨ow1, o, ow2, r, how2, hr, hpv, hfc⟩ := flip_split (7 - q % 8) ow (q / 8) (by rw [← looseV_len]; omega)
        have hom : o ∈ ow := by rw [how2]; simp
        obtain ⟨hoG, hoB⟩ := hgr o hom
        have hrl : o.f.d.toNat + r < o.f.bs.length := by unfold looseN at hr; omega
        have hone : o.f.bs ≠ [] := fun e => by rw [e] at hrl; simp at hrl
        obtain ⟨b, hoa, hoGe⟩ : ∃ b, o.a = some ⟨b, 0, none⟩ ∧ o.G = [(b, ⟨1, false, o.f.bs.map B8⟩)] := by
          rcases hoG with ⟨_, h0, _⟩ | ⟨b, h1, h2, _⟩
          · omega
          · exact ⟨b, h1, h2⟩
        obtain ⟨z, hz⟩ : ∃ z, z = o.f.d.toNat + r := ⟨_, rfl⟩
        rw [← hz] at hrl hpv hfc
        rw [hoa, show ePtr (some ⟨b, 0, none⟩) z = Ptr b z from by unfold ePtr; simp] at hpv
        have hrs : rowsO ow = rowsO ow1 ++ ([(b, ⟨1, false, o.f.bs.map B8⟩)] ++ rowsO ow2) := by rw [how2, rowsO_app, rowsO_cons, hoGe]
        rw [hrs]
        refine WX.re (O' := (b, ⟨1, false, o.f.bs.map B8⟩) :: dkO d bm D mx (G6 ++ ((rowsO ow1 ++ rowsO ow2) ++ B))) ?_
        refine WX.region rfl ?_
        refine WXL.move Met.none rfl ?_
        refine WXL.move Met.none rfl ?_
        refine WXL.rem Met.none rfl rfl (by omega) ?_
        rw [hqm]
        refine WXL.assign Met.none rfl ?_
        refine WXL.nil ?_
        refine Fin.then_normal ?_
        refine WX.draw rfl ?_
        refine WXL.move Met.none rfl ?_
        refine WXL.move Met.none rfl ?_
        refine WXL.qu Met.none rfl rfl ?_ (hr := (show IntKind.wrap .i64 ((q : Int).tdiv 8) = ((q / 8 : Nat) : Int) from by rw [hq8]; exact wrap_i64 (by omega) (by omega)))
        first | refine WXL.ix Met.none rfl rfl elem74 sz76 ?_ | refine WXL.ixS Met.none rfl rfl elem74 sz76 ?_
        first | refine WXL.ld Met.none rfl agg76 ?_ (hv := hpv) | refine WXL.ldS Met.none rfl agg76 ?_ (hv := hpv)
        refine WXL.nilCheck Met.none rfl ?_
        first | refine WXL.ld Met.none rfl agg5 ?_ | refine WXL.ldS Met.none rfl agg5 ?_
        refine WXL.move Met.none rfl ?_
        refine WXL.rem Met.none rfl rfl (by omega) ?_
        rw [hq8m]
        refine WXL.bin Met.none rfl rfl bvS ?_
        refine WXL.shl Met.none rfl rfl (by omega) ?_
        rw [show ((7 : Int) - ((q % 8 : Nat) : Int)).toNat = 7 - q % 8 from by omega]
        refine WXL.bin Met.none rfl rfl (show _ = some (B8 (flipB (nth o.f.bs z) (7 - q % 8))) from rfl) ?_
        refine WXL.nilCheck Met.none rfl ?_
        refine WXL.st (vs := [_]) (j := 0) Met.none rfl rfl rfl sz5 ?_ (hj := rfl)
        refine WXL.nil ?_
        refine Fin.then_normal ?_
        refine WX.seq ?_
        first
        | obtain ⟨f2, hf2⟩ : ∃ f2 : Fi, f2 = ⟨o.f.bs.set z (flipB (nth o.f.bs z) (7 - q % 8)), o.f.d⟩ := ⟨_, rfl⟩
          have hz8 := flipB_range (nth o.f.bs z) (7 - q % 8)
          obtain ⟨hDf, hgf, hgc⟩ := crash_flip hC hie hnd (f2 := f2) how2 hoa hone (by rw [hf2]; exact List.length_set) (by rw [hf2]) (by
            rw [hf2]
            intro y hy
            rcases List.mem_or_eq_of_mem_set hy with p | p
            · exact hoB y p
            · rw [p]; exact hz8)
          have hcc : crashC D0 keep flip = ow1.map OwnF.nf ++ (o.n, f2) :: ow2.map OwnF.nf := by
            unfold crashC
            simp only
            rw [← hls, if_pos (by omega), show flip.toNat = fl by omega, ← hq, hf2, ← hfc, how, hie]
          obtain ⟨Df, hDfe⟩ : ∃ Df : Dk, Df = { D with fs := mput o.n f2 D.fs } := ⟨_, rfl⟩
          obtain ⟨NN, hNN⟩ : ∃ NN, NN = rowsO ow1 ++ ((b, ⟨1, false, f2.bs.map B8⟩) :: rowsO ow2) := ⟨_, rfl⟩
          have hDk : DkI (NN ++ R0) Df mx := by rw [hNN, hDfe]; exact hDf
          have hgg : ∀ m, getF Df.fs m = (mget m (crashC D0 keep flip)).getD ⟨[], 0⟩ := fun m => by rw [hDfe, hcc]; exact (hgf m).trans (hgc m).symm
          have hrm : Df.room = D0.room := by rw [hDfe]; exact hsame.1
          refine WX.re (O' := dkO d bm Df mx (NN ++ R)) ?_ (by rw [hDfe, hNN, hB, hf2]; exact sub_)
        | obtain ⟨Df, hDfe⟩ : ∃ Df : Dk, Df = D := ⟨_, rfl⟩
          obtain ⟨NN, hNN⟩ : ∃ NN, NN = rowsO ow := ⟨_, rfl⟩
          have hDk : DkI (NN ++ R0) Df mx := by rw [hNN, hDfe]; exact hDi
          have hgg : ∀ m, getF Df.fs m = (mget m (crashC D0 keep flip)).getD ⟨[], 0⟩ := fun m => by
            have hcc : crashC D0 keep flip = cuts D0 keep (fnos D0).length := by
              unfold crashC
              simp only
              rw [← hls, if_neg (by omega)]
            rw [hcc, hDfe]
            exact hcg m
          have hrm : Df.room = D0.room := by rw [hDfe]; exact hsame.1
          refine WX.re (O' := dkO d bm Df mx (NN ++ R)) ?_ (by rw [hDfe, hNN, hB]; exact sub_)
        refine WX.region rfl ?_
        refine WXL.move Met.none rfl ?_
        refine WXL.cl (O1 := _) Met.none rfl (fnOk_of Try.func40 (by decide +kernel)) rfl (fun _ h => h) (harden_ok _ d bm Df mx hDk) (fun v O' hp => ?_)
        obtain ⟨rfl, hO⟩ := hp
        subst O'
        refine WXL.nil ?_
        refine Fin.then_normal ?_
        refine WX.region rfl ?_
        refine WXL.move Met.none rfl ?_
        refine WXL.move Met.none rfl ?_
        refine WXL.nilCheck Met.none rfl ?_
        first | refine WXL.fieldAddr Met.none rfl Try.underlying68 rfl sz4 rfl ?_ | refine WXL.faS Met.none rfl Try.underlying68 rfl sz4 ?_
        refine WXL.st (vs := [_]) (j := 0) Met.none rfl rfl rfl sz4 ?_ (hj := rfl)
        refine WXL.nilCheck Met.none rfl ?_
        first | refine WXL.fieldAddr Met.none rfl Try.underlying68 rfl sz4 rfl ?_ | refine WXL.faS Met.none rfl Try.underlying68 rfl sz4 ?_
        refine WXL.st (vs := [_]) (j := 0) Met.none rfl rfl rfl sz4 ?_ (hj := rfl)
        refine WXL.nil ?_
        exact Fin.result (O' := dkO d bm ⟨Df.room, false, false, Df.left, hardAll Df.fs⟩ mx.hard (NN ++ R)) (.inl rfl) rfl rfl drop_ ⟨mx.hard, NN, ⟨Df.room, false, false, Df.left, hardAll Df.fs⟩, rfl, ⟨hDk.hard.di, hDk.hard.ok, hDk.hard.room, (fun e => by cases e), hDk.hard.used⟩, hrm, rfl, rfl, fun m => by
          rw [get_hardE, hgg]⟩
      · try simp only [cnd] at hc3
        refine WX.skip ?_
        refine Fin.then_normal ?_
        refine WX.seq ?_
        first
        | obtain ⟨f2, hf2⟩ : ∃ f2 : Fi, f2 = ⟨o.f.bs.set z (flipB (nth o.f.bs z) (7 - q % 8)), o.f.d⟩ := ⟨_, rfl⟩
          have hz8 := flipB_range (nth o.f.bs z) (7 - q % 8)
          obtain ⟨hDf, hgf, hgc⟩ := crash_flip hC hie hnd (f2 := f2) how2 hoa hone (by rw [hf2]; exact List.length_set) (by rw [hf2]) (by
            rw [hf2]
            intro y hy
            rcases List.mem_or_eq_of_mem_set hy with p | p
            · exact hoB y p
            · rw [p]; exact hz8)
          have hcc : crashC D0 keep flip = ow1.map OwnF.nf ++ (o.n, f2) :: ow2.map OwnF.nf := by
            unfold crashC
            simp only
            rw [← hls, if_pos (by omega), show flip.toNat = fl by omega, ← hq, hf2, ← hfc, how, hie]
          obtain ⟨Df, hDfe⟩ : ∃ Df : Dk, Df = { D with fs := mput o.n f2 D.fs } := ⟨_, rfl⟩
          obtain ⟨NN, hNN⟩ : ∃ NN, NN = rowsO ow1 ++ ((b, ⟨1, false, f2.bs.map B8⟩) :: rowsO ow2) := ⟨_, rfl⟩
          have hDk : DkI (NN ++ R0) Df mx := by rw [hNN, hDfe]; exact hDf
          have hgg : ∀ m, getF Df.fs m = (mget m (crashC D0 keep flip)).getD ⟨[], 0⟩ := fun m => by rw [hDfe, hcc]; exact (hgf m).trans (hgc m).symm
          have hrm : Df.room = D0.room := by rw [hDfe]; exact hsame.1
          refine WX.re (O' := dkO d bm Df mx (NN ++ R)) ?_ (by rw [hDfe, hNN, hB, hf2]; exact sub_)
        | obtain ⟨Df, hDfe⟩ : ∃ Df : Dk, Df = D := ⟨_, rfl⟩
          obtain ⟨NN, hNN⟩ : ∃ NN, NN = rowsO ow := ⟨_, rfl⟩
          have hDk : DkI (NN ++ R0) Df mx := by rw [hNN, hDfe]; exact hDi
          have hgg : ∀ m, getF Df.fs m = (mget m (crashC D0 keep flip)).getD ⟨[], 0⟩ := fun m => by
            have hcc : crashC D0 keep flip = cuts D0 keep (fnos D0).length := by
              unfold crashC
              simp only
              rw [← hls, if_neg (by omega)]
            rw [hcc, hDfe]
            exact hcg m
          have hrm : Df.room = D0.room := by rw [hDfe]; exact hsame.1
          refine WX.re (O' := dkO d bm Df mx (NN ++ R)) ?_ (by rw [hDfe, hNN, hB]; exact sub_)
        refine WX.region rfl ?_
        refine WXL.move Met.none rfl ?_
        refine WXL.cl (O1 := _) Met.none rfl (fnOk_of Try.func40 (by decide +kernel)) rfl (fun _ h => h) (harden_ok _ d bm Df mx hDk) (fun v O' hp => ?_)
        obtain ⟨rfl, hO⟩ := hp
        subst O'
        refine WXL.nil ?_
        refine Fin.then_normal ?_
        refine WX.region rfl ?_
        refine WXL.move Met.none rfl ?_
        refine WXL.move Met.none rfl ?_
        refine WXL.nilCheck Met.none rfl ?_
        first | refine WXL.fieldAddr Met.none rfl Try.underlying68 rfl sz4 rfl ?_ | refine WXL.faS Met.none rfl Try.underlying68 rfl sz4 ?_
        refine WXL.st (vs := [_]) (j := 0) Met.none rfl rfl rfl sz4 ?_ (hj := rfl)
        refine WXL.nilCheck Met.none rfl ?_
        first | refine WXL.fieldAddr Met.none rfl Try.underlying68 rfl sz4 rfl ?_ | refine WXL.faS Met.none rfl Try.underlying68 rfl sz4 ?_
        refine WXL.st (vs := [_]) (j := 0) Met.none rfl rfl rfl sz4 ?_ (hj := rfl)
        refine WXL.nil ?_
        exact Fin.result (O' := dkO d bm ⟨Df.room, false, false, Df.left, hardAll Df.fs⟩ mx.hard (NN ++ R)) (.inl rfl) rfl rfl drop_ ⟨mx.hard, NN, ⟨Df.room, false, false, Df.left, hardAll Df.fs⟩, rfl, ⟨hDk.hard.di, hDk.hard.ok, hDk.hard.room, (fun e => by cases e), hDk.hard.used⟩, hrm, rfl, rfl, fun m => by
          rw [get_hardE, hgg]⟩
    · try simp only [cnd] at hg79
      refine WXL.miss (j := 2) (d := 79) rfl rfl rfl ?_
      refine WXL.miss (j := 2) (d := 79) rfl rfl rfl ?_
      refine WXL.pick_f Met.none rfl rfl ?_
      refine WXL.nil ?_
      refine Fin.then_normal ?_
      refine WX.cond rfl (fun hc3 => nomatch hc3) (fun hc3 => ?_)
      refine WX.skip ?_
      refine Fin.then_normal ?_
      refine WX.seq ?_
      first
      | obtain ⟨f2, hf2⟩ : ∃ f2 : Fi, f2 = ⟨o.f.bs.set z (flipB (nth o.f.bs z) (7 - q % 8)), o.f.d⟩ := ⟨_, rfl⟩
        have hz8 := flipB_range (nth o.f.bs z) (7 - q % 8)
        obtain ⟨hDf, hgf, hgc⟩ := crash_flip hC hie hnd (f2 := f2) how2 hoa hone (by rw [hf2]; exact List.length_set) (by rw [hf2]) (by
          rw [hf2]
          intro y hy
          rcases List.mem_or_eq_of_mem_set hy with p | p
          · exact hoB y p
          · rw [p]; exact hz8)
        have hcc : crashC D0 keep flip = ow1.map OwnF.nf ++ (o.n, f2) :: ow2.map OwnF.nf := by
          unfold crashC
          simp only
          rw [← hls, if_pos (by omega), show flip.toNat = fl by omega, ← hq, hf2, ← hfc, how, hie]
        obtain ⟨Df, hDfe⟩ : ∃ Df : Dk, Df = { D with fs := mput o.n f2 D.fs } := ⟨_, rfl⟩
        obtain ⟨NN, hNN⟩ : ∃ NN, NN = rowsO ow1 ++ ((b, ⟨1, false, f2.bs.map B8⟩) :: rowsO ow2) := ⟨_, rfl⟩
        have hDk : DkI (NN ++ R0) Df mx := by rw [hNN, hDfe]; exact hDf
        have hgg : ∀ m, getF Df.fs m = (mget m (crashC D0 keep flip)).getD ⟨[], 0⟩ := fun m => by rw [hDfe, hcc]; exact (hgf m).trans (hgc m).symm
        have hrm : Df.room = D0.room := by rw [hDfe]; exact hsame.1
        refine WX.re (O' := dkO d bm Df mx (NN ++ R)) ?_ (by rw [hDfe, hNN, hB, hf2]; exact sub_)
      | obtain ⟨Df, hDfe⟩ : ∃ Df : Dk, Df = D := ⟨_, rfl⟩
        obtain ⟨NN, hNN⟩ : ∃ NN, NN = rowsO ow := ⟨_, rfl⟩
        have hDk : DkI (NN ++ R0) Df mx := by rw [hNN, hDfe]; exact hDi
        have hgg : ∀ m, getF Df.fs m = (mget m (crashC D0 keep flip)).getD ⟨[], 0⟩ := fun m => by
          have hcc : crashC D0 keep flip = cuts D0 keep (fnos D0).length := by
            unfold crashC
            simp only
            rw [← hls, if_neg (by omega)]
          rw [hcc, hDfe]
          exact hcg m
        have hrm : Df.room = D0.room := by rw [hDfe]; exact hsame.1
        refine WX.re (O' := dkO d bm Df mx (NN ++ R)) ?_ (by rw [hDfe, hNN, hB]; exact sub_)
      refine WX.region rfl ?_
      refine WXL.move Met.none rfl ?_
      refine WXL.cl (O1 := _) Met.none rfl (fnOk_of Try.func40 (by decide +kernel)) rfl (fun _ h => h) (harden_ok _ d bm Df mx hDk) (fun v O' hp => ?_)
      obtain ⟨rfl, hO⟩ := hp
      subst O'
      refine WXL.nil ?_
      refine Fin.then_normal ?_
      refine WX.region rfl ?_
      refine WXL.move Met.none rfl ?_
      refine WXL.move Met.none rfl ?_
      refine WXL.nilCheck Met.none rfl ?_
      first | refine WXL.fieldAddr Met.none rfl Try.underlying68 rfl sz4 rfl ?_ | refine WXL.faS Met.none rfl Try.underlying68 rfl sz4 ?_
      refine WXL.st (vs := [_]) (j := 0) Met.none rfl rfl rfl sz4 ?_ (hj := rfl)
      refine WXL.nilCheck Met.none rfl ?_
      first | refine WXL.fieldAddr Met.none rfl Try.underlying68 rfl sz4 rfl ?_ | refine WXL.faS Met.none rfl Try.underlying68 rfl sz4 ?_
      refine WXL.st (vs := [_]) (j := 0) Met.none rfl rfl rfl sz4 ?_ (hj := rfl)
      refine WXL.nil ?_
      exact Fin.result (O' := dkO d bm ⟨Df.room, false, false, Df.left, hardAll Df.fs⟩ mx.hard (NN ++ R)) (.inl rfl) rfl rfl drop_ ⟨mx.hard, NN, ⟨Df.room, false, false, Df.left, hardAll Df.fs⟩, rfl, ⟨hDk.hard.di, hDk.hard.ok, hDk.hard.room, (fun e => by cases e), hDk.hard.used⟩, hrm, rfl, rfl, fun m => by
        rw [get_hardE, hgg]⟩

end Go.Proofs.Ytahaplbdhgfobaa.Eng

set_option linter.unusedVariables false
set_option linter.unusedSimpArgs false
set_option maxRecDepth 100000
namespace Go.Proofs.Ytahaplbdhgfobaa.Eng
open Go Go.Proofs Go.Shelf Go.RowKit

def cloneM_ren : Go.Shelf.Ren := ⟨fun | 5 => 50 | 7 => 56 | n => n, fun | 3 => 71 | 4 => 4 | 20 => 20 | 23 => 66 | 25 => 3 | n => n, fun n => n⟩
theorem cloneM : SlLaysW.n5 Try.prog cloneM_ren where
  mixed := Checked.mixed Try.checked
  f5 := ⟨"maps.Clone[map[int]skymosaic/disk.file,int,skymosaic/disk.file]", by decide, Try.func50.trans (congrArg some (by kernel_rfl))⟩
  f7 := Try.func56.trans (congrArg some (by kernel_rfl))
  t4 := Try.underlying4
  a4 := Try.isAgg4
  z4 := Try.sizeOf4
  v4 := Try.zeroValue4
  t20 := Try.underlying20
  a20 := Try.isAgg20
  z20 := Try.sizeOf20
  v20 := Try.zeroValue20
  t23 := Try.underlying66
  a23 := Try.isAgg66
  z23 := Try.sizeOf66
  v23 := Try.zeroValue66

theorem cloneM_sem {h : AHeap} {bm : Nat} {ro : Bool} {mx : MapX} (h2 : Is h bm ⟨2, ro, mcells mx⟩) :
    ∀ ρ, CallSem Try.prog ρ 50 #[Mp bm] h (Mp h.n) (h.new (.cells 2 false h.n none 0 (mcells mx))) := by
  intro ρ base ι w args' hr hbs hctx ha
  obtain ⟨f, k, o2⟩ := h2
  have ha1 : args'.size = 1 := ha.1
  obtain ⟨x, hx⟩ : ∃ x, args' = #[x] := by
    obtain ⟨l⟩ := args'
    match l, ha1 with
    | [x], _ => exact ⟨x, rfl⟩
  subst hx
  have hv := ha.2 0 (Mp bm) x rfl rfl
  obtain ⟨em, q1, q2, rfl⟩ := map_inv hv
  obtain ⟨hone, es, clock, hes, hmr⟩ := hr.maps bm em _ _ _ _ _ _ q1 q2 o2
  refine (AnyW.maps_Clone cloneM em.block es clock w hes).mono ?_
  rintro e w' ⟨rfl, rfl⟩
  have hsz : (w.alloc (.map es clock)).heap.size = w.heap.size + 1 := by simp
  have hb4 : ∀ B, B < w.heap.size → (w.alloc (.map es clock)).heap[B]? = w.heap[B]? := fun B hB => Below.heap_alloc _ _ B hB
  have hT : Turned w (w.alloc (.map es clock)) fun _ _ => False := ⟨rfl, rfl, rfl, by omega, fun B hB _ => hb4 B hB, fun B o u hc _ => by rw [(cell_eq (hb4 B (cell_lt hc))).1]; exact hc, fun B o u hc => ⟨⟨u, by rw [(cell_eq (hb4 B (cell_lt hc))).1]; exact hc⟩, (cell_eq (hb4 B (cell_lt hc))).2⟩⟩
  obtain ⟨n1, n2, n3⟩ := new_ok' hr hbs hT (en := ⟨w.heap.size, 0, 0, 2, true⟩) (sz := 2) (cn := mcells mx) ⟨Nat.le_refl _, by show w.heap.size < _; omega⟩ rfl (fun q => by cases q) (fun q => by cases q) (fun q => by cases q) (fun i hi => absurd hi (Nat.not_lt_zero _)) (fun _ => ⟨es, clock, World.alloc_heap_new _ _, hmr⟩)
  refine ⟨_, _, rfl, n3, ?_, n1, Keep0.grow rfl rfl rfl (by omega) hb4⟩
  exact .map (e := ⟨w.heap.size, 0, 0, 2, true⟩) (by unfold Lay.add; rw [if_pos rfl]) rfl

theorem cloneM_direct {h : AHeap} {bm : Nat} {ro : Bool} {mx : MapX} (h2 : Is h bm ⟨2, ro, mcells mx⟩) : Direct Try.prog 50 #[Mp bm] h (Mp h.n) (h.new (.cells 2 false h.n none 0 (mcells mx))) :=
  ⟨.inr (.inl ⟨_, _, rfl⟩), fun F ρ => by
    obtain ⟨f2, k2, e2⟩ := h2
    obtain ⟨r2, q2⟩ := un_cells (F := F) e2
    rw [un_new]
    exact cloneM_sem (ro := r2) ⟨f2, k2, q2⟩ ρ⟩

theorem cloneM_ok (q : Bool) (O : Objs) (bm sz : Nat) (ro : Bool) (mx : MapX) (hk : Knows O bm ⟨2, ro, mcells mx⟩) :
    Spec Try.prog q 50 #[Mp bm] O fun v O' => ∃ b, v = Mp b ∧ O' = (b, ⟨2, false, mcells mx⟩) :: O :=
  Spec.direct fun g hs => ⟨_, _, _, cloneM_direct (hk g hs), ⟨g.n, rfl, rfl⟩, hs.new 2 _, fun _ => ⟨Nat.le_succ _, fun b hb => by
    show (if b = g.n then _ else g.o b) = _
    rw [if_neg (by omega)]⟩⟩

end Go.Proofs.Ytahaplbdhgfobaa.Eng

set_option linter.unusedVariables false
set_option linter.unusedSimpArgs false
namespace Go.Proofs.Ytahaplbdhgfobaa.Eng

structure Rd where
  room : Int
  B : List (List Int)
  F : List Int
  off : Bool
  plan : Int

def sumR (g : Nat → Int) : Nat → Int
  | 0 => 0
  | n + 1 => sumR g n + g n
def lenR (M : Rd) (n : Nat) : Int := ((nth M.B n).length : Nat)
def usedR (M : Rd) : Int := sumR (lenR M) 64
def failsR (M : Rd) : Rd := { M with plan := max (M.plan - 1) (-2), off := M.off || decide (max (M.plan - 1) (-2) = -1) }
/-- A step: does the power fail, and the disk then. -/
def stepR (M : Rd) : Bool × Rd := if M.plan < 0 then (false, M) else ((failsR M).off, failsR M)
def appendR1 (M : Rd) (n : Int) (b : List Int) : Rd := { M with B := M.B.set n.toNat (nth M.B n.toNat ++ b) }
def appendR (M : Rd) (n : Int) (b : List Int) : Int × Rd :=
  if n < 0 ∨ n > 63 then (1, M) else if M.off = true then (23, M) else if usedR M + b.length > M.room then (22, M)
  else (if (stepR (appendR1 M n b)).1 = true then 23 else 0, (stepR (appendR1 M n b)).2)
def firmR (M : Rd) : Rd := { M with F := (List.range 64).map (lenR M) }
def syncR (M : Rd) : Int × Rd := if M.off = true then (23, M) else if (stepR M).1 = true then (23, (stepR M).2) else (0, firmR (stepR M).2)
def truncR (M : Rd) (n size : Int) : Int × Rd :=
  if n < 0 ∨ n > 63 ∨ size < 0 ∨ size > lenR M n.toNat then (1, M) else if M.off = true then (23, M) else if (stepR M).1 = true then (23, (stepR M).2)
  else (0, { (stepR M).2 with B := (stepR M).2.B.set n.toNat ((nth (stepR M).2.B n.toNat).take size.toNat), F := (stepR M).2.F.set n.toNat (min (nth (stepR M).2.F n.toNat) size) })
def armR (M : Rd) (n : Int) : Rd := if M.off = true then M else { M with plan := max n (-1) }
def armD (D : Dk) (n : Int) : Dk := if D.off = true then D else { D with armed := decide (0 ≤ n), left := n }

/-- The two disks are in one state. -/
structure Sim (D : Dk) (M : Rd) : Prop where
  room : M.room = D.room
  off : M.off = D.off
  pl : (D.armed = true ∧ M.plan = D.left ∧ 0 ≤ D.left) ∨ (D.armed = false ∧ M.plan < 0 ∧ -2 ≤ M.plan)
  lenB : M.B.length = 64
  lenF : M.F.length = 64
  file : ∀ n : Nat, n < 64 → getF D.fs (n : Nat) = ⟨nth M.B n, nth M.F n⟩

theorem sumR_congr {g h : Nat → Int} : ∀ {n : Nat}, (∀ i, i < n → g i = h i) → sumR g n = sumR h n
  | 0, _ => rfl
  | n + 1, hh => by
    unfold sumR
    rw [sumR_congr fun i hi => hh i (Nat.lt_succ_of_lt hi), hh n (Nat.lt_succ_self n)]

theorem sumR_upd (g : Nat → Int) (k : Nat) (a : Int) : ∀ n, sumR (fun i => if i = k then a else g i) n = sumR g n + (if k < n then a - g k else 0)
  | 0 => rfl
  | n + 1 => by
    unfold sumR
    rw [sumR_upd g k a n]
    by_cases h1 : n = k
    · subst h1
      rw [if_pos rfl, if_neg (by omega), if_pos (by omega)]
      omega
    · rw [if_neg h1]
      by_cases h2 : k < n
      · rw [if_pos h2, if_pos (by omega)]; omega
      · rw [if_neg h2, if_neg (by omega)]; omega

theorem used_sum : ∀ {fs : List (Int × Fi)}, (fs.map (·.1)).Nodup → (∀ e ∈ fs, 0 ≤ e.1 ∧ e.1 < 64) → used fs = sumR (fun n => ((getF fs (n : Nat)).bs.length : Nat)) 64
  | [], _, _ => by
    show (0 : Int) = sumR (fun _ => (0 : Int)) 64
    decide
  | (k, f) :: l, hn, hr => by
    simp only [List.map_cons, List.nodup_cons] at hn
    have ih := used_sum hn.2 fun e he => hr e (List.mem_cons_of_mem _ he)
    have hk := hr (k, f) (List.mem_cons_self ..)
    have h0 : getF l k = ⟨[], 0⟩ := by unfold getF; rw [mget_none hn.1]; rfl
    have e1 : sumR (fun n => ((getF ((k, f) :: l) (n : Nat)).bs.length : Nat)) 64 = sumR (fun i => if i = k.toNat then (f.bs.length : Int) else ((getF l (i : Nat)).bs.length : Nat)) 64 := sumR_congr fun i hi => by
      unfold getF
      simp only [mget]
      by_cases hik : ((i : Nat) : Int) = k
      · rw [if_pos hik, if_pos (by omega)]; rfl
      · rw [if_neg hik, if_neg (by omega)]
    rw [e1, sumR_upd, if_pos (by omega), ← ih]
    have e2 : (((getF l ((k.toNat : Nat) : Int)).bs.length : Nat) : Int) = 0 := by
      rw [show ((k.toNat : Nat) : Int) = k by omega, h0]; rfl
    show (f.bs.length : Int) + used l = _
    omega

theorem DkI.used_sum {R : Objs} {D : Dk} {mx : MapX} (h : DkI R D mx) : Eng.used D.fs = sumR (fun n => ((getF D.fs (n : Nat)).bs.length : Nat)) 64 := Eng.used_sum h.di.nd fun e he => (h.ok e he).1

theorem Sim.used {R : Objs} {D : Dk} {M : Rd} {mx : MapX} (h : Sim D M) (hD : DkI R D mx) : usedR M = Eng.used D.fs := by
  rw [hD.used_sum]
  exact sumR_congr fun i hi => by unfold lenR; rw [h.file i hi]

theorem nth_setE {α : Type} [Inhabited α] {l : List α} {k i : Nat} {x : α} (hk : k < l.length) : nth (l.set k x) i = if i = k then x else nth l i := by
  unfold nth
  simp only [List.getD_eq_getElem?_getD, List.getElem?_set]
  by_cases h : k = i
  · subst h; rw [if_pos rfl, if_pos hk, if_pos rfl]; rfl
  · rw [if_neg h, if_neg (Ne.symm h)]

theorem nth_map_range {α : Type} [Inhabited α] (g : Nat → α) {n i : Nat} (h : i < n) : nth ((List.range n).map g) i = g i := by
  rw [nth_get (by rw [List.length_map, List.length_range]; exact h)]
  simp

theorem sim_step {D : Dk} {M : Rd} (h : Sim D M) (ho : D.off = false) : (stepR M).1 = !(stepD D).1 ∧ Sim (stepD D).2 (stepR M).2 := by
  unfold stepD stepR
  rcases h.pl with ⟨ha, hp, hl⟩ | ⟨ha, hp, hp2⟩
  · rw [if_neg (show ¬ D.armed = false by rw [ha]; simp), if_neg (show ¬ M.plan < 0 by omega)]
    by_cases hz : D.left - 1 < 0
    · have hm : max (M.plan - 1) (-2) = -1 := by omega
      rw [if_pos hz]
      refine ⟨by simp [failsR, hm], h.room, by simp [failsR, hm], .inr ⟨rfl, ?_, ?_⟩, h.lenB, h.lenF, h.file⟩
      · show max (M.plan - 1) (-2) < 0; omega
      · show -2 ≤ max (M.plan - 1) (-2); omega
    · have hm : max (M.plan - 1) (-2) = D.left - 1 := by omega
      have hne : ¬ max (M.plan - 1) (-2) = -1 := by omega
      rw [if_neg hz]
      refine ⟨by simp [failsR, hne, h.off, ho], h.room, by simp [failsR, hne, h.off], .inl ⟨ha, hm, by show 0 ≤ D.left - 1; omega⟩, h.lenB, h.lenF, h.file⟩
  · rw [if_pos ha, if_pos hp]
    exact ⟨rfl, h⟩

theorem bool_not_false : (!false) = true := rfl
theorem sim_append {R : Objs} {D : Dk} {M : Rd} {mx : MapX} (h : Sim D M) (hD : DkI R D mx) (n : Int) (b : List Int) : (appendR M n b).1 = (appendD D n b).1 ∧ Sim (appendD D n b).2 (appendR M n b).2 := by
  have hu := h.used hD
  unfold appendD appendR
  by_cases h1 : ¬ (0 ≤ n ∧ n < 64)
  · rw [if_pos h1, if_pos (show n < 0 ∨ n > 63 by omega)]; exact ⟨rfl, h⟩
  rw [if_neg h1, if_neg (show ¬ (n < 0 ∨ n > 63) by omega)]
  by_cases h2 : D.off = true
  · rw [if_pos h2, if_pos (show M.off = true by rw [h.off]; exact h2)]; exact ⟨rfl, h⟩
  rw [if_neg h2, if_neg (show ¬ M.off = true by rw [h.off]; exact h2)]
  by_cases h3 : (b.length : Int) > D.room - Eng.used D.fs
  · rw [if_pos h3, if_pos (show usedR M + b.length > M.room by rw [hu, h.room]; omega)]; exact ⟨rfl, h⟩
  rw [if_neg h3, if_neg (show ¬ usedR M + b.length > M.room by rw [hu, h.room]; omega)]
  obtain ⟨k, rfl⟩ : ∃ k : Nat, n = (k : Int) := ⟨n.toNat, by omega⟩
  have hk : k < 64 := by omega
  have hs : Sim (appD1 D (k : Nat) b) (appendR1 M (k : Nat) b) := ⟨h.room, h.off, h.pl, by unfold appendR1; simp only [List.length_set]; exact h.lenB, h.lenF, fun i hi => by
    show getF (setF D.fs (k : Nat) _) (i : Nat) = _
    rw [get_set' hD.di.nd]
    unfold appendR1
    simp only [Int.toNat_natCast]
    rw [nth_setE (by rw [h.lenB]; exact hk), h.file k hk]
    have hd := hD.get_d ((k : Nat) : Int)
    rw [h.file k hk] at hd
    by_cases hik : i = k
    · subst hik
      rw [if_pos rfl, if_pos rfl]
      split
      · rename_i hb0
        simp only at hb0 hd
        rw [(List.append_eq_nil_iff.1 hb0).1] at hd
        have : nth M.F i = 0 := by simp at hd; omega
        rw [hb0, this]
      · rfl
    · rw [if_neg (by omega), if_neg hik, h.file i hi]⟩
  have hoff : (appD1 D (k : Nat) b).off = false := by
    show D.off = false
    simpa using h2
  obtain ⟨e1, e2⟩ := sim_step hs hoff
  refine ⟨?_, e2⟩
  rw [e1]
  cases (stepD (appD1 D (k : Nat) b)).1 <;> rfl

theorem sim_sync {D : Dk} {M : Rd} (h : Sim D M) : (syncR M).1 = (syncD D).1 ∧ Sim (syncD D).2 (syncR M).2 := by
  unfold syncD syncR
  by_cases h2 : D.off = true
  · rw [if_pos h2, if_pos (show M.off = true by rw [h.off]; exact h2)]; exact ⟨rfl, h⟩
  rw [if_neg h2, if_neg (show ¬ M.off = true by rw [h.off]; exact h2)]
  obtain ⟨e1, e2⟩ := sim_step h (by simpa using h2)
  rw [e1]
  cases hs : (stepD D).1
  · rw [if_pos (show (!false) = true from rfl), if_pos (show false = false from rfl)]; exact ⟨rfl, e2⟩
  · rw [if_neg (show ¬ (!true) = true by simp), if_neg (show ¬ true = false by simp)]
    refine ⟨rfl, e2.room, e2.off, e2.pl, e2.lenB, by unfold firmR; simp, fun i hi => ?_⟩
    show getF (hardAll (stepD D).2.fs) (i : Nat) = _
    rw [get_hardE, e2.file i hi]
    unfold firmR
    simp only
    rw [nth_map_range _ hi]
    rfl

theorem sim_trunc {R : Objs} {D : Dk} {M : Rd} {mx : MapX} (h : Sim D M) (hD : DkI R D mx) (n size : Int) : (truncR M n size).1 = (truncD D n size).1 ∧ Sim (truncD D n size).2 (truncR M n size).2 := by
  unfold truncD truncR
  by_cases h0 : ¬ (0 ≤ n ∧ n < 64)
  · rw [if_pos (show n < 0 ∨ n > 63 ∨ size < 0 ∨ size > lenR M n.toNat by omega), if_pos (show ¬ (0 ≤ n ∧ n < 64) ∨ size < 0 ∨ size > ((getF D.fs n).bs.length : Int) from .inl h0)]; exact ⟨rfl, h⟩
  obtain ⟨k, rfl⟩ : ∃ k : Nat, n = (k : Int) := ⟨n.toNat, by omega⟩
  have hk : k < 64 := by omega
  have hl : lenR M k = ((getF D.fs (k : Nat)).bs.length : Nat) := by unfold lenR; rw [h.file k hk]
  simp only [Int.toNat_natCast]
  rw [hl]
  by_cases h1 : size < 0 ∨ size > ((getF D.fs (k : Nat)).bs.length : Int)
  · rw [if_pos (show ((k : Nat) : Int) < 0 ∨ ((k : Nat) : Int) > 63 ∨ size < 0 ∨ size > ((getF D.fs (k : Nat)).bs.length : Int) by omega), if_pos (show ¬ (0 ≤ ((k : Nat) : Int) ∧ ((k : Nat) : Int) < 64) ∨ size < 0 ∨ size > ((getF D.fs (k : Nat)).bs.length : Int) by omega)]; exact ⟨rfl, h⟩
  rw [if_neg (show ¬ (((k : Nat) : Int) < 0 ∨ ((k : Nat) : Int) > 63 ∨ size < 0 ∨ size > ((getF D.fs (k : Nat)).bs.length : Int)) by omega), if_neg (show ¬ (¬ (0 ≤ ((k : Nat) : Int) ∧ ((k : Nat) : Int) < 64) ∨ size < 0 ∨ size > ((getF D.fs (k : Nat)).bs.length : Int)) by omega)]
  by_cases h2 : D.off = true
  · rw [if_pos h2, if_pos (show M.off = true by rw [h.off]; exact h2)]; exact ⟨rfl, h⟩
  rw [if_neg h2, if_neg (show ¬ M.off = true by rw [h.off]; exact h2)]
  obtain ⟨e1, e2⟩ := sim_step h (by simpa using h2)
  rw [e1]
  cases hs : (stepD D).1
  · rw [if_pos (show (!false) = true from rfl), if_pos (show false = false from rfl)]; exact ⟨rfl, e2⟩
  · rw [if_neg (show ¬ (!true) = true by simp), if_neg (show ¬ true = false by simp)]
    obtain ⟨q1, q2⟩ := stepD_fs D
    have hk2 := e2.file k hk
    rw [q1] at hk2
    refine ⟨rfl, e2.room, e2.off, e2.pl, by simp only [List.length_set]; exact e2.lenB, by simp only [List.length_set]; exact e2.lenF, fun i hi => ?_⟩
    show getF (setF D.fs (k : Nat) _) (i : Nat) = _
    rw [get_set' hD.di.nd]
    simp only
    rw [nth_setE (by rw [e2.lenB]; exact hk), nth_setE (by rw [e2.lenF]; exact hk)]
    have hd := hD.get_d ((k : Nat) : Int)
    by_cases hik : i = k
    · subst hik
      rw [if_pos rfl, if_pos rfl, if_pos rfl, hk2]
      rw [hk2] at hd
      simp only at hd ⊢
      split
      · rename_i hb0
        have hlz := congrArg List.length hb0
        rw [List.length_take] at hlz
        rw [hk2] at h1
        simp only [List.length_nil] at hlz h1
        rw [hb0]
        congr 1
        omega
      · rfl
    · rw [if_neg (by omega), if_neg hik, if_neg hik]
      have := e2.file i hi
      rw [q1] at this
      exact this

theorem sim_arm {D : Dk} {M : Rd} (h : Sim D M) (n : Int) : Sim (armD D n) (armR M n) := by
  unfold armD armR
  by_cases h2 : D.off = true
  · rw [if_pos h2, if_pos (show M.off = true by rw [h.off]; exact h2)]; exact h
  rw [if_neg h2, if_neg (show ¬ M.off = true by rw [h.off]; exact h2)]
  refine ⟨h.room, h.off, ?_, h.lenB, h.lenF, h.file⟩
  by_cases hn : 0 ≤ n
  · exact .inl ⟨decide_eq_true hn, by show max n (-1) = n; omega, hn⟩
  · exact .inr ⟨decide_eq_false hn, by show max n (-1) < 0; omega, by show -2 ≤ max n (-1); omega⟩

end Go.Proofs.Ytahaplbdhgfobaa.Eng

set_option linter.unusedVariables false
set_option linter.unusedSimpArgs false
namespace Go.Proofs.Ytahaplbdhgfobaa.Eng

def filesR (M : Rd) : List Nat := (List.range 64).filter fun i => decide (0 < (nth M.B i).length)
def fiR (M : Rd) (n : Nat) : Fi := ⟨nth M.B n, nth M.F n⟩
def cutAtR (M : Rd) (keep : List Int) (i : Nat) : Int × Fi := (((nth (filesR M) i : Nat) : Int), cutF keep i (fiR M (nth (filesR M) i)))
def cutsR (M : Rd) (keep : List Int) (i : Nat) : List (Int × Fi) := (List.range i).map (cutAtR M keep)
def crashCR (M : Rd) (keep : List Int) (flip : Int) : List (Int × Fi) :=
  let l := cutsR M keep (filesR M).length
  let m := 8 * looseSum l
  if 0 ≤ flip ∧ 0 < m then flipC (flip.toNat % m / 8) (7 - flip.toNat % m % 8) l else l
def crashR (M : Rd) (keep : List Int) (flip : Int) : Rd :=
  { room := M.room, off := false, plan := -1, B := (List.range 64).map fun n => ((mget ((n : Nat) : Int) (crashCR M keep flip)).getD ⟨[], 0⟩).bs, F := (List.range 64).map fun n => ((((mget ((n : Nat) : Int) (crashCR M keep flip)).getD ⟨[], 0⟩).bs.length : Nat) : Int) }

theorem filesR_mem {M : Rd} {n : Nat} : n ∈ filesR M ↔ n < 64 ∧ nth M.B n ≠ [] := by
  unfold filesR
  rw [List.mem_filter, List.mem_range, decide_eq_true_eq, List.length_pos_iff]

theorem fnos_files {D : Dk} {M : Rd} {R : Objs} {mx : MapX} (h : Sim D M) (hD : DkI R D mx) : fnos D = (filesR M).map fun n => ((n : Nat) : Int) := by
  have tr : ∀ a b c : Int, decide (a ≤ b) = true → decide (b ≤ c) = true → decide (a ≤ c) = true := fun a b c h1 h2 => by simp only [decide_eq_true_eq] at *; omega
  have to : ∀ a b : Int, (decide (a ≤ b) || decide (b ≤ a)) = true := fun a b => by simp only [Bool.or_eq_true, decide_eq_true_eq]; omega
  have hs1 : (fnos D).Pairwise fun a b => decide (a ≤ b) = true := List.pairwise_mergeSort tr to _
  have hs2 : ((filesR M).map fun n => ((n : Nat) : Int)).Pairwise fun a b => decide (a ≤ b) = true := by
    refine List.pairwise_map.2 ((List.pairwise_lt_range.filter _).imp fun q => ?_)
    simp only [decide_eq_true_eq]
    omega
  have hnd2 : ((filesR M).map fun n => ((n : Nat) : Int)).Nodup := by
    refine List.pairwise_map.2 ((List.pairwise_lt_range.filter _).imp fun q => ?_)
    omega
  have hp : (fnos D).Perm ((filesR M).map fun n => ((n : Nat) : Int)) := by
    refine (List.perm_ext_iff_of_nodup (fnos_nd hD) hnd2).2 fun m => ?_
    rw [fnos_mem, List.mem_map, List.mem_map]
    constructor
    · rintro ⟨e, he, rfl⟩
      obtain ⟨h1, h2, _⟩ := hD.ok e he
      refine ⟨e.1.toNat, filesR_mem.2 ⟨by omega, ?_⟩, by omega⟩
      have h3 : getF D.fs e.1 = e.2 := by unfold getF; rw [mget_some hD.di.nd (v := e.2) he]; rfl
      have h4 := h.file e.1.toNat (by omega)
      rw [show ((e.1.toNat : Nat) : Int) = e.1 by omega, h3] at h4
      intro hz
      exact h2 (by rw [h4, hz])
    · rintro ⟨n, hn, rfl⟩
      obtain ⟨h1, h2⟩ := filesR_mem.1 hn
      have h4 := h.file n h1
      cases hg : mget ((n : Nat) : Int) D.fs with
      | none =>
        unfold getF at h4
        rw [hg] at h4
        injection h4 with h5 _
        exact absurd h5.symm h2
      | some f => exact ⟨_, mget_mem hg, rfl⟩
  refine List.Perm.eq_of_pairwise (le := fun a b => decide (a ≤ b) = true) (fun a b _ _ h1 h2 => ?_) hs1 hs2 hp
  simp only [decide_eq_true_eq] at h1 h2
  omega

theorem crashC_R {D : Dk} {M : Rd} {R : Objs} {mx : MapX} (h : Sim D M) (hD : DkI R D mx) (keep : List Int) (flip : Int) : crashC D keep flip = crashCR M keep flip := by
  have hf := fnos_files h hD
  have hl : (fnos D).length = (filesR M).length := by rw [hf, List.length_map]
  have hc : cuts D keep (fnos D).length = cutsR M keep (filesR M).length := by
    unfold cuts cutsR
    rw [hl]
    refine List.map_congr_left fun i hi => ?_
    have hi := List.mem_range.1 hi
    have hn : nth (fnos D) i = ((nth (filesR M) i : Nat) : Int) := by
      rw [nth_get (by rw [hl]; exact hi), nth_get hi]
      simp only [hf, List.getElem_map]
    have hr := (filesR_mem.1 (nth_mem hi)).1
    unfold cutAt cutAtR
    rw [hn, h.file _ hr]
    rfl
  unfold crashC crashCR
  rw [hc]

theorem sim_crash {D D' : Dk} {M : Rd} {R : Objs} {mx : MapX} (h : Sim D M) (hD : DkI R D mx) {keep : List Int} {flip : Int} (h1 : D'.room = D.room) (h2 : D'.off = false) (h3 : D'.armed = false) (h4 : ∀ m, getF D'.fs m = ((mget m (crashC D keep flip)).getD ⟨[], 0⟩).hard) : Sim D' (crashR M keep flip) := by
  refine ⟨by rw [h1]; exact h.room, h2.symm, .inr ⟨h3, by show (-1 : Int) < 0; decide, by show (-2 : Int) ≤ -1; decide⟩, by unfold crashR; simp, by unfold crashR; simp, fun i hi => ?_⟩
  rw [h4, crashC_R h hD]
  unfold crashR
  simp only
  rw [nth_map_range _ hi, nth_map_range _ hi]
  rfl

end Go.Proofs.Ytahaplbdhgfobaa.Eng

set_option linter.unusedVariables false
set_option linter.unusedSimpArgs false
namespace Go.Proofs.Ytahaplbdhgfobaa.Eng

theorem Sat.app_left {h : AHeap} {N O : Objs} (hs : Sat h (N ++ O)) : Sat h N :=
  ⟨by
    have := hs.nd
    rw [List.map_append, List.nodup_append] at this
    exact this.1, fun p hp => hs.is p (List.mem_append_left _ hp), hs.wf⟩

theorem arm_ok (R : Objs) (d bm : Nat) (D : Dk) (mx : MapX) (n : Int) : Spec Try.prog false 28 #[Ptr d 0, I n] (dkO d bm D mx R) fun v O' => O' = dkO d bm (armD D n) mx R := by
  refine Spec.enter (args := [_, _]) (m := 18) Try.func28 rfl rfl (by decide +kernel) fun h0 => ?_
  refine WX.seq ?_
  refine WX.region rfl ?_
  refine WXL.move Met.none rfl ?_
  refine WXL.nilCheck Met.none rfl ?_
  first | refine WXL.fieldAddr Met.none rfl Try.underlying68 rfl sz4 rfl ?_ | refine WXL.faS Met.none rfl Try.underlying68 rfl sz4 ?_
  first | refine WXL.ld Met.none rfl agg4 ?_ | refine WXL.ldS Met.none rfl agg4 ?_
  refine WXL.not Met.none rfl ?_
  refine WXL.nil ?_
  refine Fin.then_normal ?_
  refine WX.cond rfl (fun hc0 => ?_) (fun hc0 => ?_)
  · try simp only [cnd] at hc0
    refine WX.region rfl ?_
    refine WXL.move Met.none rfl ?_
    refine WXL.move Met.none rfl ?_
    refine WXL.move Met.none rfl ?_
    refine WXL.bin Met.none rfl rfl rfl ?_
    refine WXL.move Met.none rfl ?_
    refine WXL.nilCheck Met.none rfl ?_
    first | refine WXL.fieldAddr Met.none rfl Try.underlying68 rfl sz4 rfl ?_ | refine WXL.faS Met.none rfl Try.underlying68 rfl sz4 ?_
    refine WXL.st (vs := [_]) (j := 0) Met.none rfl rfl rfl sz4 ?_ (hj := rfl)
    refine WXL.nilCheck Met.none rfl ?_
    first | refine WXL.fieldAddr Met.none rfl Try.underlying68 rfl sz3 rfl ?_ | refine WXL.faS Met.none rfl Try.underlying68 rfl sz3 ?_
    refine WXL.st (vs := [_]) (j := 0) Met.none rfl rfl rfl sz3 ?_ (hj := rfl)
    refine WXL.nil ?_
    first
    | exact Fin.result (O' := dkO d bm { D with armed := decide (0 ≤ n), left := n } mx R) (.inl rfl) rfl rfl drop_ (by unfold armD; rw [if_neg (by simp [hc0])])
    | exact Fin.result (O' := dkO d bm D mx R) (.inl rfl) rfl rfl drop_ (by unfold armD; rw [if_pos hc0])
  · try simp only [cnd] at hc0
    refine WX.skip ?_
    first
    | exact Fin.result (O' := dkO d bm { D with armed := decide (0 ≤ n), left := n } mx R) (.inl rfl) rfl rfl drop_ (by unfold armD; rw [if_neg (by simp [hc0])])
    | exact Fin.result (O' := dkO d bm D mx R) (.inl rfl) rfl rfl drop_ (by unfold armD; rw [if_pos hc0])

theorem DkI.arm {R : Objs} {D : Dk} {mx : MapX} (h : DkI R D mx) {n : Int} (hn : n < 9223372036854775808) : DkI R (armD D n) mx := by
  unfold armD
  split
  · exact h
  · exact ⟨h.di, h.ok, h.room, (fun q => ⟨by simpa using q, hn⟩), h.used⟩

theorem on_ok (R : Objs) (d bm : Nat) (D : Dk) (mx : MapX) : Spec Try.prog false 29 #[Ptr d 0] (dkO d bm D mx R) fun v O' => v = .bool (!D.off) ∧ O' = dkO d bm D mx R := by
  refine Spec.enter (args := [_]) (m := 8) Try.func29 rfl rfl (by decide +kernel) fun h0 => ?_
  refine WX.seq ?_
  refine WX.region rfl ?_
  refine WXL.assign Met.none rfl ?_
  refine WXL.nil ?_
  refine Fin.then_normal ?_
  refine WX.seq ?_
  refine WX.region rfl ?_
  refine WXL.move Met.none rfl ?_
  refine WXL.nilCheck Met.none rfl ?_
  first | refine WXL.fieldAddr Met.none rfl Try.underlying68 rfl sz4 rfl ?_ | refine WXL.faS Met.none rfl Try.underlying68 rfl sz4 ?_
  first | refine WXL.ld Met.none rfl agg4 ?_ | refine WXL.ldS Met.none rfl agg4 ?_
  refine WXL.not Met.none rfl ?_
  refine WXL.assign Met.none rfl ?_
  refine WXL.nil ?_
  refine Fin.then_normal ?_
  refine WX.ret ?_
  exact Fin.result (.inr rfl) rfl rfl drop_ ⟨rfl, rfl⟩

theorem copy_ok (R : Objs) (d bm : Nat) (D : Dk) (mx : MapX) : Spec Try.prog false 30 #[Ptr d 0] (dkO d bm D mx R) fun v O' => ∃ d' bm', v = Ptr d' 0 ∧ O' = dkO d' bm' D mx (dkO d bm D mx R) := by
  refine Spec.enter (args := [_]) (m := 13) Try.func30 rfl rfl (by decide +kernel) fun h0 => ?_
  refine WX.seq ?_
  refine WX.region rfl ?_
  refine WXL.assign Met.none rfl ?_
  refine WXL.nil ?_
  refine Fin.then_normal ?_
  refine WX.seq ?_
  refine WX.region rfl ?_
  refine WXL.move Met.none rfl ?_
  refine WXL.nilCheck Met.none rfl ?_
  first | refine WXL.ldN Met.none rfl agg68 sz68 ?_ | refine WXL.ldNS Met.none rfl agg68 sz68 ?_
  refine WXL.alloc (c := [_, _, _, _, _]) Met.none zero68 rfl (fun b3 => ?_)
  refine WXL.st (vs := [_, _, _, _, _]) (c' := [_, _, _, _, _]) (j := 0) Met.none rfl rfl rfl sz68 ?_ (hj := rfl)
  refine WXL.nil ?_
  refine Fin.then_normal ?_
  refine WX.seq ?_
  refine WX.region rfl ?_
  refine WXL.move Met.none rfl ?_
  refine WXL.nilCheck Met.none rfl ?_
  first | refine WXL.fieldAddr Met.none rfl Try.underlying68 rfl sz66 rfl ?_ | refine WXL.faS Met.none rfl Try.underlying68 rfl sz66 ?_
  first | refine WXL.ld Met.none rfl agg66 ?_ | refine WXL.ldS Met.none rfl agg66 ?_
  refine WXL.cl (O1 := _) Met.none rfl (fnOk_of Try.func50 (by decide +kernel)) rfl (fun _ h => h) (cloneM_ok _ _ bm 2 false mx at_) (fun v O' hp => ?_)
  obtain ⟨b11, rfl, rfl⟩ := hp
  refine WXL.fieldAddr (off' := 0) Met.none rfl Try.underlying68 rfl sz66 rfl ?_
  refine WXL.st (vs := [_]) (c' := [_, _, _, _, _]) (j := 1) Met.none rfl rfl rfl sz66 ?_ (hj := rfl)
  refine WXL.nil ?_
  refine Fin.then_normal ?_
  refine WX.seq ?_
  refine WX.region rfl ?_
  refine WXL.assign Met.none rfl ?_
  refine WXL.nil ?_
  refine Fin.then_normal ?_
  refine WX.ret ?_
  exact Fin.result (O' := dkO b3 b11 D mx (dkO d bm D mx R)) (.inr rfl) rfl rfl (fun _ hs => hs.tl [1, 0] 2) ⟨b3, b11, rfl, rfl⟩

/-- A bit of a file turned. -/
def rotD (D : Dk) (n bit : Int) : Int × Dk :=
  if ¬ (0 ≤ n ∧ n < 64) ∨ bit < 0 ∨ bit.toNat / 8 ≥ (getF D.fs n).bs.length then (1, D)
  else (0, { D with fs := setF D.fs n ⟨(getF D.fs n).bs.set (bit.toNat / 8) (flipB (nth (getF D.fs n).bs (bit.toNat / 8)) (7 - bit.toNat % 8)), (getF D.fs n).d⟩ })

theorem rot_ok (R : Objs) {R0 : Objs} (d bm : Nat) (D : Dk) (mx : MapX) (n bit : Int) (hD : DkI R0 D mx) (hi : ∀ g, Sat g R → Sat g R0) (hb64 : In64 bit) :
    Spec Try.prog false 34 #[Ptr d 0, I n, I bit] (dkO d bm D mx R) fun v O' => ∃ mx' N, v = I (rotD D n bit).1 ∧ O' = dkO d bm (rotD D n bit).2 mx' (N ++ R) ∧ DkI (N ++ R0) (rotD D n bit).2 mx' := by
  obtain ⟨fa, fc, hfv, hrow0, hnil, hB⟩ := hD.di.get n
  have hrow := hrow0.inc hi
  have hlen := hD.get_len n
  have hbq : 0 ≤ bit → bit.tdiv 8 = ((bit.toNat / 8 : Nat) : Int) := fun h => by rw [Int.tdiv_eq_ediv_of_nonneg h]; omega
  have hbm : 0 ≤ bit → bit.tmod 8 = ((bit.toNat % 8 : Nat) : Int) := fun h => by rw [Int.tmod_eq_emod_of_nonneg h]; omega
  have hbw : IntKind.wrap .i64 (bit.tdiv 8) = bit.tdiv 8 := by
    unfold In64 at hb64
    have h1 : bit.tdiv 8 ≤ 9223372036854775807 ∧ -9223372036854775808 ≤ bit.tdiv 8 := by
      rcases Int.lt_or_le bit 0 with h | h
      · have h2 : (-bit).tdiv 8 = -(bit.tdiv 8) := Int.neg_tdiv _ _
        rw [Int.tdiv_eq_ediv_of_nonneg (by omega)] at h2
        omega
      · rw [hbq h]; omega
    exact wrap_i64 (by omega) (by omega)
  refine Spec.enter (args := [_, _, _]) (m := 49) Try.func34 rfl rfl (by decide +kernel) fun h0 => ?_
  refine WX.seq ?_
  refine WX.region rfl ?_
  refine WXL.assign Met.none rfl ?_
  refine WXL.nil ?_
  refine Fin.then_normal ?_
  refine WX.seq ?_
  refine WX.region rfl ?_
  refine WXL.move Met.none rfl ?_
  refine WXL.nilCheck Met.none rfl ?_
  first | refine WXL.fieldAddr Met.none rfl Try.underlying68 rfl sz66 rfl ?_ | refine WXL.faS Met.none rfl Try.underlying68 rfl sz66 ?_
  first | refine WXL.ld Met.none rfl agg66 ?_ | refine WXL.ldS Met.none rfl agg66 ?_
  refine WXL.move Met.none rfl ?_
  refine WXL.lookup Met.none rfl rfl mapT66 zero71 at_ (show _ = fileV fa (getF D.fs n).bs.length fc (getF D.fs n).d from hfv) ?_
  refine WXL.alloc (c := [_, _]) Met.none zero71 rfl (fun b7 => ?_)
  refine WXL.st (vs := [_, _]) (c' := [_, _]) (j := 0) Met.none rfl rfl rfl sz71 ?_ (hj := rfl)
  refine WXL.nil ?_
  refine Fin.then_normal ?_
  refine WX.seq ?_
  refine WX.seq ?_
  refine WX.region rfl ?_
  refine WXL.move Met.none rfl ?_
  refine WXL.cl (O1 := _) Met.none rfl (fnOk_of Try.func36 (by decide +kernel)) rfl (fun _ h => h) (exists_ok _ n) (fun v O' hp => ?_)
  obtain ⟨rfl, hO⟩ := hp
  subst O'
  refine WXL.not Met.none rfl ?_
  refine WXL.move Met.none rfl ?_
  refine WXL.split (d := 17) rfl (fun hg17 => ?_) (fun hg17 => ?_)
  · try simp only [cnd] at hg17
    refine WXL.miss (j := 3) (d := 17) rfl rfl rfl ?_
    refine WXL.miss (j := 3) (d := 17) rfl rfl rfl ?_
    refine WXL.pick_t Met.none rfl rfl ?_
    refine WXL.move Met.none rfl ?_
    refine WXL.miss (j := 7) (d := 21) rfl rfl rfl ?_
    refine WXL.miss (j := 7) (d := 21) rfl rfl rfl ?_
    refine WXL.miss (j := 7) (d := 21) rfl rfl rfl ?_
    refine WXL.miss (j := 7) (d := 21) rfl rfl rfl ?_
    refine WXL.miss (j := 7) (d := 21) rfl rfl rfl ?_
    refine WXL.miss (j := 7) (d := 21) rfl rfl rfl ?_
    refine WXL.pick_t Met.none rfl rfl ?_
    refine WXL.nil ?_
    refine Fin.then_normal ?_
    refine WX.cond rfl (fun hc0 => ?_) (fun hc0 => nomatch hc0)
    refine WX.seq ?_
    refine WX.region rfl ?_
    refine WXL.assign Met.none rfl ?_
    refine WXL.nil ?_
    refine Fin.then_normal ?_
    refine WX.ret ?_
    refine Fin.then_ret ?_
    first
    | exact Fin.result (O' := dkO d bm D mx ([] ++ R)) (.inr rfl) rfl rfl drop_ (by unfold rotD; rw [if_pos (by omega)]; exact ⟨mx, [], rfl, rfl, hD⟩)
    | exact Fin.result (O' := dkO d bm D mx ([] ++ R)) (.inr rfl) rfl rfl drop_ (by unfold rotD; rw [if_pos (by rcases Int.lt_or_le bit 0 with h | h; exact .inr (.inl h); have := hbq h; omega)]; exact ⟨mx, [], rfl, rfl, hD⟩)
    | exact Fin.result (O' := dkO d bm { D with fs := setF D.fs n f2 } (setX mx n (fileV (some ⟨b31, 0, none⟩) (getF D.fs n).bs.length c31 (getF D.fs n).d) (getF D.fs n).bs.length) ([(b31, ⟨1, false, f2.bs.map B8⟩)] ++ R)) (.inr rfl) rfl rfl sub_ (by
        unfold rotD
        rw [if_neg (by omega), ← hk, ← hf2]
        exact ⟨_, _, rfl, rfl, hD2⟩)
  · try simp only [cnd] at hg17
    refine WXL.move (Met.some rfl rfl rfl) rfl ?_
    refine WXL.bin (Met.some rfl rfl rfl) rfl rfl rfl ?_
    refine WXL.pick_f Met.none rfl rfl ?_
    refine WXL.move Met.none rfl ?_
    refine WXL.split (d := 21) rfl (fun hg21 => ?_) (fun hg21 => ?_)
    · try simp only [cnd] at hg21
      refine WXL.miss (j := 7) (d := 21) rfl rfl rfl ?_
      refine WXL.miss (j := 7) (d := 21) rfl rfl rfl ?_
      refine WXL.miss (j := 7) (d := 21) rfl rfl rfl ?_
      refine WXL.miss (j := 7) (d := 21) rfl rfl rfl ?_
      refine WXL.miss (j := 7) (d := 21) rfl rfl rfl ?_
      refine WXL.miss (j := 7) (d := 21) rfl rfl rfl ?_
      refine WXL.pick_t Met.none rfl rfl ?_
      refine WXL.nil ?_
      refine Fin.then_normal ?_
      refine WX.cond rfl (fun hc0 => ?_) (fun hc0 => nomatch hc0)
      refine WX.seq ?_
      refine WX.region rfl ?_
      refine WXL.assign Met.none rfl ?_
      refine WXL.nil ?_
      refine Fin.then_normal ?_
      refine WX.ret ?_
      refine Fin.then_ret ?_
      first
      | exact Fin.result (O' := dkO d bm D mx ([] ++ R)) (.inr rfl) rfl rfl drop_ (by unfold rotD; rw [if_pos (by omega)]; exact ⟨mx, [], rfl, rfl, hD⟩)
      | exact Fin.result (O' := dkO d bm D mx ([] ++ R)) (.inr rfl) rfl rfl drop_ (by unfold rotD; rw [if_pos (by rcases Int.lt_or_le bit 0 with h | h; exact .inr (.inl h); have := hbq h; omega)]; exact ⟨mx, [], rfl, rfl, hD⟩)
      | exact Fin.result (O' := dkO d bm { D with fs := setF D.fs n f2 } (setX mx n (fileV (some ⟨b31, 0, none⟩) (getF D.fs n).bs.length c31 (getF D.fs n).d) (getF D.fs n).bs.length) ([(b31, ⟨1, false, f2.bs.map B8⟩)] ++ R)) (.inr rfl) rfl rfl sub_ (by
          unfold rotD
          rw [if_neg (by omega), ← hk, ← hf2]
          exact ⟨_, _, rfl, rfl, hD2⟩)
    · try simp only [cnd] at hg21
      refine WXL.move (Met.some rfl rfl rfl) rfl ?_
      refine WXL.qu (Met.some rfl rfl rfl) rfl rfl ?_ (hr := hbw)
      refine WXL.fieldAddr (off' := 0) (Met.some rfl rfl rfl) rfl Try.underlying71 rfl sz27 rfl ?_
      first | refine WXL.ld (Met.some rfl rfl rfl) rfl agg27 ?_ | refine WXL.ldS (Met.some rfl rfl rfl) rfl agg27 ?_
      refine WXL.len (Met.some rfl rfl rfl) rfl Try.underlying27 ?_
      refine WXL.bin (Met.some rfl rfl rfl) rfl rfl rfl ?_
      refine WXL.pick_f Met.none rfl rfl ?_
      refine WXL.nil ?_
      refine Fin.then_normal ?_
      refine WX.cond rfl (fun hc0 => ?_) (fun hc0 => ?_)
      · try simp only [cnd] at hc0
        refine WX.seq ?_
        refine WX.region rfl ?_
        refine WXL.assign Met.none rfl ?_
        refine WXL.nil ?_
        refine Fin.then_normal ?_
        refine WX.ret ?_
        refine Fin.then_ret ?_
        first
        | exact Fin.result (O' := dkO d bm D mx ([] ++ R)) (.inr rfl) rfl rfl drop_ (by unfold rotD; rw [if_pos (by omega)]; exact ⟨mx, [], rfl, rfl, hD⟩)
        | exact Fin.result (O' := dkO d bm D mx ([] ++ R)) (.inr rfl) rfl rfl drop_ (by unfold rotD; rw [if_pos (by rcases Int.lt_or_le bit 0 with h | h; exact .inr (.inl h); have := hbq h; omega)]; exact ⟨mx, [], rfl, rfl, hD⟩)
        | exact Fin.result (O' := dkO d bm { D with fs := setF D.fs n f2 } (setX mx n (fileV (some ⟨b31, 0, none⟩) (getF D.fs n).bs.length c31 (getF D.fs n).d) (getF D.fs n).bs.length) ([(b31, ⟨1, false, f2.bs.map B8⟩)] ++ R)) (.inr rfl) rfl rfl sub_ (by
            unfold rotD
            rw [if_neg (by omega), ← hk, ← hf2]
            exact ⟨_, _, rfl, rfl, hD2⟩)
      · try simp only [cnd] at hc0
        refine WX.skip ?_
        refine Fin.then_normal ?_
        refine WX.seq ?_
        have hb0 : 0 ≤ bit := by omega
        have hq := hbq hb0
        obtain ⟨k, hk⟩ : ∃ k, k = bit.toNat / 8 := ⟨_, rfl⟩
        rw [← hk] at hq
        have hkl : k < (getF D.fs n).bs.length := by omega
        refine WX.region rfl ?_
        refine WXL.fieldAddr (off' := 0) Met.none rfl Try.underlying71 rfl sz27 rfl ?_
        first | refine WXL.ld Met.none rfl agg27 ?_ | refine WXL.ldS Met.none rfl agg27 ?_
        refine WXL.cl (O1 := _) Met.none rfl (fnOk_of Try.func37 (by decide +kernel)) rfl (fun _ h => h) (clone_ok _ (getF D.fs n).bs fa fc (by omega) (fun q => by
        have := hrow.nil0 q
        exact List.length_eq_zero_iff.1 this) (Src.cons (Src.cons (Src.cons (hrow.src hnil))))) (fun v O' hp => ?_)
        obtain ⟨a31, c31, G31, rfl, hG31, rfl⟩ := hp
        obtain ⟨b31, rfl, rfl, hc31⟩ : ∃ b31, a31 = some ⟨b31, 0, none⟩ ∧ G31 = [(b31, ⟨1, false, (getF D.fs n).bs.map B8⟩)] ∧ ((getF D.fs n).bs.map B8).length = (getF D.fs n).bs.length * 1 := by
          rcases hG31 with ⟨_, h0, _⟩ | h
          · omega
          · exact h
        refine WXL.fieldAddr (off' := 0) Met.none rfl Try.underlying71 rfl sz27 rfl ?_
        refine WXL.st (vs := [_]) (c' := [_, _]) (j := 1) Met.none rfl rfl rfl sz27 ?_ (hj := rfl)
        refine WXL.nil ?_
        refine Fin.then_normal ?_
        refine WX.seq ?_
        refine WX.draw rfl ?_
        refine WXL.fieldAddr (off' := 0) Met.none rfl Try.underlying71 rfl sz27 rfl ?_
        first | refine WXL.ld Met.none rfl agg27 ?_ | refine WXL.ldS Met.none rfl agg27 ?_
        refine WXL.move Met.none rfl ?_
        refine WXL.qu Met.none rfl rfl ?_ (hr := hbw)
        rw [hq]
        first | refine WXL.ix Met.none rfl rfl elem27 sz5 ?_ | refine WXL.ixS Met.none rfl rfl elem27 sz5 ?_
        first | refine WXL.ld Met.none rfl agg5 ?_ | refine WXL.ldS Met.none rfl agg5 ?_
        refine WXL.move Met.none rfl ?_
        refine WXL.rem Met.none rfl rfl (by omega) ?_
        rw [hbm hb0]
        refine WXL.bin Met.none rfl rfl bvS ?_
        refine WXL.shl Met.none rfl rfl (by omega) ?_
        rw [show ((7 : Int) - ((bit.toNat % 8 : Nat) : Int)).toNat = 7 - bit.toNat % 8 from by omega]
        refine WXL.bin Met.none rfl rfl (show _ = some (B8 (flipB (nth (getF D.fs n).bs k) (7 - bit.toNat % 8))) from rfl) ?_
        first | refine WXL.ix Met.none rfl rfl elem27 sz5 ?_ | refine WXL.ixS Met.none rfl rfl elem27 sz5 ?_
        refine WXL.st (vs := [_]) (j := 0) Met.none rfl rfl rfl sz5 ?_ (hj := rfl)
        refine WXL.nil ?_
        refine Fin.then_normal ?_
        refine WX.seq ?_
        obtain ⟨f2, hf2⟩ : ∃ f2 : Fi, f2 = ⟨(getF D.fs n).bs.set k (flipB (nth (getF D.fs n).bs k) (7 - bit.toNat % 8)), (getF D.fs n).d⟩ := ⟨_, rfl⟩
        have hl2 : f2.bs.length = (getF D.fs n).bs.length := by rw [hf2]; exact List.length_set
        have hB2 : Bytes f2.bs := by
          rw [hf2]
          intro y hy
          rcases List.mem_or_eq_of_mem_set hy with p | p
          · exact hB y p
          · rw [p]; exact flipB_range _ _
        have hfo : FileOk ([(b31, ⟨1, false, f2.bs.map B8⟩)] ++ R0) (fileV (some ⟨b31, 0, none⟩) (getF D.fs n).bs.length c31 (getF D.fs n).d) f2 := ⟨_, c31, by rw [hl2, hf2], .inr ⟨b31, 0, ⟨1, false, f2.bs.map B8⟩, rfl, fun g hg => hg.mem (by simp), rfl, by show 0 + f2.bs.length * 1 ≤ (f2.bs.map B8).length; rw [List.length_map]; omega, by rw [List.drop_zero, Nat.mul_one]; exact List.take_of_length_le (by rw [List.length_map]; omega)⟩, (fun q => by cases q), hB2⟩
        have hgd := hD.get_d n
        have hD2 := (hD.app (N := [(b31, ⟨1, false, f2.bs.map B8⟩)])).set n hfo (by omega) ⟨by rw [hf2]; exact hgd.1, by rw [hl2, hf2]; exact hgd.2⟩ (by rw [hl2]; have := hD.used; omega)
        rw [hl2] at hD2
        refine WX.region rfl ?_
        refine WXL.move Met.none rfl ?_
        refine WXL.move Met.none rfl ?_
        refine WXL.ldN (vs := [_, _]) Met.none rfl agg71 sz71 ?_
        refine WXL.cl (O1 := dkO d bm D mx ((b7, ⟨0, false, [.slice (some ⟨b31, 0, none⟩) (getF D.fs n).bs.length c31, I (getF D.fs n).d]⟩) :: (b31, ⟨1, false, f2.bs.map B8⟩) :: R)) Met.none rfl (fnOk_of Try.func38 (by decide +kernel)) rfl (by rw [hf2]; exact sub_) (set_ok _ d bm D mx n (some ⟨b31, 0, none⟩) (getF D.fs n).bs.length c31 (getF D.fs n).d) (fun v O' hp => ?_)
        obtain rfl := hp
        refine WXL.nil ?_
        refine Fin.then_normal ?_
        refine WX.seq ?_
        refine WX.region rfl ?_
        refine WXL.assign Met.none rfl ?_
        refine WXL.nil ?_
        refine Fin.then_normal ?_
        refine WX.ret ?_
        first
        | exact Fin.result (O' := dkO d bm D mx ([] ++ R)) (.inr rfl) rfl rfl drop_ (by unfold rotD; rw [if_pos (by omega)]; exact ⟨mx, [], rfl, rfl, hD⟩)
        | exact Fin.result (O' := dkO d bm D mx ([] ++ R)) (.inr rfl) rfl rfl drop_ (by unfold rotD; rw [if_pos (by rcases Int.lt_or_le bit 0 with h | h; exact .inr (.inl h); have := hbq h; omega)]; exact ⟨mx, [], rfl, rfl, hD⟩)
        | exact Fin.result (O' := dkO d bm { D with fs := setF D.fs n f2 } (setX mx n (fileV (some ⟨b31, 0, none⟩) (getF D.fs n).bs.length c31 (getF D.fs n).d) (getF D.fs n).bs.length) ([(b31, ⟨1, false, f2.bs.map B8⟩)] ++ R)) (.inr rfl) rfl rfl sub_ (by
            unfold rotD
            rw [if_neg (by omega), ← hk, ← hf2]
            exact ⟨_, _, rfl, rfl, hD2⟩)

end Go.Proofs.Ytahaplbdhgfobaa.Eng

set_option linter.unusedVariables false
set_option linter.unusedSimpArgs false
namespace Go.Proofs.Ytahaplbdhgfobaa.Eng

theorem diskAppend_ok (R : Objs) {R0 : Objs} (d bm : Nat) (D : Dk) (mx : MapX) (n : Int) (b : List Int) (ab : Option Addr) (cb : Nat) (hD : DkI R0 D mx) (hi : ∀ g, Sat g R → Sat g R0) (hb : Src R 1 (.slice ab b.length cb) b.length (b.map B8)) (hBb : Bytes b) :
    Spec Try.prog false 14 #[Ptr d 0, I n, .slice ab b.length cb] (dkO d bm D mx R) fun v O' => ∃ mx' N, v = I (appendD D n b).1 ∧ O' = dkO d bm (appendD D n b).2 mx' (N ++ R) ∧ DkI (N ++ R0) (appendD D n b).2 mx' := by
  obtain ⟨fa, fc, hfv, hrow0, hnil, hB⟩ := hD.di.get n
  have hrow := hrow0.inc hi
  have hlen := hD.get_len n
  have hu := hD.used
  have hr := hD.room
  have hn := used_nn D.fs
  refine Spec.enter (args := [_, _, _]) (m := 47) Try.func14 rfl rfl (by decide +kernel) fun h0 => ?_
  refine WX.seq ?_
  refine WX.region rfl ?_
  refine WXL.assign Met.none rfl ?_
  refine WXL.nil ?_
  refine Fin.then_normal ?_
  refine WX.seq ?_
  refine WX.block ?_
  refine WX.seq ?_
  refine WX.region rfl ?_
  refine WXL.move Met.none rfl ?_
  refine WXL.cl (O1 := _) Met.none rfl (fnOk_of Try.func36 (by decide +kernel)) rfl (fun _ h => h) (exists_ok _ n) (fun v O' hp => ?_)
  obtain ⟨rfl, hO⟩ := hp
  subst O'
  refine WXL.not Met.none rfl ?_
  refine WXL.assign Met.none rfl ?_
  refine WXL.nil ?_
  refine Fin.then_normal ?_
  refine WX.cond rfl (fun hc0 => ?_) (fun hc0 => ?_)
  · try simp only [cnd] at hc0
    refine WX.seq ?_
    refine WX.region rfl ?_
    refine WXL.assign Met.none rfl ?_
    refine WXL.nil ?_
    refine Fin.then_normal ?_
    refine WX.ret ?_
    refine Fin.block_ret ?_
    refine Fin.then_ret ?_
    first
    | exact Fin.result (O' := dkO d bm D mx ([] ++ R)) (.inr rfl) rfl rfl drop_ (by unfold appendD; rw [if_pos (by omega)]; exact ⟨mx, [], rfl, rfl, hD⟩)
    | exact Fin.result (O' := dkO d bm D mx ([] ++ R)) (.inr rfl) rfl rfl drop_ (by unfold appendD; rw [if_neg (by omega), if_pos (by assumption)]; exact ⟨mx, [], rfl, rfl, hD⟩)
    | exact Fin.result (O' := dkO d bm D mx ([] ++ R)) (.inr rfl) rfl rfl drop_ (by unfold appendD; rw [if_neg (by omega), if_neg (by simp [hc1]), if_pos (by omega)]; exact ⟨mx, [], rfl, rfl, hD⟩)
    | exact Fin.result (O' := dkO d bm (stepD (appD1 D n b)).2 _ (G38 ++ R)) (.inr rfl) rfl rfl drop_ (by unfold appendD; rw [if_neg (by omega), if_neg (by simp [hc1]), if_neg (by omega), if_neg (by simpa using hc3)]; exact ⟨_, G38, rfl, rfl, hs.step⟩)
    | exact Fin.result (O' := dkO d bm (stepD (appD1 D n b)).2 _ (G38 ++ R)) (.inr rfl) rfl rfl drop_ (by unfold appendD; rw [if_neg (by omega), if_neg (by simp [hc1]), if_neg (by omega), if_pos (by simpa using hc3)]; exact ⟨_, G38, rfl, rfl, hs.step⟩)
  · try simp only [cnd] at hc0
    refine WX.seq ?_
    refine WX.region rfl ?_
    refine WXL.move Met.none rfl ?_
    refine WXL.nilCheck Met.none rfl ?_
    first | refine WXL.fieldAddr Met.none rfl Try.underlying68 rfl sz4 rfl ?_ | refine WXL.faS Met.none rfl Try.underlying68 rfl sz4 ?_
    first | refine WXL.ld Met.none rfl agg4 ?_ | refine WXL.ldS Met.none rfl agg4 ?_
    refine WXL.assign Met.none rfl ?_
    refine WXL.nil ?_
    refine Fin.then_normal ?_
    refine WX.cond rfl (fun hc1 => ?_) (fun hc1 => ?_)
    · try simp only [cnd] at hc1
      refine WX.seq ?_
      refine WX.region rfl ?_
      refine WXL.assign Met.none rfl ?_
      refine WXL.nil ?_
      refine Fin.then_normal ?_
      refine WX.ret ?_
      refine Fin.block_ret ?_
      refine Fin.then_ret ?_
      first
      | exact Fin.result (O' := dkO d bm D mx ([] ++ R)) (.inr rfl) rfl rfl drop_ (by unfold appendD; rw [if_pos (by omega)]; exact ⟨mx, [], rfl, rfl, hD⟩)
      | exact Fin.result (O' := dkO d bm D mx ([] ++ R)) (.inr rfl) rfl rfl drop_ (by unfold appendD; rw [if_neg (by omega), if_pos (by assumption)]; exact ⟨mx, [], rfl, rfl, hD⟩)
      | exact Fin.result (O' := dkO d bm D mx ([] ++ R)) (.inr rfl) rfl rfl drop_ (by unfold appendD; rw [if_neg (by omega), if_neg (by simp [hc1]), if_pos (by omega)]; exact ⟨mx, [], rfl, rfl, hD⟩)
      | exact Fin.result (O' := dkO d bm (stepD (appD1 D n b)).2 _ (G38 ++ R)) (.inr rfl) rfl rfl drop_ (by unfold appendD; rw [if_neg (by omega), if_neg (by simp [hc1]), if_neg (by omega), if_neg (by simpa using hc3)]; exact ⟨_, G38, rfl, rfl, hs.step⟩)
      | exact Fin.result (O' := dkO d bm (stepD (appD1 D n b)).2 _ (G38 ++ R)) (.inr rfl) rfl rfl drop_ (by unfold appendD; rw [if_neg (by omega), if_neg (by simp [hc1]), if_neg (by omega), if_pos (by simpa using hc3)]; exact ⟨_, G38, rfl, rfl, hs.step⟩)
    · try simp only [cnd] at hc1
      refine WX.seq ?_
      refine WX.draw rfl ?_
      refine WXL.move Met.none rfl ?_
      refine WXL.len Met.none rfl Try.underlying27 ?_
      refine WXL.move Met.none rfl ?_
      refine WXL.nilCheck Met.none rfl ?_
      first | refine WXL.fieldAddr Met.none rfl Try.underlying68 rfl sz3 rfl ?_ | refine WXL.faS Met.none rfl Try.underlying68 rfl sz3 ?_
      first | refine WXL.ld Met.none rfl agg3 ?_ | refine WXL.ldS Met.none rfl agg3 ?_
      refine WXL.move Met.none rfl ?_
      refine WXL.cl (O1 := _) Met.none rfl (fnOk_of Try.func21 (by decide +kernel)) rfl (fun _ h => h) (used_ok _ R d bm D mx hD) (fun v O' hp => ?_)
      obtain ⟨rfl, hO⟩ := hp
      subst O'
      refine WXL.bin Met.none rfl rfl bvS ?_
      refine WXL.bin Met.none rfl rfl rfl ?_
      refine WXL.assign Met.none rfl ?_
      refine WXL.nil ?_
      refine Fin.then_normal ?_
      refine WX.cond rfl (fun hc2 => ?_) (fun hc2 => ?_)
      · try simp only [cnd] at hc2
        refine WX.seq ?_
        refine WX.region rfl ?_
        refine WXL.assign Met.none rfl ?_
        refine WXL.nil ?_
        refine Fin.then_normal ?_
        refine WX.ret ?_
        refine Fin.block_ret ?_
        refine Fin.then_ret ?_
        first
        | exact Fin.result (O' := dkO d bm D mx ([] ++ R)) (.inr rfl) rfl rfl drop_ (by unfold appendD; rw [if_pos (by omega)]; exact ⟨mx, [], rfl, rfl, hD⟩)
        | exact Fin.result (O' := dkO d bm D mx ([] ++ R)) (.inr rfl) rfl rfl drop_ (by unfold appendD; rw [if_neg (by omega), if_pos (by assumption)]; exact ⟨mx, [], rfl, rfl, hD⟩)
        | exact Fin.result (O' := dkO d bm D mx ([] ++ R)) (.inr rfl) rfl rfl drop_ (by unfold appendD; rw [if_neg (by omega), if_neg (by simp [hc1]), if_pos (by omega)]; exact ⟨mx, [], rfl, rfl, hD⟩)
        | exact Fin.result (O' := dkO d bm (stepD (appD1 D n b)).2 _ (G38 ++ R)) (.inr rfl) rfl rfl drop_ (by unfold appendD; rw [if_neg (by omega), if_neg (by simp [hc1]), if_neg (by omega), if_neg (by simpa using hc3)]; exact ⟨_, G38, rfl, rfl, hs.step⟩)
        | exact Fin.result (O' := dkO d bm (stepD (appD1 D n b)).2 _ (G38 ++ R)) (.inr rfl) rfl rfl drop_ (by unfold appendD; rw [if_neg (by omega), if_neg (by simp [hc1]), if_neg (by omega), if_pos (by simpa using hc3)]; exact ⟨_, G38, rfl, rfl, hs.step⟩)
      · try simp only [cnd] at hc2
        refine WX.skip ?_
        refine Fin.block_normal ?_
        refine Fin.then_normal ?_
        refine WX.seq ?_
        refine WX.region rfl ?_
        refine WXL.move Met.none rfl ?_
        refine WXL.nilCheck Met.none rfl ?_
        first | refine WXL.fieldAddr Met.none rfl Try.underlying68 rfl sz66 rfl ?_ | refine WXL.faS Met.none rfl Try.underlying68 rfl sz66 ?_
        first | refine WXL.ld Met.none rfl agg66 ?_ | refine WXL.ldS Met.none rfl agg66 ?_
        refine WXL.move Met.none rfl ?_
        refine WXL.lookup Met.none rfl rfl mapT66 zero71 at_ (show _ = fileV fa (getF D.fs n).bs.length fc (getF D.fs n).d from hfv) ?_
        refine WXL.alloc (c := [_, _]) Met.none zero71 rfl (fun b7 => ?_)
        refine WXL.st (vs := [_, _]) (c' := [_, _]) (j := 0) Met.none rfl rfl rfl sz71 ?_ (hj := rfl)
        refine WXL.nil ?_
        refine Fin.then_normal ?_
        refine WX.seq ?_
        refine WX.region rfl ?_
        refine WXL.fieldAddr (off' := 0) Met.none rfl Try.underlying71 rfl sz27 rfl ?_
        first | refine WXL.ld Met.none rfl agg27 ?_ | refine WXL.ldS Met.none rfl agg27 ?_
        refine WXL.cl (O1 := _) Met.none rfl (fnOk_of Try.func37 (by decide +kernel)) rfl (fun _ h => h) (clone_ok _ (getF D.fs n).bs fa fc (by omega) (fun q => by
        have := hrow.nil0 q
        exact List.length_eq_zero_iff.1 this) (Src.cons (Src.cons (Src.cons (hrow.src hnil))))) (fun v O' hp => ?_)
        obtain ⟨a36, c36, G36, rfl, hG36, rfl⟩ := hp
        refine WXL.move Met.none rfl ?_
        refine WXL.apG ([]) Met.none rfl rfl isrow27 elem27 sz5 by5 zero5 (Src.app (Src.cons (Src.cons (Src.cons hb)))) (fun a38 c38 G38 hG38 => ?_) (hm := (by rw [List.length_map]; omega))
        refine WXL.re (O' := (b7, ⟨0, false, [.slice fa (getF D.fs n).bs.length fc, I (getF D.fs n).d]⟩) :: dkO d bm D mx (G38 ++ R)) ?_
        refine WXL.fieldAddr (off' := 0) Met.none rfl Try.underlying71 rfl sz27 rfl ?_
        refine WXL.st (vs := [_]) (c' := [_, _]) (j := 0) Met.none rfl rfl rfl sz27 ?_ (hj := rfl)
        refine WXL.nil ?_
        refine Fin.then_normal ?_
        refine WX.seq ?_
        refine WX.region rfl ?_
        refine WXL.move Met.none rfl ?_
        refine WXL.move Met.none rfl ?_
        refine WXL.ldN (vs := [_, _]) Met.none rfl agg71 sz71 ?_
        refine WXL.cl (O1 := dkO d bm D mx (G38 ++ R)) Met.none rfl (fnOk_of Try.func38 (by decide +kernel)) rfl sub_ (set_ok (G38 ++ R) d bm D mx n a38 ((getF D.fs n).bs.length + b.length) c38 (getF D.fs n).d) (fun v O' hp => ?_)
        obtain rfl := hp
        refine WXL.nil ?_
        refine Fin.then_normal ?_
        refine WX.seq ?_
        refine WX.seq ?_
        have hf : FileOk (G38 ++ R0) (fileV a38 ((getF D.fs n).bs.length + b.length) c38 (getF D.fs n).d) ⟨(getF D.fs n).bs ++ b, (getF D.fs n).d⟩ := by
          have h1 := hG38.rowy (R := R0)
          rw [← List.map_append] at h1
          exact ⟨a38, c38, by rw [List.length_append], by rw [List.length_append]; exact h1, fun q => (hG38.nil0 q).1, fun x hx => by
            rcases List.mem_append.1 hx with q | q
            · exact hB x q
            · exact hBb x q⟩
        have hs : DkI (G38 ++ R0) (appD1 D n b) (setX mx n (fileV a38 ((getF D.fs n).bs.length + b.length) c38 (getF D.fs n).d) ((getF D.fs n).bs.length + b.length)) := by
          have hgd := hD.get_d n
          have := (hD.app (N := G38)).set n hf (by omega) ⟨hgd.1, by simp only [List.length_append]; omega⟩ (by rw [List.length_append]; omega)
          rw [List.length_append] at this
          exact this
        refine WX.region rfl ?_
        refine WXL.move Met.none rfl ?_
        refine WXL.cl (O1 := _) Met.none rfl (fnOk_of Try.func39 (by decide +kernel)) rfl (fun _ h => h) (step_ok (G38 ++ R) d bm (appD1 D n b) (setX mx n (fileV a38 ((getF D.fs n).bs.length + b.length) c38 (getF D.fs n).d) ((getF D.fs n).bs.length + b.length)) hs.left) (fun v O' hp => ?_)
        obtain ⟨rfl, hO⟩ := hp
        subst O'
        refine WXL.not Met.none rfl ?_
        refine WXL.nil ?_
        refine Fin.then_normal ?_
        refine WX.cond rfl (fun hc3 => ?_) (fun hc3 => ?_)
        · try simp only [cnd] at hc3
          refine WX.seq ?_
          refine WX.region rfl ?_
          refine WXL.assign Met.none rfl ?_
          refine WXL.nil ?_
          refine Fin.then_normal ?_
          refine WX.ret ?_
          refine Fin.then_ret ?_
          first
          | exact Fin.result (O' := dkO d bm D mx ([] ++ R)) (.inr rfl) rfl rfl drop_ (by unfold appendD; rw [if_pos (by omega)]; exact ⟨mx, [], rfl, rfl, hD⟩)
          | exact Fin.result (O' := dkO d bm D mx ([] ++ R)) (.inr rfl) rfl rfl drop_ (by unfold appendD; rw [if_neg (by omega), if_pos (by assumption)]; exact ⟨mx, [], rfl, rfl, hD⟩)
          | exact Fin.result (O' := dkO d bm D mx ([] ++ R)) (.inr rfl) rfl rfl drop_ (by unfold appendD; rw [if_neg (by omega), if_neg (by simp [hc1]), if_pos (by omega)]; exact ⟨mx, [], rfl, rfl, hD⟩)
          | exact Fin.result (O' := dkO d bm (stepD (appD1 D n b)).2 _ (G38 ++ R)) (.inr rfl) rfl rfl drop_ (by unfold appendD; rw [if_neg (by omega), if_neg (by simp [hc1]), if_neg (by omega), if_neg (by simpa using hc3)]; exact ⟨_, G38, rfl, rfl, hs.step⟩)
          | exact Fin.result (O' := dkO d bm (stepD (appD1 D n b)).2 _ (G38 ++ R)) (.inr rfl) rfl rfl drop_ (by unfold appendD; rw [if_neg (by omega), if_neg (by simp [hc1]), if_neg (by omega), if_pos (by simpa using hc3)]; exact ⟨_, G38, rfl, rfl, hs.step⟩)
        · try simp only [cnd] at hc3
          refine WX.skip ?_
          refine Fin.then_normal ?_
          refine WX.seq ?_
          refine WX.region rfl ?_
          refine WXL.assign Met.none rfl ?_
          refine WXL.nil ?_
          refine Fin.then_normal ?_
          refine WX.ret ?_
          first
          | exact Fin.result (O' := dkO d bm D mx ([] ++ R)) (.inr rfl) rfl rfl drop_ (by unfold appendD; rw [if_pos (by omega)]; exact ⟨mx, [], rfl, rfl, hD⟩)
          | exact Fin.result (O' := dkO d bm D mx ([] ++ R)) (.inr rfl) rfl rfl drop_ (by unfold appendD; rw [if_neg (by omega), if_pos (by assumption)]; exact ⟨mx, [], rfl, rfl, hD⟩)
          | exact Fin.result (O' := dkO d bm D mx ([] ++ R)) (.inr rfl) rfl rfl drop_ (by unfold appendD; rw [if_neg (by omega), if_neg (by simp [hc1]), if_pos (by omega)]; exact ⟨mx, [], rfl, rfl, hD⟩)
          | exact Fin.result (O' := dkO d bm (stepD (appD1 D n b)).2 _ (G38 ++ R)) (.inr rfl) rfl rfl drop_ (by unfold appendD; rw [if_neg (by omega), if_neg (by simp [hc1]), if_neg (by omega), if_neg (by simpa using hc3)]; exact ⟨_, G38, rfl, rfl, hs.step⟩)
          | exact Fin.result (O' := dkO d bm (stepD (appD1 D n b)).2 _ (G38 ++ R)) (.inr rfl) rfl rfl drop_ (by unfold appendD; rw [if_neg (by omega), if_neg (by simp [hc1]), if_neg (by omega), if_pos (by simpa using hc3)]; exact ⟨_, G38, rfl, rfl, hs.step⟩)

end Go.Proofs.Ytahaplbdhgfobaa.Eng

set_option linter.unusedVariables false
set_option linter.unusedSimpArgs false
namespace Go.Proofs.Ytahaplbdhgfobaa.Eng

theorem diskNew_good (O : Objs) (room : Int) (hr : 0 ≤ room ∧ room ≤ 16777216) : Spec Try.prog false 11 #[I room] O fun v O' => ∃ d bm, v = .tuple #[Ptr d 0, I 0] ∧ O' = dkO d bm ⟨room, false, false, 0, []⟩ .new O :=
  (diskNew_ok O room).mono fun v O' h => by
    rcases h with ⟨_, _, h⟩ | ⟨h, _⟩
    · exact h
    · exact absurd hr h

theorem DkI.new {room : Int} (h : 0 ≤ room ∧ room ≤ 16777216) : DkI [] ⟨room, false, false, 0, []⟩ .new := ⟨.new, (fun e he => by simp at he), h, (fun q => by cases q), h.1⟩

def livD (f : Fi) : Dk := ⟨100, false, false, 0, [(3, f)]⟩
theorem liv_fnos (f : Fi) : fnos (livD f) = [3] := by
  show sortK [3] = [3]
  simp [sortK]
theorem liv_c1 : ((mget 3 (crashC (livD ⟨[1, 2, 255], 2⟩) [1] 7)).getD ⟨[], 0⟩).hard = ⟨[1, 2, 254], 3⟩ := by
  unfold crashC cuts cutAt
  rw [liv_fnos]
  rfl
theorem liv_c2 : ((mget 3 (crashC (livD ⟨[1, 2, 255], 2⟩) [] 7)).getD ⟨[], 0⟩).hard = ⟨[1, 2], 2⟩ := by
  unfold crashC cuts cutAt
  rw [liv_fnos]
  rfl

theorem appendD_off {D : Dk} {n : Int} {b : List Int} (hn : 0 ≤ n ∧ n < 64) (ho : D.off = false) (hu : (b.length : Int) ≤ D.room - used D.fs) (ha : D.armed = true) (hl : D.left = 0) : ∃ D', appendD D n b = (23, D') ∧ D'.off = true := by
  have hs : stepD (appD1 D n b) = (false, { appD1 D n b with off := true, armed := false, left := (appD1 D n b).left - 1 }) := by
    unfold stepD
    rw [if_neg (by show ¬ D.armed = false; rw [ha]; simp), if_pos (by show D.left - 1 < 0; omega)]
  unfold appendD
  rw [if_neg (by omega), if_neg (by rw [ho]; simp), if_neg (by omega), hs]
  exact ⟨_, rfl, rfl⟩

theorem lives_ok (O : Objs) : Spec Try.prog false 19 #[] O fun v O' => v = .bool true ∧ O' = O := by
  refine Spec.enter (args := []) (m := 81) Try.func19 rfl rfl (by decide +kernel) fun h0 => ?_
  refine WX.seq ?_
  refine WX.region rfl ?_
  refine WXL.assign Met.none rfl ?_
  refine WXL.nil ?_
  refine Fin.then_normal ?_
  refine WX.seq ?_
  refine WX.region rfl ?_
  refine WXL.cl (O1 := _) Met.none rfl (fnOk_of Try.func11 (by decide +kernel)) rfl (fun _ h => h) (diskNew_good O 100 (by decide)) (fun v O' hp => ?_)
  obtain ⟨d, bm, rfl, rfl⟩ := hp
  refine WXL.move Met.none rfl ?_
  refine WXL.extract Met.none rfl rfl ?_
  refine WXL.extract Met.none rfl rfl ?_
  refine WXL.assign Met.none rfl ?_
  refine WXL.assign Met.none rfl ?_
  refine WXL.nil ?_
  refine Fin.then_normal ?_
  refine WX.seq ?_
  refine WX.seq ?_
  refine WX.region rfl ?_
  refine WXL.move Met.none rfl ?_
  refine WXL.eqNilP Met.none rfl rfl Try.underlying23 ?_
  refine WXL.move Met.none rfl ?_
  refine WXL.split (d := 17) rfl (fun hg17 => ?_) (fun hg17 => ?_)
  · try simp only [cnd] at hg17
    exact (by simp at hg17) --end
  · try simp only [cnd] at hg17
    refine WXL.move (Met.some rfl rfl rfl) rfl ?_
    refine WXL.bin (Met.some rfl rfl rfl) rfl rfl rfl ?_
    refine WXL.pick_f Met.none rfl rfl ?_
    refine WXL.nil ?_
    refine Fin.then_normal ?_
    refine WX.cond rfl (fun hc0 => ?_) (fun hc0 => ?_)
    · try simp only [cnd] at hc0
      exact (by simp at hc0) --end
    · try simp only [cnd] at hc0
      refine WX.skip ?_
      refine Fin.then_normal ?_
      refine WX.seq ?_
      refine WX.region rfl ?_
      refine WXL.move Met.none rfl ?_
      refine WXL.buildSlice (c := [_, _]) Met.none rfl elem27 sz5 zero5 (by decide) (by decide) rfl rfl rfl rfl (fun b22 => ?_)
      refine WXL.cl (O1 := dkO d bm ⟨100, false, false, 0, []⟩ .new ((b22, ⟨1, false, [B8 1, B8 2]⟩) :: O)) Met.none rfl (fnOk_of Try.func14 (by decide +kernel)) rfl (fun _ hs => hs.tl [1, 2, 0] 3) (diskAppend_ok ((b22, ⟨1, false, [B8 1, B8 2]⟩) :: O) d bm ⟨100, false, false, 0, []⟩ .new 3 [1, 2] (some ⟨b22, 0, none⟩) 2 (DkI.new (by decide)) (fun g hg => Sat.nil hg.wf) (Src.row1 rfl) (by intro x hx; simp at hx; omega)) (fun v O' hp => ?_)
      obtain ⟨mx1, N1, rfl, rfl, hD1⟩ := hp
      rw [show appendD ⟨100, false, false, 0, []⟩ 3 [1, 2] = (0, livD ⟨[1, 2], 0⟩) from rfl] at hD1 ⊢
      rw [List.append_nil] at hD1
      dsimp only at hD1 ⊢
      refine WXL.nil ?_
      refine Fin.then_normal ?_
      refine WX.seq ?_
      refine WX.region rfl ?_
      refine WXL.move Met.none rfl ?_
      refine WXL.cl (O1 := _) Met.none rfl (fnOk_of Try.func15 (by decide +kernel)) rfl (fun _ h => h) (sync_ok _ d bm (livD ⟨[1, 2], 0⟩) mx1 hD1) (fun v O' hp => ?_)
      obtain ⟨mx2, rfl, rfl, hD2⟩ := hp
      rw [show syncD (livD ⟨[1, 2], 0⟩) = (0, livD ⟨[1, 2], 2⟩) from rfl] at hD2 ⊢
      dsimp only at hD2 ⊢
      refine WXL.nil ?_
      refine Fin.then_normal ?_
      refine WX.seq ?_
      refine WX.region rfl ?_
      refine WXL.move Met.none rfl ?_
      refine WXL.buildSlice (c := [_]) Met.none rfl elem27 sz5 zero5 (by decide) (by decide) rfl rfl rfl rfl (fun b27 => ?_)
      refine WXL.cl (O1 := dkO d bm (livD ⟨[1, 2], 2⟩) mx2 ((b27, ⟨1, false, [B8 255]⟩) :: (N1 ++ ((b22, ⟨1, false, [B8 1, B8 2]⟩) :: O)))) Met.none rfl (fnOk_of Try.func14 (by decide +kernel)) rfl (fun _ hs => hs.tl [1, 2, 0] 3) (diskAppend_ok ((b27, ⟨1, false, [B8 255]⟩) :: (N1 ++ ((b22, ⟨1, false, [B8 1, B8 2]⟩) :: O))) d bm (livD ⟨[1, 2], 2⟩) mx2 3 [255] (some ⟨b27, 0, none⟩) 1 hD2 (fun g hg => hg.tail.app_left) (Src.row1 rfl) (by intro x hx; simp at hx; omega)) (fun v O' hp => ?_)
      obtain ⟨mx3, N3, rfl, rfl, hD3⟩ := hp
      rw [show appendD (livD ⟨[1, 2], 2⟩) 3 [255] = (0, livD ⟨[1, 2, 255], 2⟩) from rfl] at hD3 ⊢
      dsimp only at hD3 ⊢
      obtain ⟨NN, hNN⟩ : ∃ NN, NN = N3 ++ N1 := ⟨_, rfl⟩
      rw [← hNN] at hD3
      refine WXL.re (O' := dkO d bm (livD ⟨[1, 2, 255], 2⟩) mx3 (NN ++ O)) ?_ (by rw [hNN]; exact sub_)
      refine WXL.nil ?_
      refine Fin.then_normal ?_
      refine WX.seq ?_
      refine WX.region rfl ?_
      refine WXL.move Met.none rfl ?_
      refine WXL.cl (O1 := _) Met.none rfl (fnOk_of Try.func30 (by decide +kernel)) rfl (fun _ h => h) (copy_ok _ d bm (livD ⟨[1, 2, 255], 2⟩) mx3) (fun v O' hp => ?_)
      obtain ⟨c, bc, rfl, rfl⟩ := hp
      refine WXL.assign Met.none rfl ?_
      refine WXL.nil ?_
      refine Fin.then_normal ?_
      refine WX.seq ?_
      refine WX.region rfl ?_
      refine WXL.move Met.none rfl ?_
      refine WXL.buildSlice (c := [_]) Met.none rfl elem33 sz3 zero3 (by decide) (by decide) rfl rfl rfl rfl (fun b32 => ?_)
      refine WXL.cl (O1 := dkO d bm (livD ⟨[1, 2, 255], 2⟩) mx3 ((b32, ⟨1, false, [I 1]⟩) :: dkO c bc (livD ⟨[1, 2, 255], 2⟩) mx3 (NN ++ O))) Met.none rfl (fnOk_of Try.func16 (by decide +kernel)) rfl (fun _ hs => hs.tl [3, 4, 0, 1, 2] 5) (crash_ok ((b32, ⟨1, false, [I 1]⟩) :: dkO c bc (livD ⟨[1, 2, 255], 2⟩) mx3 (NN ++ O)) d bm (livD ⟨[1, 2, 255], 2⟩) mx3 [1] (some ⟨b32, 0, none⟩) 1 7 hD3 (by intro Q; simp only [List.countP_append, List.countP_cons]; omega) (by decide) (by unfold In64; decide) (by intro n hn; simp at hn; subst hn; unfold In64; decide) (by decide) (Src.row1 rfl)) (fun v O' hp => ?_)
      obtain ⟨mx6, N6, D6, rfl, hD6, hr6, ho6, ha6, hg6⟩ := hp
      refine WXL.re (O' := dkO c bc (livD ⟨[1, 2, 255], 2⟩) mx3 (dkO d bm D6 mx6 ((N6 ++ NN) ++ O))) ?_
      refine WXL.nil ?_
      refine Fin.then_normal ?_
      refine WX.seq ?_
      refine WX.seq ?_
      refine WX.region rfl ?_
      refine WXL.move Met.none rfl ?_
      refine WXL.eqNilP Met.none rfl rfl Try.underlying23 ?_
      refine WXL.nil ?_
      refine Fin.then_normal ?_
      refine WX.cond rfl (fun hc1 => ?_) (fun hc1 => ?_)
      · try simp only [cnd] at hc1
        exact (by simp at hc1) --end
      · try simp only [cnd] at hc1
        refine WX.skip ?_
        refine Fin.then_normal ?_
        refine WX.seq ?_
        refine WX.region rfl ?_
        refine WXL.move Met.none rfl ?_
        refine WXL.cl (O1 := _) Met.none rfl (fnOk_of Try.func16 (by decide +kernel)) rfl (fun _ h => h) (crash_ok (dkO d bm D6 mx6 ((N6 ++ NN) ++ O)) c bc (livD ⟨[1, 2, 255], 2⟩) mx3 [] none 0 7 hD3 (by intro Q; simp only [List.countP_append, List.countP_cons]; omega) (by decide) (by unfold In64; decide) (fun n hn => by simp at hn) (by decide) Src.nil) (fun v O' hp => ?_)
        obtain ⟨mx7, N7, D7, rfl, hD7, hr7, ho7, ha7, hg7⟩ := hp
        refine WXL.nil ?_
        refine Fin.then_normal ?_
        refine WX.seq ?_
        have h6 := (hg6 3).trans liv_c1
        have h7 := (hg7 3).trans liv_c2
        have e6 : readD D6 3 = ([1, 2, 254], 0) := by
          unfold readD
          rw [if_neg (by decide), if_neg (by rw [ho6]; simp), h6]
        have e7 : readD D7 3 = ([1, 2], 0) := by
          unfold readD
          rw [if_neg (by decide), if_neg (by rw [ho7]; simp), h7]
        refine WX.region rfl ?_
        refine WXL.move Met.none rfl ?_
        refine WXL.cl (O1 := dkO d bm D6 mx6 ((N6 ++ NN) ++ (dkO c bc D7 mx7 (N7 ++ O)))) Met.none rfl (fnOk_of Try.func17 (by decide +kernel)) rfl sub_ (diskRead_ok ((N6 ++ NN) ++ (dkO c bc D7 mx7 (N7 ++ O))) d bm D6 mx6 3 hD6 (fun g hg => hg.app_left)) (fun v O' hp => ?_)
        obtain ⟨a1, c1, G1, rfl, hG1, rfl⟩ := hp
        rw [e6] at hG1 ⊢
        dsimp only at hG1 ⊢
        refine WXL.move Met.none rfl ?_
        refine WXL.extract Met.none rfl rfl ?_
        refine WXL.extract Met.none rfl rfl ?_
        refine WXL.assign Met.none rfl ?_
        refine WXL.assign Met.none rfl ?_
        refine WXL.nil ?_
        refine Fin.then_normal ?_
        refine WX.seq ?_
        refine WX.region rfl ?_
        refine WXL.move Met.none rfl ?_
        refine WXL.cl (O1 := dkO c bc D7 mx7 (N7 ++ (NN ++ (G1 ++ O)))) Met.none rfl (fnOk_of Try.func17 (by decide +kernel)) rfl sub_ (diskRead_ok (N7 ++ (NN ++ (G1 ++ O))) c bc D7 mx7 3 hD7 (fun g hg => hg.sub (by intro Q; simp only [List.countP_append]; omega))) (fun v O' hp => ?_)
        obtain ⟨a2, c2, G2, rfl, hG2, rfl⟩ := hp
        rw [e7] at hG2 ⊢
        dsimp only at hG2 ⊢
        refine WXL.move Met.none rfl ?_
        refine WXL.extract Met.none rfl rfl ?_
        refine WXL.extract Met.none rfl rfl ?_
        refine WXL.assign Met.none rfl ?_
        refine WXL.assign Met.none rfl ?_
        refine WXL.nil ?_
        refine Fin.then_normal ?_
        refine WX.seq ?_
        refine WX.region rfl ?_
        refine WXL.move Met.none rfl ?_
        refine WXL.cl (O1 := _) Met.none rfl (fnOk_of Try.func28 (by decide +kernel)) rfl (fun _ h => h) (arm_ok _ c bc D7 mx7 0) (fun v O' hp => ?_)
        obtain rfl := hp
        refine WXL.nil ?_
        refine Fin.then_normal ?_
        refine WX.seq ?_
        obtain ⟨D8, hD8e⟩ : ∃ D8, D8 = armD D7 0 := ⟨_, rfl⟩
        have hD8 : DkI (N7 ++ NN) D8 mx7 := by rw [hD8e]; exact hD7.arm (by decide)
        have h8o : D8.off = false := by rw [hD8e]; unfold armD; rw [if_neg (by rw [ho7]; simp)]; exact ho7
        have h8a : D8.armed = true := by rw [hD8e]; unfold armD; rw [if_neg (by rw [ho7]; simp)]; rfl
        have h8l : D8.left = 0 := by rw [hD8e]; unfold armD; rw [if_neg (by rw [ho7]; simp)]
        obtain ⟨D9, e9, o9⟩ := appendD_off (D := D8) (n := 1) (b := []) (by decide) h8o (by have := hD8.used; show (0 : Int) ≤ _; omega) h8a h8l
        rw [← hD8e]
        refine WX.region rfl ?_
        refine WXL.move Met.none rfl ?_
        refine WXL.cl (O1 := _) Met.none rfl (fnOk_of Try.func14 (by decide +kernel)) rfl (fun _ h => h) (diskAppend_ok (G2 ++ (N7 ++ (NN ++ (G1 ++ O)))) c bc D8 mx7 1 [] none 0 hD8 (fun g hg => hg.sub (by intro Q; simp only [List.countP_append]; omega)) Src.nil (fun x hx => by simp at hx)) (fun v O' hp => ?_)
        obtain ⟨mx9, N9, rfl, rfl, hD9⟩ := hp
        rw [e9] at hD9 ⊢
        dsimp only at hD9 ⊢
        have e10 : readD D9 3 = ([], 23) := by
          unfold readD
          rw [if_neg (by decide), if_pos o9]
        refine WXL.assign Met.none rfl ?_
        refine WXL.nil ?_
        refine Fin.then_normal ?_
        refine WX.seq ?_
        refine WX.region rfl ?_
        refine WXL.move Met.none rfl ?_
        refine WXL.cl (O1 := _) Met.none rfl (fnOk_of Try.func17 (by decide +kernel)) rfl (fun _ h => h) (diskRead_ok (N9 ++ (G2 ++ (N7 ++ (NN ++ (G1 ++ O))))) c bc D9 mx9 3 hD9 (fun g hg => hg.sub (by intro Q; simp only [List.countP_append]; omega))) (fun v O' hp => ?_)
        obtain ⟨a3, c3, G3, rfl, hG3, rfl⟩ := hp
        rw [e10]
        dsimp only
        refine WXL.move Met.none rfl ?_
        refine WXL.extract Met.none rfl rfl ?_
        refine WXL.extract Met.none rfl rfl ?_
        refine WXL.assign Met.none rfl ?_
        refine WXL.assign Met.none rfl ?_
        refine WXL.nil ?_
        refine Fin.then_normal ?_
        refine WX.seq ?_
        refine WX.re (O' := G1 ++ (G2 ++ O)) ?_
        refine WX.region rfl ?_
        refine WXL.move Met.none rfl ?_
        refine WXL.bin Met.none rfl rfl rfl ?_
        refine WXL.move Met.none rfl ?_
        refine WXL.split (d := 59) rfl (fun hg59 => ?_) (fun hg59 => ?_)
        · try simp only [cnd] at hg59
          refine WXL.move (Met.some rfl rfl rfl) rfl ?_
          refine WXL.bin (Met.some rfl rfl rfl) rfl rfl rfl ?_
          refine WXL.pick_t Met.none rfl rfl ?_
          refine WXL.move Met.none rfl ?_
          refine WXL.split (d := 63) rfl (fun hg63 => ?_) (fun hg63 => ?_)
          · try simp only [cnd] at hg63
            refine WXL.move (Met.some rfl rfl rfl) rfl ?_
            refine WXL.buildSlice (c := [_, _, _]) (Met.some rfl rfl rfl) rfl elem27 sz5 zero5 (by decide) (by decide) rfl rfl rfl rfl (fun b65 => ?_)
            refine WXL.cl (O1 := _) (Met.some rfl rfl rfl) rfl (fnOk_of Try.func18 (by decide +kernel)) rfl (fun _ h => h) (sameB_ok _ [1, 2, 254] [1, 2, 254] a1 (some ⟨b65, 0, none⟩) c1 3 (by decide) (Src.cons hG1.src) (Src.row1 rfl)) (fun v O' hp => ?_)
            obtain ⟨rfl, hO⟩ := hp
            subst O'
            refine WXL.pick_t Met.none rfl rfl ?_
            refine WXL.move Met.none rfl ?_
            refine WXL.split (d := 68) rfl (fun hg68 => ?_) (fun hg68 => ?_)
            · try simp only [cnd] at hg68
              refine WXL.move (Met.some rfl rfl rfl) rfl ?_
              refine WXL.buildSlice (c := [_, _]) (Met.some rfl rfl rfl) rfl elem27 sz5 zero5 (by decide) (by decide) rfl rfl rfl rfl (fun b70 => ?_)
              refine WXL.cl (O1 := _) (Met.some rfl rfl rfl) rfl (fnOk_of Try.func18 (by decide +kernel)) rfl (fun _ h => h) (sameB_ok _ [1, 2] [1, 2] a2 (some ⟨b70, 0, none⟩) c2 2 (by decide) (Src.cons (Src.cons (Src.app hG2.src))) (Src.row1 rfl)) (fun v O' hp => ?_)
              obtain ⟨rfl, hO⟩ := hp
              subst O'
              refine WXL.pick_t Met.none rfl rfl ?_
              refine WXL.move Met.none rfl ?_
              refine WXL.split (d := 73) rfl (fun hg73 => ?_) (fun hg73 => ?_)
              · try simp only [cnd] at hg73
                refine WXL.move (Met.some rfl rfl rfl) rfl ?_
                refine WXL.bin (Met.some rfl rfl rfl) rfl rfl rfl ?_
                refine WXL.pick_t Met.none rfl rfl ?_
                refine WXL.move Met.none rfl ?_
                refine WXL.split (d := 77) rfl (fun hg77 => ?_) (fun hg77 => ?_)
                · try simp only [cnd] at hg77
                  refine WXL.move (Met.some rfl rfl rfl) rfl ?_
                  refine WXL.bin (Met.some rfl rfl rfl) rfl rfl rfl ?_
                  refine WXL.pick_t Met.none rfl rfl ?_
                  refine WXL.assign Met.none rfl ?_
                  refine WXL.nil ?_
                  refine Fin.then_normal ?_
                  refine WX.ret ?_
                  exact Fin.result (O' := O) (.inr rfl) rfl rfl sub_ ⟨rfl, rfl⟩
                · try simp only [cnd] at hg77
                  exact (by simp at hg77) --end
              · try simp only [cnd] at hg73
                exact (by simp at hg73) --end
            · try simp only [cnd] at hg68
              exact (by simp at hg68) --end
          · try simp only [cnd] at hg63
            exact (by simp at hg63) --end
        · try simp only [cnd] at hg59
          exact (by simp at hg59) --end

end Go.Proofs.Ytahaplbdhgfobaa.Eng

set_option linter.unusedVariables false
set_option linter.unusedSimpArgs false
namespace Go.Proofs.Ytahaplbdhgfobaa.Eng

/-- The power is on and stays on. -/
structure Still (D : Dk) : Prop where
  off : D.off = false
  armed : D.armed = false

theorem calm_step {D : Dk} (h : Still D) : stepD D = (true, D) := by
  unfold stepD
  rw [if_pos h.armed]


/-- All bytes are durable. -/
def Firm (D : Dk) : Prop := ∀ k, getF D.fs k = (getF D.fs k).hard

theorem hard_hard (f : Fi) : f.hard.hard = f.hard := rfl

theorem sync_firm {D : Dk} (h : Still D) : ∃ D', syncD D = (0, D') ∧ Still D' ∧ D'.room = D.room ∧ used D'.fs = used D.fs ∧ Firm D' ∧ ∀ k, (getF D'.fs k).bs = (getF D.fs k).bs := by
  unfold syncD
  rw [if_neg (by rw [h.off]; simp), calm_step h, if_neg (by simp)]
  exact ⟨_, rfl, ⟨h.off, h.armed⟩, rfl, used_hard _, (fun k => by rw [get_hardE, hard_hard]), fun k => by rw [get_hardE]; rfl⟩

theorem append_still {D : Dk} (h : Still D) (hnd : (D.fs.map (·.1)).Nodup) {file : Int} (hf : 0 ≤ file ∧ file < 64) {b : List Int} (hfit : (b.length : Int) ≤ D.room - used D.fs) : ∃ D', appendD D file b = (0, D') ∧ Still D' ∧ D'.room = D.room ∧ used D'.fs = used D.fs + b.length ∧ ∀ k, (getF D'.fs k).bs = if k = file then (getF D.fs file).bs ++ b else (getF D.fs k).bs := by
  have hc : Still (appD1 D file b) := ⟨h.off, h.armed⟩
  unfold appendD
  rw [if_neg (by omega), if_neg (by rw [h.off]; simp), if_neg (by omega), calm_step hc, if_pos rfl]
  refine ⟨_, rfl, hc, rfl, ?_, fun k => ?_⟩
  · show used (setF D.fs file _) = _
    rw [used_set, List.length_append]
    omega
  · show (getF (setF D.fs file _) k).bs = _
    rw [get_set' hnd]
    by_cases hk : k = file
    · rw [if_pos hk, if_pos hk]
      split
      · rename_i q; exact q.symm
      · rfl
    · rw [if_neg hk, if_neg hk]

theorem trunc_still {D : Dk} (h : Still D) (hnd : (D.fs.map (·.1)).Nodup) {file : Int} (hf : 0 ≤ file ∧ file < 64) {n : Nat} (hn : n ≤ (getF D.fs file).bs.length) : ∃ D', truncD D file (n : Nat) = (0, D') ∧ Still D' ∧ D'.room = D.room ∧ used D'.fs = used D.fs - (getF D.fs file).bs.length + n ∧ ∀ k, (getF D'.fs k).bs = if k = file then (getF D.fs file).bs.take n else (getF D.fs k).bs := by
  unfold truncD
  rw [if_neg (by omega), if_neg (by rw [h.off]; simp), calm_step h, if_neg (by simp)]
  refine ⟨_, rfl, ⟨h.off, h.armed⟩, rfl, ?_, fun k => ?_⟩
  · show used (setF D.fs file _) = _
    rw [used_set]
    simp only [List.length_take, Int.toNat_natCast]
    omega
  · show (getF (setF D.fs file _) k).bs = _
    rw [get_set' hnd]
    by_cases hk : k = file
    · rw [if_pos hk, if_pos hk]
      split
      · rename_i q
        simp only [Int.toNat_natCast] at q
        exact q.symm
      · rfl
    · rw [if_neg hk, if_neg hk]

/-- A crash leaves durable bytes alone. -/
theorem crash_firm {D : Dk} {R0 : Objs} {mx : MapX} (hD : DkI R0 D mx) (h : Firm D) (keep : List Int) {flip : Int} (hf : flip < 0) (m : Int) : ((mget m (crashC D keep flip)).getD ⟨[], 0⟩).hard = getF D.fs m := by
  have hcc : crashC D keep flip = cuts D keep (fnos D).length := by
    unfold crashC
    simp only
    rw [if_neg (by omega)]
  rw [hcc]
  by_cases hm : m ∈ fnos D
  · obtain ⟨i, hi, he⟩ := List.getElem_of_mem hm
    have hnd : ((cuts D keep (fnos D).length).map (·.1)).Nodup := by rw [cuts_keys D keep _ (Nat.le_refl _), List.take_length]; exact fnos_nd hD
    have hn : nth (fnos D) i = m := by rw [nth_get hi, he]
    rw [mget_some hnd (v := cutF keep i (getF D.fs m)) (by
      unfold cuts
      refine List.mem_map.2 ⟨i, List.mem_range.2 hi, ?_⟩
      unfold cutAt
      rw [hn])]
    have hd := hD.get_d m
    have hk := keepN_range keep i hd
    have hfd : (getF D.fs m).d = (getF D.fs m).bs.length := congrArg Fi.d (h m)
    have h0 : keepN keep i (getF D.fs m) = 0 := by omega
    show (cutF keep i (getF D.fs m)).hard = _
    unfold cutF
    rw [h0, hfd, Int.add_zero, Int.toNat_natCast, List.take_length, h m]
    rfl
  · have h1 : getF D.fs m = ⟨[], 0⟩ := by
      unfold getF
      rw [mget_none (fun e => hm (fnos_mem.2 e))]
      rfl
    rw [mget_none (by rw [cuts_keys D keep _ (Nat.le_refl _), List.take_length]; exact hm), h1]
    rfl


/-- Nothing but this file. -/
def Only (k : Int) (D : Dk) : Prop := ∀ j, j ≠ k → (getF D.fs j).bs = []

theorem used_only {R : Objs} {D : Dk} {mx : MapX} (hD : DkI R D mx) {k : Int} (h : Only k D) : used D.fs = (getF D.fs k).bs.length := by
  have hk : ∀ e ∈ D.fs, e.1 = k := fun e he => by
    by_cases q : e.1 = k
    · exact q
    · have h1 : getF D.fs e.1 = e.2 := by
        unfold getF
        rw [mget_some hD.di.nd (v := e.2) he]
        rfl
      have h2 := h e.1 q
      rw [h1] at h2
      exact absurd h2 (hD.ok e he).2.1
  have hn := hD.di.nd
  generalize D.fs = fs at hk hn
  cases fs with
  | nil => rfl
  | cons e l =>
    have hl : l = [] := by
      cases l with
      | nil => rfl
      | cons e2 l2 =>
        simp only [List.map_cons, List.nodup_cons, List.mem_cons] at hn
        exact absurd (by rw [hk e (by simp), hk e2 (by simp)]) (fun q => hn.1 (.inl q))
    subst hl
    have he := hk e (by simp)
    obtain ⟨n, f⟩ := e
    simp only at he
    subst he
    unfold getF
    simp [used, mget]

theorem flipC_get (p k : Nat) : ∀ (l : List (Int × Fi)) (m : Int), (mget m (flipC p k l) = none ∧ mget m l = none) ∨ ∃ f f', mget m l = some f ∧ mget m (flipC p k l) = some f' ∧ f'.d = f.d ∧ f'.bs.length = f.bs.length ∧ f'.bs.take f.d.toNat = f.bs.take f.d.toNat
  | [], m => .inl ⟨rfl, rfl⟩
  | (n, f) :: l, m => by
    unfold flipC
    by_cases hp : p < looseN f
    · rw [if_pos hp]
      simp only [mget]
      by_cases hm : m = n
      · rw [if_pos hm, if_pos hm]
        refine .inr ⟨_, _, rfl, rfl, rfl, List.length_set, ?_⟩
        simp only
        rw [List.take_set_of_le (by omega)]
      · rw [if_neg hm, if_neg hm]
        rcases (show mget m l = none ∨ ∃ f, mget m l = some f from by cases mget m l <;> simp) with h | ⟨g, h⟩
        · exact .inl ⟨h, h⟩
        · exact .inr ⟨g, g, h, h, rfl, rfl, rfl⟩
    · rw [if_neg hp]
      simp only [mget]
      by_cases hm : m = n
      · rw [if_pos hm, if_pos hm]
        exact .inr ⟨_, _, rfl, rfl, rfl, rfl, rfl⟩
      · rw [if_neg hm, if_neg hm]
        exact flipC_get (p - looseN f) k l m

/-- Whatever a crash does, the durable bytes stay, and no bytes come. -/
theorem crash_any {D : Dk} {R0 : Objs} {mx : MapX} (hD : DkI R0 D mx) (keep : List Int) (flip : Int) (m : Int) :
    ∃ f', ((mget m (crashC D keep flip)).getD ⟨[], 0⟩) = f' ∧ f'.bs.take (getF D.fs m).d.toNat = (getF D.fs m).bs.take (getF D.fs m).d.toNat ∧ f'.bs.length ≤ (getF D.fs m).bs.length ∧ (flip < 0 → ∃ k, f'.bs = (getF D.fs m).bs.take k ∧ (getF D.fs m).d.toNat ≤ k) := by
  have hcut : ((mget m (cuts D keep (fnos D).length) = none) ∧ getF D.fs m = ⟨[], 0⟩) ∨ ∃ f, mget m (cuts D keep (fnos D).length) = some f ∧ f.d = (getF D.fs m).d ∧ ∃ k, f.bs = (getF D.fs m).bs.take k ∧ (getF D.fs m).d.toNat ≤ k := by
    by_cases hm : m ∈ fnos D
    · obtain ⟨i, hi, he⟩ := List.getElem_of_mem hm
      have hnd : ((cuts D keep (fnos D).length).map (·.1)).Nodup := by rw [cuts_keys D keep _ (Nat.le_refl _), List.take_length]; exact fnos_nd hD
      have hn : nth (fnos D) i = m := by rw [nth_get hi, he]
      have hk := keepN_range keep i (hD.get_d m)
      refine .inr ⟨cutF keep i (getF D.fs m), mget_some hnd (by
        unfold cuts
        refine List.mem_map.2 ⟨i, List.mem_range.2 hi, ?_⟩
        unfold cutAt
        rw [hn]), rfl, _, rfl, by have := hD.get_d m; omega⟩
    · refine .inl ⟨mget_none (by rw [cuts_keys D keep _ (Nat.le_refl _), List.take_length]; exact hm), ?_⟩
      unfold getF
      rw [mget_none (fun e => hm (fnos_mem.2 e))]
      rfl
  have hno : ∀ f : Fi, mget m (cuts D keep (fnos D).length) = some f → (∃ k, f.bs = (getF D.fs m).bs.take k ∧ (getF D.fs m).d.toNat ≤ k) → f.bs.take (getF D.fs m).d.toNat = (getF D.fs m).bs.take (getF D.fs m).d.toNat ∧ f.bs.length ≤ (getF D.fs m).bs.length := fun f _ ⟨k, h1, h2⟩ => by
    rw [h1, List.take_take, Nat.min_eq_left h2, List.length_take]
    exact ⟨rfl, by omega⟩
  unfold crashC
  simp only
  by_cases hf : 0 ≤ flip ∧ 0 < 8 * looseSum (cuts D keep (fnos D).length)
  · rw [if_pos hf]
    rcases flipC_get (flip.toNat % (8 * looseSum (cuts D keep (fnos D).length)) / 8) (7 - flip.toNat % (8 * looseSum (cuts D keep (fnos D).length)) % 8) (cuts D keep (fnos D).length) m with ⟨h1, h2⟩ | ⟨f, f', h1, h2, h3, h4, h5⟩
    · rw [h1]
      rcases hcut with ⟨_, h6⟩ | ⟨f, h6, _⟩
      · rw [h6]; exact ⟨_, rfl, rfl, Nat.le_refl _, fun q => by omega⟩
      · rw [h2] at h6; cases h6
    · rw [h2]
      rcases hcut with ⟨h6, _⟩ | ⟨g, h6, h7, h8⟩
      · rw [h1] at h6; cases h6
      · rw [h1] at h6
        injection h6 with h6
        subst h6
        obtain ⟨h9, h10⟩ := hno f h1 h8
        refine ⟨f', rfl, ?_, by rw [h4]; exact h10, fun q => by omega⟩
        rw [← h7, h5, h7]
        exact h9
  · rw [if_neg hf]
    rcases hcut with ⟨h1, h6⟩ | ⟨g, h6, h7, h8⟩
    · rw [h1, h6]; exact ⟨_, rfl, rfl, Nat.le_refl _, fun _ => ⟨0, rfl, Nat.le_refl _⟩⟩
    · rw [h6]
      obtain ⟨h9, h10⟩ := hno g h6 h8
      exact ⟨g, rfl, h9, h10, fun _ => h8⟩

end Go.Proofs.Ytahaplbdhgfobaa.Eng

set_option linter.unusedVariables false
set_option linter.unusedSimpArgs false
namespace Go.Proofs.Ytahaplbdhgfobaa.Eng

abbrev rdO (r rb rf : Nat) (M : Rd) (vs : List Value) (R : Objs) : Objs := (r, ⟨0, false, [I M.room, Row rb 0 64 64, Row rf 0 64 64, .bool M.off, I M.plan]⟩) :: (rb, ⟨1, false, vs⟩) :: (rf, ⟨1, false, M.F.map I⟩) :: R

def RowV (R : Objs) (v : Value) (x : List Int) : Prop := ∃ a c, v = .slice a x.length c ∧ Rowy R 1 a x.length (x.map B8) ∧ (a = none → c = 0) ∧ Bytes x

structure RdI (R : Objs) (M : Rd) (vs : List Value) : Prop where
  lenV : vs.length = 64
  lenB : M.B.length = 64
  lenF : M.F.length = 64
  file : ∀ n, n < 64 → RowV R (nth vs n) (nth M.B n)
  room : 0 ≤ M.room ∧ M.room ≤ 16777216
  used : usedR M ≤ M.room
  plan : -2 ≤ M.plan ∧ M.plan < 9223372036854775808
  firm : ∀ n, n < 64 → 0 ≤ nth M.F n ∧ nth M.F n ≤ ((nth M.B n).length : Nat)

theorem sumR_nn {g : Nat → Int} (h : ∀ i, 0 ≤ g i) : ∀ n, 0 ≤ sumR g n
  | 0 => Int.le_refl _
  | n + 1 => by
    have := sumR_nn h n
    have := h n
    unfold sumR
    omega
theorem sumR_le_sum {g : Nat → Int} (h : ∀ i, 0 ≤ g i) : ∀ {n i : Nat}, i ≤ n → sumR g i ≤ sumR g n
  | 0, i, hi => by
    have : i = 0 := by omega
    subst this
    exact Int.le_refl _
  | n + 1, i, hi => by
    by_cases q : i = n + 1
    · subst q; exact Int.le_refl _
    · have h1 := sumR_le_sum h (n := n) (i := i) (by omega)
      have h2 := h n
      exact Int.le_trans h1 (by show sumR g n ≤ sumR g n + g n; omega)
theorem sumR_one {g : Nat → Int} (h : ∀ i, 0 ≤ g i) {n i : Nat} (hi : i < n) : g i ≤ sumR g n := by
  have h1 := sumR_le_sum h (n := n) (i := i + 1) hi
  have h2 := sumR_nn h i
  have h3 : sumR g (i + 1) = sumR g i + g i := rfl
  omega
theorem lenR_nn (M : Rd) (i : Nat) : 0 ≤ lenR M i := Int.natCast_nonneg _

theorem RdI.len {R : Objs} {M : Rd} {vs : List Value} (h : RdI R M vs) {n : Nat} (hn : n < 64) : (nth M.B n).length ≤ 16777216 := by
  have h1 : ((nth M.B n).length : Int) ≤ usedR M := sumR_one (lenR_nn M) hn
  have h2 := h.used
  have h3 := h.room
  omega

theorem RowV.app {R N : Objs} {v : Value} {x : List Int} (h : RowV R v x) : RowV (N ++ R) v x := by
  obtain ⟨a, c, h1, h2, h3⟩ := h
  exact ⟨a, c, h1, h2.app, h3⟩
theorem RdI.app {R N : Objs} {M : Rd} {vs : List Value} (h : RdI R M vs) : RdI (N ++ R) M vs := ⟨h.lenV, h.lenB, h.lenF, fun n hn => (h.file n hn).app, h.room, h.used, h.plan, h.firm⟩

theorem rused_ok (R : Objs) {R0 : Objs} (r rb rf : Nat) (M : Rd) (vs : List Value) (h : RdI R0 M vs) : Spec Try.prog true 47 #[Ptr r 0] (rdO r rb rf M vs R) fun v O' => v = I (usedR M) ∧ O' = rdO r rb rf M vs R := by
  refine Spec.enter (args := [_]) (m := 20) Try.func47 rfl rfl (by decide +kernel) fun h0 => ?_
  refine WX.seq ?_
  refine WX.region rfl ?_
  refine WXL.assign Met.none rfl ?_
  refine WXL.nil ?_
  refine Fin.then_normal ?_
  refine WX.seq ?_
  refine WX.region rfl ?_
  refine WXL.assign Met.none rfl ?_
  refine WXL.nil ?_
  refine Fin.then_normal ?_
  refine WX.seq ?_
  refine WX.seq ?_
  refine WX.region rfl ?_
  refine WXL.assign Met.none rfl ?_
  refine WXL.nil ?_
  refine Fin.then_normal ?_
  refine WX.block ?_
  refine WX.loop (fun i : Nat => [(0, Ptr r 0), (3, I (sumR (lenR M) i)), (4, I (i : Int))]) (fun _ => rdO r rb rf M vs R) (fun i => i ≤ 64) (fun i => 64 - i) 0 (by decide) (fun s hs => hs.tl [] 0) (fun i hi => ?_)
  refine WX.seq ?_
  refine WX.seq ?_
  refine WX.region rfl ?_
  refine WXL.move Met.none rfl ?_
  refine WXL.bin Met.none rfl rfl rfl ?_
  refine WXL.nil ?_
  refine Fin.then_normal ?_
  refine WX.cond rfl (fun hc0 => ?_) (fun hc0 => ?_)
  · try simp only [cnd] at hc0
    refine WX.skip ?_
    refine Fin.then_normal ?_
    refine WX.seq ?_
    refine WX.block ?_
    have hi64 : i < 64 := by omega
    obtain ⟨a, c, ev, _⟩ := h.file i hi64
    have hv : vs[i]? = some (.slice a (nth M.B i).length c) := by rw [← ev]; exact nth_eq (by rw [h.lenV]; exact hi64)
    have hs1 := sumR_le_sum (lenR_nn M) (n := 64) (i := i + 1) (by omega)
    have hs2 := sumR_nn (lenR_nn M) i
    have hs3 : sumR (lenR M) (i + 1) = sumR (lenR M) i + ((nth M.B i).length : Nat) := rfl
    have hu := h.used
    have hr := h.room
    unfold usedR at hu
    refine WX.region rfl ?_
    refine WXL.move Met.none rfl ?_
    refine WXL.move Met.none rfl ?_
    refine WXL.nilCheck Met.none rfl ?_
    first | refine WXL.fieldAddr Met.none rfl Try.underlying58 rfl sz22 rfl ?_ | refine WXL.faS Met.none rfl Try.underlying58 rfl sz22 ?_
    first | refine WXL.ld Met.none rfl agg22 ?_ | refine WXL.ldS Met.none rfl agg22 ?_
    refine WXL.move Met.none rfl ?_
    first | refine WXL.ix Met.none rfl rfl elem22 sz27 ?_ | refine WXL.ixS Met.none rfl rfl elem22 sz27 ?_
    first | refine WXL.ld Met.none rfl agg27 ?_ (hv := hv) | refine WXL.ldS Met.none rfl agg27 ?_ (hv := hv)
    refine WXL.len Met.none rfl Try.underlying27 ?_
    refine WXL.bin Met.none rfl rfl bvA ?_
    refine WXL.assign Met.none rfl ?_
    refine WXL.nil ?_
    refine Fin.block_normal ?_
    refine Fin.then_normal ?_
    refine WX.region rfl ?_
    refine WXL.move Met.none rfl ?_
    refine WXL.bin Met.none rfl rfl bvA ?_
    refine WXL.assign Met.none rfl ?_
    refine WXL.nil ?_
    exact Fin.loop_next (i + 1) (by omega) (by omega) (fun s hs => by rw [hs3]; exact hs.tl [] 0)
  · try simp only [cnd] at hc0
    refine WX.exit ?_
    refine Fin.then_exit ?_
    refine Fin.loop_exit ?_
    refine Fin.block_hit rfl ?_
    refine Fin.then_normal ?_
    refine WX.seq ?_
    have hie : i = 64 := by omega
    rw [hie]
    refine WX.region rfl ?_
    refine WXL.move Met.none rfl ?_
    refine WXL.assign Met.none rfl ?_
    refine WXL.nil ?_
    refine Fin.then_normal ?_
    refine WX.ret ?_
    exact Fin.result (.inr rfl) rfl rfl drop_ ⟨rfl, rfl⟩

theorem rfails_ok (R : Objs) {R0 : Objs} (r rb rf : Nat) (M : Rd) (vs : List Value) (h : RdI R0 M vs) : Spec Try.prog false 63 #[Ptr r 0] (rdO r rb rf M vs R) fun v O' => v = .bool (failsR M).off ∧ O' = rdO r rb rf (failsR M) vs R := by
  have hp := h.plan
  refine Spec.enter (args := [_]) (m := 24) Try.func63 rfl rfl (by decide +kernel) fun h0 => ?_
  refine WX.seq ?_
  refine WX.region rfl ?_
  refine WXL.assign Met.none rfl ?_
  refine WXL.nil ?_
  refine Fin.then_normal ?_
  refine WX.seq ?_
  refine WX.region rfl ?_
  refine WXL.move Met.none rfl ?_
  refine WXL.move Met.none rfl ?_
  refine WXL.nilCheck Met.none rfl ?_
  first | refine WXL.fieldAddr Met.none rfl Try.underlying58 rfl sz3 rfl ?_ | refine WXL.faS Met.none rfl Try.underlying58 rfl sz3 ?_
  first | refine WXL.ld Met.none rfl agg3 ?_ | refine WXL.ldS Met.none rfl agg3 ?_
  refine WXL.bin Met.none rfl rfl bvS ?_
  refine WXL.max Met.none rfl rfl ?_
  refine WXL.nilCheck Met.none rfl ?_
  first | refine WXL.fieldAddr Met.none rfl Try.underlying58 rfl sz3 rfl ?_ | refine WXL.faS Met.none rfl Try.underlying58 rfl sz3 ?_
  refine WXL.st (vs := [_]) (j := 0) Met.none rfl rfl rfl sz3 ?_ (hj := rfl)
  refine WXL.nil ?_
  refine Fin.then_normal ?_
  refine WX.seq ?_
  refine WX.seq ?_
  refine WX.region rfl ?_
  refine WXL.move Met.none rfl ?_
  refine WXL.nilCheck Met.none rfl ?_
  first | refine WXL.fieldAddr Met.none rfl Try.underlying58 rfl sz3 rfl ?_ | refine WXL.faS Met.none rfl Try.underlying58 rfl sz3 ?_
  first | refine WXL.ld Met.none rfl agg3 ?_ | refine WXL.ldS Met.none rfl agg3 ?_
  refine WXL.bin Met.none rfl rfl rfl ?_
  refine WXL.nil ?_
  refine Fin.then_normal ?_
  refine WX.cond rfl (fun hc0 => ?_) (fun hc0 => ?_)
  · try simp only [cnd] at hc0
    refine WX.region rfl ?_
    refine WXL.move Met.none rfl ?_
    refine WXL.nilCheck Met.none rfl ?_
    first | refine WXL.fieldAddr Met.none rfl Try.underlying58 rfl sz4 rfl ?_ | refine WXL.faS Met.none rfl Try.underlying58 rfl sz4 ?_
    refine WXL.st (vs := [_]) (j := 0) Met.none rfl rfl rfl sz4 ?_ (hj := rfl)
    refine WXL.nil ?_
    refine Fin.then_normal ?_
    refine WX.seq ?_
    refine WX.region rfl ?_
    refine WXL.move Met.none rfl ?_
    refine WXL.nilCheck Met.none rfl ?_
    first | refine WXL.fieldAddr Met.none rfl Try.underlying58 rfl sz4 rfl ?_ | refine WXL.faS Met.none rfl Try.underlying58 rfl sz4 ?_
    first | refine WXL.ld Met.none rfl agg4 ?_ | refine WXL.ldS Met.none rfl agg4 ?_
    refine WXL.assign Met.none rfl ?_
    refine WXL.nil ?_
    refine Fin.then_normal ?_
    refine WX.ret ?_
    first
    | exact Fin.result (O' := rdO r rb rf ⟨M.room, M.B, M.F, true, max (M.plan - 1) (-2)⟩ vs R) (.inr rfl) rfl rfl drop_ (by
        have he : failsR M = ⟨M.room, M.B, M.F, true, max (M.plan - 1) (-2)⟩ := by unfold failsR; rw [decide_eq_true hc0, Bool.or_true]
        rw [he]
        exact ⟨rfl, rfl⟩)
    | exact Fin.result (O' := rdO r rb rf ⟨M.room, M.B, M.F, M.off, max (M.plan - 1) (-2)⟩ vs R) (.inr rfl) rfl rfl drop_ (by
        have he : failsR M = ⟨M.room, M.B, M.F, M.off, max (M.plan - 1) (-2)⟩ := by unfold failsR; rw [decide_eq_false hc0, Bool.or_false]
        rw [he]
        exact ⟨rfl, rfl⟩)
  · try simp only [cnd] at hc0
    refine WX.skip ?_
    refine Fin.then_normal ?_
    refine WX.seq ?_
    refine WX.region rfl ?_
    refine WXL.move Met.none rfl ?_
    refine WXL.nilCheck Met.none rfl ?_
    first | refine WXL.fieldAddr Met.none rfl Try.underlying58 rfl sz4 rfl ?_ | refine WXL.faS Met.none rfl Try.underlying58 rfl sz4 ?_
    first | refine WXL.ld Met.none rfl agg4 ?_ | refine WXL.ldS Met.none rfl agg4 ?_
    refine WXL.assign Met.none rfl ?_
    refine WXL.nil ?_
    refine Fin.then_normal ?_
    refine WX.ret ?_
    first
    | exact Fin.result (O' := rdO r rb rf ⟨M.room, M.B, M.F, true, max (M.plan - 1) (-2)⟩ vs R) (.inr rfl) rfl rfl drop_ (by
        have he : failsR M = ⟨M.room, M.B, M.F, true, max (M.plan - 1) (-2)⟩ := by unfold failsR; rw [decide_eq_true hc0, Bool.or_true]
        rw [he]
        exact ⟨rfl, rfl⟩)
    | exact Fin.result (O' := rdO r rb rf ⟨M.room, M.B, M.F, M.off, max (M.plan - 1) (-2)⟩ vs R) (.inr rfl) rfl rfl drop_ (by
        have he : failsR M = ⟨M.room, M.B, M.F, M.off, max (M.plan - 1) (-2)⟩ := by unfold failsR; rw [decide_eq_false hc0, Bool.or_false]
        rw [he]
        exact ⟨rfl, rfl⟩)

theorem rstep_ok (R : Objs) {R0 : Objs} (r rb rf : Nat) (M : Rd) (vs : List Value) (h : RdI R0 M vs) : Spec Try.prog false 55 #[Ptr r 0] (rdO r rb rf M vs R) fun v O' => v = .bool (stepR M).1 ∧ O' = rdO r rb rf (stepR M).2 vs R := by
  refine Spec.enter (args := [_]) (m := 10) Try.func55 rfl rfl (by decide +kernel) fun h0 => ?_
  refine WX.seq ?_
  refine WX.region rfl ?_
  refine WXL.assign Met.none rfl ?_
  refine WXL.nil ?_
  refine Fin.then_normal ?_
  refine WX.seq ?_
  refine WX.seq ?_
  refine WX.region rfl ?_
  refine WXL.move Met.none rfl ?_
  refine WXL.nilCheck Met.none rfl ?_
  first | refine WXL.fieldAddr Met.none rfl Try.underlying58 rfl sz3 rfl ?_ | refine WXL.faS Met.none rfl Try.underlying58 rfl sz3 ?_
  first | refine WXL.ld Met.none rfl agg3 ?_ | refine WXL.ldS Met.none rfl agg3 ?_
  refine WXL.bin Met.none rfl rfl rfl ?_
  refine WXL.nil ?_
  refine Fin.then_normal ?_
  refine WX.cond rfl (fun hc0 => ?_) (fun hc0 => ?_)
  · try simp only [cnd] at hc0
    refine WX.seq ?_
    refine WX.region rfl ?_
    refine WXL.assign Met.none rfl ?_
    refine WXL.nil ?_
    refine Fin.then_normal ?_
    refine WX.ret ?_
    refine Fin.then_ret ?_
    first
    | exact Fin.result (O' := rdO r rb rf M vs R) (.inr rfl) rfl rfl drop_ (by unfold stepR; rw [if_pos hc0]; exact ⟨rfl, rfl⟩)
    | exact Fin.result (O' := rdO r rb rf (failsR M) vs R) (.inr rfl) rfl rfl drop_ (by unfold stepR; rw [if_neg (by omega)]; exact ⟨rfl, rfl⟩)
  · try simp only [cnd] at hc0
    refine WX.skip ?_
    refine Fin.then_normal ?_
    refine WX.seq ?_
    refine WX.region rfl ?_
    refine WXL.move Met.none rfl ?_
    refine WXL.cl (O1 := _) Met.none rfl (fnOk_of Try.func63 (by decide +kernel)) rfl (fun _ h => h) (rfails_ok R r rb rf M vs h) (fun v O' hp => ?_)
    obtain ⟨rfl, hO⟩ := hp
    subst O'
    refine WXL.assign Met.none rfl ?_
    refine WXL.nil ?_
    refine Fin.then_normal ?_
    refine WX.ret ?_
    first
    | exact Fin.result (O' := rdO r rb rf M vs R) (.inr rfl) rfl rfl drop_ (by unfold stepR; rw [if_pos hc0]; exact ⟨rfl, rfl⟩)
    | exact Fin.result (O' := rdO r rb rf (failsR M) vs R) (.inr rfl) rfl rfl drop_ (by unfold stepR; rw [if_neg (by omega)]; exact ⟨rfl, rfl⟩)

theorem stepR_same (M : Rd) : (stepR M).2.B = M.B ∧ (stepR M).2.F = M.F ∧ (stepR M).2.room = M.room := by
  unfold stepR
  split <;> exact ⟨rfl, rfl, rfl⟩

theorem RdI.step {R : Objs} {M : Rd} {vs : List Value} (h : RdI R M vs) : RdI R (stepR M).2 vs := by
  obtain ⟨h1, h2, h3⟩ := stepR_same M
  refine ⟨h.lenV, by rw [h1]; exact h.lenB, by rw [h2]; exact h.lenF, fun n hn => by rw [h1]; exact h.file n hn, by rw [h3]; exact h.room, ?_, ?_, fun n hn => by rw [h1, h2]; exact h.firm n hn⟩
  · have : usedR (stepR M).2 = usedR M := by unfold usedR lenR; rw [h1]
    rw [this, h3]
    exact h.used
  · have := h.plan
    unfold stepR failsR
    split
    · exact this
    · simp only; omega

theorem rarm_ok (R : Objs) (r rb rf : Nat) (M : Rd) (vs : List Value) (n : Int) : Spec Try.prog false 45 #[Ptr r 0, I n] (rdO r rb rf M vs R) fun v O' => O' = rdO r rb rf (armR M n) vs R := by
  refine Spec.enter (args := [_, _]) (m := 14) Try.func45 rfl rfl (by decide +kernel) fun h0 => ?_
  refine WX.seq ?_
  refine WX.region rfl ?_
  refine WXL.move Met.none rfl ?_
  refine WXL.nilCheck Met.none rfl ?_
  first | refine WXL.fieldAddr Met.none rfl Try.underlying58 rfl sz4 rfl ?_ | refine WXL.faS Met.none rfl Try.underlying58 rfl sz4 ?_
  first | refine WXL.ld Met.none rfl agg4 ?_ | refine WXL.ldS Met.none rfl agg4 ?_
  refine WXL.not Met.none rfl ?_
  refine WXL.nil ?_
  refine Fin.then_normal ?_
  refine WX.cond rfl (fun hc0 => ?_) (fun hc0 => ?_)
  · try simp only [cnd] at hc0
    refine WX.region rfl ?_
    refine WXL.move Met.none rfl ?_
    refine WXL.move Met.none rfl ?_
    refine WXL.max Met.none rfl rfl ?_
    refine WXL.nilCheck Met.none rfl ?_
    first | refine WXL.fieldAddr Met.none rfl Try.underlying58 rfl sz3 rfl ?_ | refine WXL.faS Met.none rfl Try.underlying58 rfl sz3 ?_
    refine WXL.st (vs := [_]) (j := 0) Met.none rfl rfl rfl sz3 ?_ (hj := rfl)
    refine WXL.nil ?_
    first
    | exact Fin.result (O' := rdO r rb rf { M with plan := max n (-1) } vs R) (.inl rfl) rfl rfl drop_ (by unfold armR; rw [if_neg (by simp [hc0])])
    | exact Fin.result (O' := rdO r rb rf M vs R) (.inl rfl) rfl rfl drop_ (by unfold armR; rw [if_pos hc0])
  · try simp only [cnd] at hc0
    refine WX.skip ?_
    first
    | exact Fin.result (O' := rdO r rb rf { M with plan := max n (-1) } vs R) (.inl rfl) rfl rfl drop_ (by unfold armR; rw [if_neg (by simp [hc0])])
    | exact Fin.result (O' := rdO r rb rf M vs R) (.inl rfl) rfl rfl drop_ (by unfold armR; rw [if_pos hc0])

theorem RdI.arm {R : Objs} {M : Rd} {vs : List Value} (h : RdI R M vs) {n : Int} (hn : n < 9223372036854775808) : RdI R (armR M n) vs := by
  unfold armR
  split
  · exact h
  · exact ⟨h.lenV, h.lenB, h.lenF, h.file, h.room, h.used, ⟨by show -2 ≤ max n (-1); omega, by show max n (-1) < _; omega⟩, h.firm⟩

end Go.Proofs.Ytahaplbdhgfobaa.Eng

set_option linter.unusedVariables false
set_option linter.unusedSimpArgs false
namespace Go.Proofs.Ytahaplbdhgfobaa.Eng

theorem splice_one {c : List Value} {k : Nat} {v : Value} (h : k < c.length) : splice c k [v] = c.set k v := by
  have := splice_map (fun x : Value => x) c k v h
  rw [List.map_id'', List.map_id''] at this
  · exact this
  · exact fun _ => rfl
  · exact fun _ => rfl

def newR (room : Int) : Rd := ⟨room, List.replicate 64 [], List.replicate 64 0, false, -1⟩
def vs0 : List Value := List.replicate 64 (.slice none 0 0)

theorem nth_replicate {α : Type} [Inhabited α] {a : α} {n i : Nat} (h : i < n) : nth (List.replicate n a) i = a := by
  rw [nth_get (by rw [List.length_replicate]; exact h), List.getElem_replicate]

theorem RdI.new {room : Int} (h : 0 ≤ room ∧ room ≤ 16777216) : RdI [] (newR room) vs0 := by
  refine ⟨by unfold vs0; simp, by unfold newR; simp, by unfold newR; simp, fun n hn => ?_, h, ?_, ⟨by show (-2 : Int) ≤ -1; decide, by show (-1 : Int) < _; decide⟩, fun n hn => ?_⟩
  · unfold vs0 newR
    simp only
    rw [nth_replicate hn, nth_replicate hn]
    exact ⟨none, 0, rfl, .inl ⟨rfl, rfl, rfl⟩, fun _ => rfl, fun x hx => by simp at hx⟩
  · have : usedR (newR room) = sumR (fun _ => 0) 64 := sumR_congr fun i hi => by
      unfold lenR newR
      simp only
      rw [nth_replicate hi]
      rfl
    rw [this]
    exact h.1
  · unfold newR
    simp only
    rw [nth_replicate hn, nth_replicate hn]
    exact ⟨Int.le_refl _, Int.le_refl _⟩

theorem rnew_ok (O : Objs) (room : Int) : Spec Try.prog false 22 #[I room] O fun v O' => ∃ r rb rf, v = Ptr r 0 ∧ O' = rdO r rb rf (newR room) vs0 O := by
  refine Spec.enter (args := [_]) (m := 8) Try.func22 rfl rfl (by decide +kernel) fun h0 => ?_
  refine WX.seq ?_
  refine WX.region rfl ?_
  refine WXL.assign Met.none rfl ?_
  refine WXL.nil ?_
  refine Fin.then_normal ?_
  refine WX.seq ?_
  refine WX.draw rfl ?_
  refine WXL.move Met.none rfl ?_
  refine WXL.makeSlice Met.none rfl rfl elem22 sz27 by27 zero27 (by omega) (by omega) (by omega) rfl (by decide) (by first | rw [Int.toNat_natCast] | exact rfl) (zerosL_one _ _) (fun b4 => ?_)
  refine WXL.makeSlice Met.none rfl rfl elem33 sz3 by3 zero3 (by omega) (by omega) (by omega) rfl (by decide) (by first | rw [Int.toNat_natCast] | exact rfl) (by first | exact zerosL_map I 0 _ | exact zerosL_map Value.bool false _ | exact rfl) (fun b5 => ?_)
  refine WXL.build (c := [_, _, _, _, _]) Met.none rfl zero58 places58 rfl ?_
  refine WXL.box (c := [_, _, _, _, _]) Met.none rfl rfl rfl (fun b7 => ?_)
  refine WXL.assign Met.none rfl ?_
  refine WXL.nil ?_
  refine Fin.then_normal ?_
  refine WX.ret ?_
  exact Fin.result (O' := rdO b7 b4 b5 (newR room) vs0 O) (.inr rfl) rfl rfl (fun _ hs => hs.tl [0, 2, 1] 3) ⟨b7, b4, b5, rfl, rfl⟩

theorem usedR_set {M : Rd} {k : Nat} (hk : k < 64) (hl : M.B.length = 64) (x : List Int) (F : List Int) (off : Bool) (p : Int) : usedR ⟨M.room, M.B.set k x, F, off, p⟩ = usedR M + (x.length : Nat) - lenR M k := by
  have : usedR ⟨M.room, M.B.set k x, F, off, p⟩ = sumR (fun i => if i = k then ((x.length : Nat) : Int) else lenR M i) 64 := sumR_congr fun i hi => by
    show (((nth (M.B.set k x) i).length : Nat) : Int) = _
    rw [nth_setE (by rw [hl]; exact hk)]
    split <;> rfl
  rw [this, sumR_upd, if_pos hk]
  unfold usedR
  omega

theorem RdI.set {R : Objs} {M : Rd} {vs : List Value} (h : RdI R M vs) {k : Nat} (hk : k < 64) {v : Value} {x : List Int} {F : List Int} {off : Bool} {p : Int} (hv : RowV R v x) (hu : usedR M + (x.length : Nat) - lenR M k ≤ M.room) (hF : F.length = 64) (hp : -2 ≤ p ∧ p < 9223372036854775808)
    (hf : ∀ n, n < 64 → 0 ≤ nth F n ∧ nth F n ≤ ((nth (M.B.set k x) n).length : Nat)) : RdI R ⟨M.room, M.B.set k x, F, off, p⟩ (vs.set k v) := by
  refine ⟨by rw [List.length_set]; exact h.lenV, by simp only [List.length_set]; exact h.lenB, hF, fun n hn => ?_, h.room, by rw [usedR_set hk h.lenB]; exact hu, hp, hf⟩
  simp only
  rw [nth_setE (by rw [h.lenV]; exact hk), nth_setE (by rw [h.lenB]; exact hk)]
  split
  · exact hv
  · exact h.file n hn

theorem rappend_ok (R : Objs) {R0 : Objs} (r rb rf : Nat) (M : Rd) (vs : List Value) (file : Int) (b : List Int) (ab : Option Addr) (cb : Nat) (h : RdI R0 M vs) (hi : ∀ g, Sat g R → Sat g R0) (hb : Src R 1 (.slice ab b.length cb) b.length (b.map B8)) (hBb : Bytes b) (hbl : b.length ≤ 4611686018427387904) :
    Spec Try.prog false 42 #[Ptr r 0, I file, .slice ab b.length cb] (rdO r rb rf M vs R) fun v O' => ∃ vs' N, v = I (appendR M file b).1 ∧ O' = rdO r rb rf (appendR M file b).2 vs' (N ++ R) ∧ RdI (N ++ R0) (appendR M file b).2 vs' := by
  have hu := h.used
  have hr := h.room
  have hun := sumR_nn (lenR_nn M) 64
  have hun : 0 ≤ usedR M := hun
  refine Spec.enter (args := [_, _, _]) (m := 50) Try.func42 rfl rfl (by decide +kernel) fun h0 => ?_
  refine WX.seq ?_
  refine WX.region rfl ?_
  refine WXL.assign Met.none rfl ?_
  refine WXL.nil ?_
  refine Fin.then_normal ?_
  refine WX.seq ?_
  refine WX.seq ?_
  refine WX.region rfl ?_
  refine WXL.move Met.none rfl ?_
  refine WXL.bin Met.none rfl rfl rfl ?_
  refine WXL.move Met.none rfl ?_
  refine WXL.split (d := 11) rfl (fun hg11 => ?_) (fun hg11 => ?_)
  · try simp only [cnd] at hg11
    refine WXL.miss (j := 2) (d := 11) rfl rfl rfl ?_
    refine WXL.miss (j := 2) (d := 11) rfl rfl rfl ?_
    refine WXL.pick_t Met.none rfl rfl ?_
    refine WXL.nil ?_
    refine Fin.then_normal ?_
    refine WX.cond rfl (fun hc0 => ?_) (fun hc0 => nomatch hc0)
    refine WX.seq ?_
    refine WX.region rfl ?_
    refine WXL.assign Met.none rfl ?_
    refine WXL.nil ?_
    refine Fin.then_normal ?_
    refine WX.ret ?_
    refine Fin.then_ret ?_
    first
    | exact Fin.result (O' := rdO r rb rf M vs ([] ++ R)) (.inr rfl) rfl rfl drop_ (by unfold appendR; rw [if_pos (by omega)]; exact ⟨vs, [], rfl, rfl, h⟩)
    | exact Fin.result (O' := rdO r rb rf M vs ([] ++ R)) (.inr rfl) rfl rfl drop_ (by unfold appendR; rw [if_neg (by omega), if_pos (by assumption)]; exact ⟨vs, [], rfl, rfl, h⟩)
    | exact Fin.result (O' := rdO r rb rf M vs ([] ++ R)) (.inr rfl) rfl rfl drop_ (by unfold appendR; rw [if_neg (by omega), if_neg (by simp [hc1]), if_pos (by omega)]; exact ⟨vs, [], rfl, rfl, h⟩)
    | exact Fin.result (O' := rdO r rb rf (stepR (appendR1 M file b)).2 _ (G45 ++ R)) (.inr rfl) rfl rfl drop_ (by unfold appendR; rw [if_neg (by omega), if_neg (by simp [hc1]), if_neg (by omega), if_pos hc3]; exact ⟨_, G45, rfl, rfl, hI.step⟩)
    | exact Fin.result (O' := rdO r rb rf (stepR (appendR1 M file b)).2 _ (G45 ++ R)) (.inr rfl) rfl rfl drop_ (by unfold appendR; rw [if_neg (by omega), if_neg (by simp [hc1]), if_neg (by omega), if_neg (by simp [hc3])]; exact ⟨_, G45, rfl, rfl, hI.step⟩)
  · try simp only [cnd] at hg11
    refine WXL.move (Met.some rfl rfl rfl) rfl ?_
    refine WXL.bin (Met.some rfl rfl rfl) rfl rfl rfl ?_
    refine WXL.pick_f Met.none rfl rfl ?_
    refine WXL.nil ?_
    refine Fin.then_normal ?_
    refine WX.cond rfl (fun hc0 => ?_) (fun hc0 => ?_)
    · try simp only [cnd] at hc0
      refine WX.seq ?_
      refine WX.region rfl ?_
      refine WXL.assign Met.none rfl ?_
      refine WXL.nil ?_
      refine Fin.then_normal ?_
      refine WX.ret ?_
      refine Fin.then_ret ?_
      first
      | exact Fin.result (O' := rdO r rb rf M vs ([] ++ R)) (.inr rfl) rfl rfl drop_ (by unfold appendR; rw [if_pos (by omega)]; exact ⟨vs, [], rfl, rfl, h⟩)
      | exact Fin.result (O' := rdO r rb rf M vs ([] ++ R)) (.inr rfl) rfl rfl drop_ (by unfold appendR; rw [if_neg (by omega), if_pos (by assumption)]; exact ⟨vs, [], rfl, rfl, h⟩)
      | exact Fin.result (O' := rdO r rb rf M vs ([] ++ R)) (.inr rfl) rfl rfl drop_ (by unfold appendR; rw [if_neg (by omega), if_neg (by simp [hc1]), if_pos (by omega)]; exact ⟨vs, [], rfl, rfl, h⟩)
      | exact Fin.result (O' := rdO r rb rf (stepR (appendR1 M file b)).2 _ (G45 ++ R)) (.inr rfl) rfl rfl drop_ (by unfold appendR; rw [if_neg (by omega), if_neg (by simp [hc1]), if_neg (by omega), if_pos hc3]; exact ⟨_, G45, rfl, rfl, hI.step⟩)
      | exact Fin.result (O' := rdO r rb rf (stepR (appendR1 M file b)).2 _ (G45 ++ R)) (.inr rfl) rfl rfl drop_ (by unfold appendR; rw [if_neg (by omega), if_neg (by simp [hc1]), if_neg (by omega), if_neg (by simp [hc3])]; exact ⟨_, G45, rfl, rfl, hI.step⟩)
    · try simp only [cnd] at hc0
      refine WX.skip ?_
      refine Fin.then_normal ?_
      refine WX.seq ?_
      refine WX.seq ?_
      refine WX.region rfl ?_
      refine WXL.move Met.none rfl ?_
      refine WXL.nilCheck Met.none rfl ?_
      first | refine WXL.fieldAddr Met.none rfl Try.underlying58 rfl sz4 rfl ?_ | refine WXL.faS Met.none rfl Try.underlying58 rfl sz4 ?_
      first | refine WXL.ld Met.none rfl agg4 ?_ | refine WXL.ldS Met.none rfl agg4 ?_
      refine WXL.nil ?_
      refine Fin.then_normal ?_
      refine WX.cond rfl (fun hc1 => ?_) (fun hc1 => ?_)
      · try simp only [cnd] at hc1
        refine WX.seq ?_
        refine WX.region rfl ?_
        refine WXL.assign Met.none rfl ?_
        refine WXL.nil ?_
        refine Fin.then_normal ?_
        refine WX.ret ?_
        refine Fin.then_ret ?_
        first
        | exact Fin.result (O' := rdO r rb rf M vs ([] ++ R)) (.inr rfl) rfl rfl drop_ (by unfold appendR; rw [if_pos (by omega)]; exact ⟨vs, [], rfl, rfl, h⟩)
        | exact Fin.result (O' := rdO r rb rf M vs ([] ++ R)) (.inr rfl) rfl rfl drop_ (by unfold appendR; rw [if_neg (by omega), if_pos (by assumption)]; exact ⟨vs, [], rfl, rfl, h⟩)
        | exact Fin.result (O' := rdO r rb rf M vs ([] ++ R)) (.inr rfl) rfl rfl drop_ (by unfold appendR; rw [if_neg (by omega), if_neg (by simp [hc1]), if_pos (by omega)]; exact ⟨vs, [], rfl, rfl, h⟩)
        | exact Fin.result (O' := rdO r rb rf (stepR (appendR1 M file b)).2 _ (G45 ++ R)) (.inr rfl) rfl rfl drop_ (by unfold appendR; rw [if_neg (by omega), if_neg (by simp [hc1]), if_neg (by omega), if_pos hc3]; exact ⟨_, G45, rfl, rfl, hI.step⟩)
        | exact Fin.result (O' := rdO r rb rf (stepR (appendR1 M file b)).2 _ (G45 ++ R)) (.inr rfl) rfl rfl drop_ (by unfold appendR; rw [if_neg (by omega), if_neg (by simp [hc1]), if_neg (by omega), if_neg (by simp [hc3])]; exact ⟨_, G45, rfl, rfl, hI.step⟩)
      · try simp only [cnd] at hc1
        refine WX.skip ?_
        refine Fin.then_normal ?_
        refine WX.seq ?_
        refine WX.seq ?_
        refine WX.draw rfl ?_
        refine WXL.move Met.none rfl ?_
        refine WXL.cl (O1 := _) Met.none rfl (fnOk_of Try.func47 (by decide +kernel)) rfl (fun _ h => h) (rused_ok R r rb rf M vs h) (fun v O' hp => ?_)
        obtain ⟨rfl, hO⟩ := hp
        subst O'
        refine WXL.move Met.none rfl ?_
        refine WXL.len Met.none rfl Try.underlying27 ?_
        refine WXL.bin Met.none rfl rfl bvA ?_
        refine WXL.move Met.none rfl ?_
        refine WXL.nilCheck Met.none rfl ?_
        first | refine WXL.fieldAddr Met.none rfl Try.underlying58 rfl sz3 rfl ?_ | refine WXL.faS Met.none rfl Try.underlying58 rfl sz3 ?_
        first | refine WXL.ld Met.none rfl agg3 ?_ | refine WXL.ldS Met.none rfl agg3 ?_
        refine WXL.bin Met.none rfl rfl rfl ?_
        refine WXL.nil ?_
        refine Fin.then_normal ?_
        refine WX.cond rfl (fun hc2 => ?_) (fun hc2 => ?_)
        · try simp only [cnd] at hc2
          refine WX.seq ?_
          refine WX.region rfl ?_
          refine WXL.assign Met.none rfl ?_
          refine WXL.nil ?_
          refine Fin.then_normal ?_
          refine WX.ret ?_
          refine Fin.then_ret ?_
          first
          | exact Fin.result (O' := rdO r rb rf M vs ([] ++ R)) (.inr rfl) rfl rfl drop_ (by unfold appendR; rw [if_pos (by omega)]; exact ⟨vs, [], rfl, rfl, h⟩)
          | exact Fin.result (O' := rdO r rb rf M vs ([] ++ R)) (.inr rfl) rfl rfl drop_ (by unfold appendR; rw [if_neg (by omega), if_pos (by assumption)]; exact ⟨vs, [], rfl, rfl, h⟩)
          | exact Fin.result (O' := rdO r rb rf M vs ([] ++ R)) (.inr rfl) rfl rfl drop_ (by unfold appendR; rw [if_neg (by omega), if_neg (by simp [hc1]), if_pos (by omega)]; exact ⟨vs, [], rfl, rfl, h⟩)
          | exact Fin.result (O' := rdO r rb rf (stepR (appendR1 M file b)).2 _ (G45 ++ R)) (.inr rfl) rfl rfl drop_ (by unfold appendR; rw [if_neg (by omega), if_neg (by simp [hc1]), if_neg (by omega), if_pos hc3]; exact ⟨_, G45, rfl, rfl, hI.step⟩)
          | exact Fin.result (O' := rdO r rb rf (stepR (appendR1 M file b)).2 _ (G45 ++ R)) (.inr rfl) rfl rfl drop_ (by unfold appendR; rw [if_neg (by omega), if_neg (by simp [hc1]), if_neg (by omega), if_neg (by simp [hc3])]; exact ⟨_, G45, rfl, rfl, hI.step⟩)
        · try simp only [cnd] at hc2
          refine WX.skip ?_
          refine Fin.then_normal ?_
          refine WX.seq ?_
          refine WX.region rfl ?_
          refine WXL.assign Met.none rfl ?_
          refine WXL.nil ?_
          refine Fin.then_normal ?_
          refine WX.seq ?_
          have hk : file.toNat < 64 := by omega
          obtain ⟨fa, fc, hfv, hrow0, hnil, hB⟩ := h.file _ hk
          have hrow := hrow0.inc hi
          have hfl := h.len hk
          have hv : vs[file.toNat]? = some (.slice fa (nth M.B file.toNat).length fc) := by rw [← hfv]; exact nth_eq (by rw [h.lenV]; exact hk)
          refine WX.region rfl ?_
          refine WXL.move Met.none rfl ?_
          refine WXL.move Met.none rfl ?_
          refine WXL.nilCheck Met.none rfl ?_
          first | refine WXL.fieldAddr Met.none rfl Try.underlying58 rfl sz22 rfl ?_ | refine WXL.faS Met.none rfl Try.underlying58 rfl sz22 ?_
          first | refine WXL.ld Met.none rfl agg22 ?_ | refine WXL.ldS Met.none rfl agg22 ?_
          refine WXL.move Met.none rfl ?_
          first | refine WXL.ix Met.none rfl rfl elem22 sz27 ?_ | refine WXL.ixS Met.none rfl rfl elem22 sz27 ?_
          first | refine WXL.ld Met.none rfl agg27 ?_ (hv := hv) | refine WXL.ldS Met.none rfl agg27 ?_ (hv := hv)
          refine WXL.apG ([]) Met.none rfl rfl isrow27 elem27 sz5 by5 zero5 (Src.cons (Src.cons (Src.cons (hrow.src hnil)))) (fun a37 c37 G37 hG37 => ?_) (hm := (by rw [List.length_map]; omega)) (hg := (Grow.nil (sz := 1)))
          refine WXL.assign Met.none rfl ?_
          refine WXL.nil ?_
          refine Fin.then_normal ?_
          refine WX.seq ?_
          refine WX.re (O' := rdO r rb rf M vs (G37 ++ R)) ?_
          refine WX.draw rfl ?_
          refine WXL.move Met.none rfl ?_
          refine WXL.nilCheck Met.none rfl ?_
          first | refine WXL.fieldAddr Met.none rfl Try.underlying58 rfl sz22 rfl ?_ | refine WXL.faS Met.none rfl Try.underlying58 rfl sz22 ?_
          first | refine WXL.ld Met.none rfl agg22 ?_ | refine WXL.ldS Met.none rfl agg22 ?_
          refine WXL.move Met.none rfl ?_
          refine WXL.move Met.none rfl ?_
          refine WXL.move Met.none rfl ?_
          refine WXL.apG [_, _, _] Met.none rfl rfl isrow27 elem27 sz5 by5 zero5 (Src.cons (Src.cons (Src.cons (Src.app hb)))) (fun a45 c45 G45 hG45 => ?_) (hm := (by rw [List.length_map]; omega))
          first | refine WXL.ix Met.none rfl rfl elem22 sz27 ?_ | refine WXL.ixS Met.none rfl rfl elem22 sz27 ?_
          refine WXL.st (vs := [_]) (j := 1) Met.none rfl rfl rfl sz27 ?_ (hj := rfl) (hl := (by show file.toNat + 1 ≤ vs.length; rw [h.lenV]; omega)) (hc := (splice_one (by rw [h.lenV]; exact hk)))
          refine WXL.nil ?_
          refine Fin.then_normal ?_
          refine WX.seq ?_
          have hx : 0 + (nth M.B file.toNat).length + b.length = (nth M.B file.toNat ++ b).length := by rw [List.length_append]; omega
          have hvn : RowV (G45 ++ R0) (.slice a45 (0 + (nth M.B file.toNat).length + b.length) c45) (nth M.B file.toNat ++ b) := by
            have h1 := hG45.rowy (R := R0)
            rw [List.nil_append, ← List.map_append, hx] at h1
            rw [hx]
            exact ⟨a45, c45, rfl, h1, fun q => (hG45.nil0 q).1, fun y hy => by
              rcases List.mem_append.1 hy with q | q
              · exact hB y q
              · exact hBb y q⟩
          have hI : RdI (G45 ++ R0) (appendR1 M file b) (vs.set file.toNat (.slice a45 (0 + (nth M.B file.toNat).length + b.length) c45)) := (h.app (N := G45)).set hk hvn (by unfold lenR; rw [List.length_append]; omega) h.lenF h.plan (fun n hn => by
            have h1 := h.firm n hn
            rw [nth_setE (by rw [h.lenB]; exact hk)]
            split
            · rename_i q; subst q; rw [List.length_append]; omega
            · exact h1)
          refine WX.region rfl ?_
          refine WXL.move Met.none rfl ?_
          refine WXL.cl (O1 := _) Met.none rfl (fnOk_of Try.func55 (by decide +kernel)) rfl (fun _ h => h) (rstep_ok (G45 ++ R) r rb rf (appendR1 M file b) _ hI) (fun v O' hp => ?_)
          obtain ⟨rfl, hO⟩ := hp
          subst O'
          refine WXL.assign Met.none rfl ?_
          refine WXL.nil ?_
          refine Fin.then_normal ?_
          refine WX.seq ?_
          refine WX.seq ?_
          refine WX.region rfl ?_
          refine WXL.move Met.none rfl ?_
          refine WXL.nil ?_
          refine Fin.then_normal ?_
          refine WX.cond rfl (fun hc3 => ?_) (fun hc3 => ?_)
          · try simp only [cnd] at hc3
            refine WX.seq ?_
            refine WX.region rfl ?_
            refine WXL.assign Met.none rfl ?_
            refine WXL.nil ?_
            refine Fin.then_normal ?_
            refine WX.ret ?_
            refine Fin.then_ret ?_
            first
            | exact Fin.result (O' := rdO r rb rf M vs ([] ++ R)) (.inr rfl) rfl rfl drop_ (by unfold appendR; rw [if_pos (by omega)]; exact ⟨vs, [], rfl, rfl, h⟩)
            | exact Fin.result (O' := rdO r rb rf M vs ([] ++ R)) (.inr rfl) rfl rfl drop_ (by unfold appendR; rw [if_neg (by omega), if_pos (by assumption)]; exact ⟨vs, [], rfl, rfl, h⟩)
            | exact Fin.result (O' := rdO r rb rf M vs ([] ++ R)) (.inr rfl) rfl rfl drop_ (by unfold appendR; rw [if_neg (by omega), if_neg (by simp [hc1]), if_pos (by omega)]; exact ⟨vs, [], rfl, rfl, h⟩)
            | exact Fin.result (O' := rdO r rb rf (stepR (appendR1 M file b)).2 _ (G45 ++ R)) (.inr rfl) rfl rfl drop_ (by unfold appendR; rw [if_neg (by omega), if_neg (by simp [hc1]), if_neg (by omega), if_pos hc3]; exact ⟨_, G45, rfl, rfl, hI.step⟩)
            | exact Fin.result (O' := rdO r rb rf (stepR (appendR1 M file b)).2 _ (G45 ++ R)) (.inr rfl) rfl rfl drop_ (by unfold appendR; rw [if_neg (by omega), if_neg (by simp [hc1]), if_neg (by omega), if_neg (by simp [hc3])]; exact ⟨_, G45, rfl, rfl, hI.step⟩)
          · try simp only [cnd] at hc3
            refine WX.skip ?_
            refine Fin.then_normal ?_
            refine WX.seq ?_
            refine WX.region rfl ?_
            refine WXL.assign Met.none rfl ?_
            refine WXL.nil ?_
            refine Fin.then_normal ?_
            refine WX.ret ?_
            first
            | exact Fin.result (O' := rdO r rb rf M vs ([] ++ R)) (.inr rfl) rfl rfl drop_ (by unfold appendR; rw [if_pos (by omega)]; exact ⟨vs, [], rfl, rfl, h⟩)
            | exact Fin.result (O' := rdO r rb rf M vs ([] ++ R)) (.inr rfl) rfl rfl drop_ (by unfold appendR; rw [if_neg (by omega), if_pos (by assumption)]; exact ⟨vs, [], rfl, rfl, h⟩)
            | exact Fin.result (O' := rdO r rb rf M vs ([] ++ R)) (.inr rfl) rfl rfl drop_ (by unfold appendR; rw [if_neg (by omega), if_neg (by simp [hc1]), if_pos (by omega)]; exact ⟨vs, [], rfl, rfl, h⟩)
            | exact Fin.result (O' := rdO r rb rf (stepR (appendR1 M file b)).2 _ (G45 ++ R)) (.inr rfl) rfl rfl drop_ (by unfold appendR; rw [if_neg (by omega), if_neg (by simp [hc1]), if_neg (by omega), if_pos hc3]; exact ⟨_, G45, rfl, rfl, hI.step⟩)
            | exact Fin.result (O' := rdO r rb rf (stepR (appendR1 M file b)).2 _ (G45 ++ R)) (.inr rfl) rfl rfl drop_ (by unfold appendR; rw [if_neg (by omega), if_neg (by simp [hc1]), if_neg (by omega), if_neg (by simp [hc3])]; exact ⟨_, G45, rfl, rfl, hI.step⟩)

/-- The firm numbers while Sync goes over them. -/
def firmI (M : Rd) (i : Nat) : List Int := (List.range i).map (lenR M) ++ M.F.drop i
theorem firmI_len {M : Rd} (h : M.F.length = 64) {i : Nat} (hi : i ≤ 64) : (firmI M i).length = 64 := by
  unfold firmI
  rw [List.length_append, List.length_map, List.length_range, List.length_drop]
  omega
theorem firmI_set {M : Rd} (h : M.F.length = 64) {i : Nat} (hi : i < 64) : (firmI M i).set i (lenR M i) = firmI M (i + 1) := by
  unfold firmI
  rw [List.set_append_right _ _ (by simp)]
  simp only [List.length_map, List.length_range, Nat.sub_self]
  rw [List.drop_eq_getElem_cons (by omega), List.set_cons_zero, List.range_succ, List.map_append]
  simp
theorem firmI_all {M : Rd} (h : M.F.length = 64) : firmI M 64 = (List.range 64).map (lenR M) := by
  unfold firmI
  rw [List.drop_of_length_le (by omega), List.append_nil]

theorem RdI.firmed {R : Objs} {M : Rd} {vs : List Value} (h : RdI R M vs) : RdI R (firmR M) vs :=
  ⟨h.lenV, h.lenB, by unfold firmR; simp, h.file, h.room, h.used, h.plan, fun n hn => by
    unfold firmR
    simp only
    rw [nth_map_range _ hn]
    exact ⟨lenR_nn M n, Int.le_refl _⟩⟩

theorem rsync_ok (R : Objs) {R0 : Objs} (r rb rf : Nat) (M : Rd) (vs : List Value) (h : RdI R0 M vs) : Spec Try.prog false 43 #[Ptr r 0] (rdO r rb rf M vs R) fun v O' => v = I (syncR M).1 ∧ O' = rdO r rb rf (syncR M).2 vs R ∧ RdI R0 (syncR M).2 vs := by
  refine Spec.enter (args := [_]) (m := 30) Try.func43 rfl rfl (by decide +kernel) fun h0 => ?_
  refine WX.seq ?_
  refine WX.region rfl ?_
  refine WXL.assign Met.none rfl ?_
  refine WXL.nil ?_
  refine Fin.then_normal ?_
  refine WX.seq ?_
  refine WX.seq ?_
  refine WX.region rfl ?_
  refine WXL.move Met.none rfl ?_
  refine WXL.nilCheck Met.none rfl ?_
  first | refine WXL.fieldAddr Met.none rfl Try.underlying58 rfl sz4 rfl ?_ | refine WXL.faS Met.none rfl Try.underlying58 rfl sz4 ?_
  first | refine WXL.ld Met.none rfl agg4 ?_ | refine WXL.ldS Met.none rfl agg4 ?_
  refine WXL.nil ?_
  refine Fin.then_normal ?_
  refine WX.cond rfl (fun hc0 => ?_) (fun hc0 => ?_)
  · try simp only [cnd] at hc0
    refine WX.seq ?_
    refine WX.region rfl ?_
    refine WXL.assign Met.none rfl ?_
    refine WXL.nil ?_
    refine Fin.then_normal ?_
    refine WX.ret ?_
    refine Fin.then_ret ?_
    first
    | exact Fin.result (O' := rdO r rb rf M vs R) (.inr rfl) rfl rfl drop_ (by unfold syncR; rw [if_pos (by assumption)]; exact ⟨rfl, rfl, h⟩)
    | exact Fin.result (O' := rdO r rb rf (stepR M).2 vs R) (.inr rfl) rfl rfl drop_ (by unfold syncR; rw [if_neg (by simp [hc0]), if_pos hc1]; exact ⟨rfl, rfl, h.step⟩)
    | exact Fin.result (O' := rdO r rb rf (firmR M2) vs R) (.inr rfl) rfl rfl drop_ (by unfold syncR; rw [if_neg (by simp [hc0]), if_neg (by simp [hc1]), ← hM2]; exact ⟨rfl, rfl, h2.firmed⟩)
  · try simp only [cnd] at hc0
    refine WX.skip ?_
    refine Fin.then_normal ?_
    refine WX.seq ?_
    refine WX.region rfl ?_
    refine WXL.move Met.none rfl ?_
    refine WXL.cl (O1 := _) Met.none rfl (fnOk_of Try.func55 (by decide +kernel)) rfl (fun _ h => h) (rstep_ok R r rb rf M vs h) (fun v O' hp => ?_)
    obtain ⟨rfl, hO⟩ := hp
    subst O'
    refine WXL.assign Met.none rfl ?_
    refine WXL.nil ?_
    refine Fin.then_normal ?_
    refine WX.seq ?_
    refine WX.seq ?_
    refine WX.region rfl ?_
    refine WXL.move Met.none rfl ?_
    refine WXL.nil ?_
    refine Fin.then_normal ?_
    refine WX.cond rfl (fun hc1 => ?_) (fun hc1 => ?_)
    · try simp only [cnd] at hc1
      refine WX.seq ?_
      refine WX.region rfl ?_
      refine WXL.assign Met.none rfl ?_
      refine WXL.nil ?_
      refine Fin.then_normal ?_
      refine WX.ret ?_
      refine Fin.then_ret ?_
      first
      | exact Fin.result (O' := rdO r rb rf M vs R) (.inr rfl) rfl rfl drop_ (by unfold syncR; rw [if_pos (by assumption)]; exact ⟨rfl, rfl, h⟩)
      | exact Fin.result (O' := rdO r rb rf (stepR M).2 vs R) (.inr rfl) rfl rfl drop_ (by unfold syncR; rw [if_neg (by simp [hc0]), if_pos hc1]; exact ⟨rfl, rfl, h.step⟩)
      | exact Fin.result (O' := rdO r rb rf (firmR M2) vs R) (.inr rfl) rfl rfl drop_ (by unfold syncR; rw [if_neg (by simp [hc0]), if_neg (by simp [hc1]), ← hM2]; exact ⟨rfl, rfl, h2.firmed⟩)
    · try simp only [cnd] at hc1
      refine WX.skip ?_
      refine Fin.then_normal ?_
      refine WX.seq ?_
      refine WX.seq ?_
      refine WX.region rfl ?_
      refine WXL.assign Met.none rfl ?_
      refine WXL.nil ?_
      refine Fin.then_normal ?_
      refine WX.block ?_
      obtain ⟨M2, hM2⟩ : ∃ M2, M2 = (stepR M).2 := ⟨_, rfl⟩
      have h2 : RdI R0 M2 vs := hM2 ▸ h.step
      rw [← hM2]
      refine WX.re (O' := rdO r rb rf ⟨M2.room, M2.B, firmI M2 0, M2.off, M2.plan⟩ vs R) ?_ (fun _ hs => hs)
      refine WX.loop (fun i : Nat => [(0, Ptr r 0), (4, I (i : Int))]) (fun i => rdO r rb rf ⟨M2.room, M2.B, firmI M2 i, M2.off, M2.plan⟩ vs R) (fun i => i ≤ 64) (fun i => 64 - i) 0 (by decide) (fun s hs => hs.tl [] 0) (fun i hi => ?_)
      refine WX.seq ?_
      refine WX.seq ?_
      refine WX.region rfl ?_
      refine WXL.move Met.none rfl ?_
      refine WXL.bin Met.none rfl rfl rfl ?_
      refine WXL.nil ?_
      refine Fin.then_normal ?_
      refine WX.cond rfl (fun hc2 => ?_) (fun hc2 => ?_)
      · try simp only [cnd] at hc2
        refine WX.skip ?_
        refine Fin.then_normal ?_
        refine WX.seq ?_
        refine WX.block ?_
        have hi64 : i < 64 := by omega
        obtain ⟨a, c, ev, _⟩ := h2.file i hi64
        have hv : vs[i]? = some (.slice a (nth M2.B i).length c) := by rw [← ev]; exact nth_eq (by rw [h2.lenV]; exact hi64)
        have hfl := firmI_len h2.lenF (i := i) (by omega)
        refine WX.draw rfl ?_
        refine WXL.move Met.none rfl ?_
        refine WXL.nilCheck Met.none rfl ?_
        first | refine WXL.fieldAddr Met.none rfl Try.underlying58 rfl sz33 rfl ?_ | refine WXL.faS Met.none rfl Try.underlying58 rfl sz33 ?_
        first | refine WXL.ld Met.none rfl agg33 ?_ | refine WXL.ldS Met.none rfl agg33 ?_
        refine WXL.move Met.none rfl ?_
        refine WXL.move Met.none rfl ?_
        refine WXL.nilCheck Met.none rfl ?_
        first | refine WXL.fieldAddr Met.none rfl Try.underlying58 rfl sz22 rfl ?_ | refine WXL.faS Met.none rfl Try.underlying58 rfl sz22 ?_
        first | refine WXL.ld Met.none rfl agg22 ?_ | refine WXL.ldS Met.none rfl agg22 ?_
        refine WXL.move Met.none rfl ?_
        first | refine WXL.ix Met.none rfl rfl elem22 sz27 ?_ | refine WXL.ixS Met.none rfl rfl elem22 sz27 ?_
        first | refine WXL.ld Met.none rfl agg27 ?_ (hv := hv) | refine WXL.ldS Met.none rfl agg27 ?_ (hv := hv)
        refine WXL.len Met.none rfl Try.underlying27 ?_
        first | refine WXL.ix Met.none rfl rfl elem33 sz3 ?_ | refine WXL.ixS Met.none rfl rfl elem33 sz3 ?_
        refine WXL.st (vs := [_]) (j := 2) Met.none rfl rfl rfl sz3 ?_ (hj := rfl) (hl := (by rw [List.length_map, hfl]; show i + 1 ≤ 64; omega)) (hc := (splice_map I _ i (lenR M2 i) (by rw [hfl]; exact hi64)))
        refine WXL.nil ?_
        refine Fin.block_normal ?_
        refine Fin.then_normal ?_
        refine WX.region rfl ?_
        refine WXL.move Met.none rfl ?_
        refine WXL.bin Met.none rfl rfl bvA ?_
        refine WXL.assign Met.none rfl ?_
        refine WXL.nil ?_
        exact Fin.loop_next (i + 1) (by omega) (by omega) (fun s hs => by rw [← firmI_set h2.lenF hi64]; exact hs.tl [] 0)
      · try simp only [cnd] at hc2
        refine WX.exit ?_
        refine Fin.then_exit ?_
        refine Fin.loop_exit ?_
        refine Fin.block_hit rfl ?_
        refine Fin.then_normal ?_
        refine WX.seq ?_
        have hie : i = 64 := by omega
        rw [hie, firmI_all h2.lenF]
        refine WX.region rfl ?_
        refine WXL.assign Met.none rfl ?_
        refine WXL.nil ?_
        refine Fin.then_normal ?_
        refine WX.ret ?_
        first
        | exact Fin.result (O' := rdO r rb rf M vs R) (.inr rfl) rfl rfl drop_ (by unfold syncR; rw [if_pos (by assumption)]; exact ⟨rfl, rfl, h⟩)
        | exact Fin.result (O' := rdO r rb rf (stepR M).2 vs R) (.inr rfl) rfl rfl drop_ (by unfold syncR; rw [if_neg (by simp [hc0]), if_pos hc1]; exact ⟨rfl, rfl, h.step⟩)
        | exact Fin.result (O' := rdO r rb rf (firmR M2) vs R) (.inr rfl) rfl rfl drop_ (by unfold syncR; rw [if_neg (by simp [hc0]), if_neg (by simp [hc1]), ← hM2]; exact ⟨rfl, rfl, h2.firmed⟩)

theorem rtrunc_ok (R : Objs) {R0 : Objs} (r rb rf : Nat) (M : Rd) (vs : List Value) (file size : Int) (h : RdI R0 M vs) (hi : ∀ g, Sat g R → Sat g R0) : Spec Try.prog false 44 #[Ptr r 0, I file, I size] (rdO r rb rf M vs R) fun v O' => ∃ vs', v = I (truncR M file size).1 ∧ O' = rdO r rb rf (truncR M file size).2 vs' R ∧ RdI R0 (truncR M file size).2 vs' := by
  have hfile : file.toNat < 64 → ∃ fa fc, vs[file.toNat]? = some (.slice fa (nth M.B file.toNat).length fc) ∧ Rowy R0 1 fa (nth M.B file.toNat).length ((nth M.B file.toNat).map B8) ∧ (fa = none → fc = 0) ∧ Bytes (nth M.B file.toNat) := fun hk => by
    obtain ⟨fa, fc, hfv, hrow0, hnil, hB⟩ := h.file _ hk
    exact ⟨fa, fc, by rw [← hfv]; exact nth_eq (by rw [h.lenV]; exact hk), hrow0, hnil, hB⟩
  refine Spec.enter (args := [_, _, _]) (m := 67) Try.func44 rfl rfl (by decide +kernel) fun h0 => ?_
  refine WX.seq ?_
  refine WX.region rfl ?_
  refine WXL.assign Met.none rfl ?_
  refine WXL.nil ?_
  refine Fin.then_normal ?_
  refine WX.seq ?_
  refine WX.seq ?_
  refine WX.region rfl ?_
  refine WXL.move Met.none rfl ?_
  refine WXL.bin Met.none rfl rfl rfl ?_
  refine WXL.move Met.none rfl ?_
  refine WXL.split (d := 10) rfl (fun hg10 => ?_) (fun hg10 => ?_)
  · try simp only [cnd] at hg10
    refine WXL.miss (j := 2) (d := 10) rfl rfl rfl ?_
    refine WXL.miss (j := 2) (d := 10) rfl rfl rfl ?_
    refine WXL.pick_t Met.none rfl rfl ?_
    refine WXL.move Met.none rfl ?_
    refine WXL.miss (j := 6) (d := 14) rfl rfl rfl ?_
    refine WXL.miss (j := 6) (d := 14) rfl rfl rfl ?_
    refine WXL.pick_t Met.none rfl rfl ?_
    refine WXL.move Met.none rfl ?_
    refine WXL.miss (j := 10) (d := 18) rfl rfl rfl ?_
    refine WXL.miss (j := 10) (d := 18) rfl rfl rfl ?_
    refine WXL.miss (j := 10) (d := 18) rfl rfl rfl ?_
    refine WXL.miss (j := 10) (d := 18) rfl rfl rfl ?_
    refine WXL.miss (j := 10) (d := 18) rfl rfl rfl ?_
    refine WXL.miss (j := 10) (d := 18) rfl rfl rfl ?_
    refine WXL.miss (j := 10) (d := 18) rfl rfl rfl ?_
    refine WXL.miss (j := 10) (d := 18) rfl rfl rfl ?_
    refine WXL.miss (j := 10) (d := 18) rfl rfl rfl ?_
    refine WXL.miss (j := 10) (d := 18) rfl rfl rfl ?_
    refine WXL.pick_t Met.none rfl rfl ?_
    refine WXL.nil ?_
    refine Fin.then_normal ?_
    refine WX.cond rfl (fun hc0 => ?_) (fun hc0 => nomatch hc0)
    refine WX.seq ?_
    refine WX.region rfl ?_
    refine WXL.assign Met.none rfl ?_
    refine WXL.nil ?_
    refine Fin.then_normal ?_
    refine WX.ret ?_
    refine Fin.then_ret ?_
    first
    | exact Fin.result (O' := rdO r rb rf M vs R) (.inr rfl) rfl rfl drop_ (by unfold truncR; rw [if_pos (by unfold lenR; omega)]; exact ⟨vs, rfl, rfl, h⟩)
    | exact Fin.result (O' := rdO r rb rf M vs R) (.inr rfl) rfl rfl drop_ (by unfold truncR; rw [if_neg (by unfold lenR; omega), if_pos (by assumption)]; exact ⟨vs, rfl, rfl, h⟩)
    | exact Fin.result (O' := rdO r rb rf (stepR M).2 vs R) (.inr rfl) rfl rfl drop_ (by unfold truncR; rw [if_neg (by unfold lenR; omega), if_neg (by simp [hc1]), if_pos hc2]; exact ⟨vs, rfl, rfl, h.step⟩)
    | exact Fin.result (O' := rdO r rb rf ⟨M2.room, M2.B.set file.toNat ((nth M2.B file.toNat).take k), M2.F.set file.toNat (min (nth M2.F file.toNat) size), M2.off, M2.plan⟩ (vs.set file.toNat (.slice fa k k)) R) (.inr rfl) rfl rfl (fun _ hs => by rw [hF2]; exact hs) (by
        have hlk : ((nth M.B file.toNat).take k).length = k := by rw [List.length_take]; omega
        have hpre := hrow0.pre hkl
        rw [Nat.mul_one, ← List.map_take] at hpre
        have hvn : RowV R0 (.slice fa k k) ((nth M.B file.toNat).take k) := ⟨fa, k, by rw [hlk], by rw [hlk]; exact hpre, hpre.nil0, fun y hy => hB y (List.mem_of_mem_take hy)⟩
        have hI : RdI R0 ⟨M2.room, M2.B.set file.toNat ((nth M.B file.toNat).take k), M2.F.set file.toNat (min (nth M2.F file.toNat) size), M2.off, M2.plan⟩ (vs.set file.toNat (.slice fa k k)) := h2.set hk hvn (by
            have := h2.used
            have h9 : lenR M2 file.toNat = ((nth M.B file.toNat).length : Nat) := by unfold lenR; rw [hB2]
            rw [h9, hlk]
            omega) (by rw [List.length_set]; exact h2.lenF) h2.plan (fun n hn => by
          have h1 := h2.firm n hn
          rw [nth_setE (by rw [h2.lenF]; exact hk), nth_setE (by rw [h2.lenB]; exact hk)]
          by_cases q : n = file.toNat
          · rw [if_pos q, if_pos q, hlk]
            rw [q] at h1
            omega
          · rw [if_neg q, if_neg q]; exact h1)
        unfold truncR
        rw [if_neg (by unfold lenR; omega), if_neg (by simp [hc1]), if_neg (by simp [hc2]), ← hM2, show size.toNat = k by omega]
        rw [← hB2] at hI
        exact ⟨_, rfl, rfl, hI⟩)
  · try simp only [cnd] at hg10
    refine WXL.move (Met.some rfl rfl rfl) rfl ?_
    refine WXL.bin (Met.some rfl rfl rfl) rfl rfl rfl ?_
    refine WXL.pick_f Met.none rfl rfl ?_
    refine WXL.move Met.none rfl ?_
    refine WXL.split (d := 14) rfl (fun hg14 => ?_) (fun hg14 => ?_)
    · try simp only [cnd] at hg14
      refine WXL.miss (j := 6) (d := 14) rfl rfl rfl ?_
      refine WXL.miss (j := 6) (d := 14) rfl rfl rfl ?_
      refine WXL.pick_t Met.none rfl rfl ?_
      refine WXL.move Met.none rfl ?_
      refine WXL.miss (j := 10) (d := 18) rfl rfl rfl ?_
      refine WXL.miss (j := 10) (d := 18) rfl rfl rfl ?_
      refine WXL.miss (j := 10) (d := 18) rfl rfl rfl ?_
      refine WXL.miss (j := 10) (d := 18) rfl rfl rfl ?_
      refine WXL.miss (j := 10) (d := 18) rfl rfl rfl ?_
      refine WXL.miss (j := 10) (d := 18) rfl rfl rfl ?_
      refine WXL.miss (j := 10) (d := 18) rfl rfl rfl ?_
      refine WXL.miss (j := 10) (d := 18) rfl rfl rfl ?_
      refine WXL.miss (j := 10) (d := 18) rfl rfl rfl ?_
      refine WXL.miss (j := 10) (d := 18) rfl rfl rfl ?_
      refine WXL.pick_t Met.none rfl rfl ?_
      refine WXL.nil ?_
      refine Fin.then_normal ?_
      refine WX.cond rfl (fun hc0 => ?_) (fun hc0 => nomatch hc0)
      refine WX.seq ?_
      refine WX.region rfl ?_
      refine WXL.assign Met.none rfl ?_
      refine WXL.nil ?_
      refine Fin.then_normal ?_
      refine WX.ret ?_
      refine Fin.then_ret ?_
      first
      | exact Fin.result (O' := rdO r rb rf M vs R) (.inr rfl) rfl rfl drop_ (by unfold truncR; rw [if_pos (by unfold lenR; omega)]; exact ⟨vs, rfl, rfl, h⟩)
      | exact Fin.result (O' := rdO r rb rf M vs R) (.inr rfl) rfl rfl drop_ (by unfold truncR; rw [if_neg (by unfold lenR; omega), if_pos (by assumption)]; exact ⟨vs, rfl, rfl, h⟩)
      | exact Fin.result (O' := rdO r rb rf (stepR M).2 vs R) (.inr rfl) rfl rfl drop_ (by unfold truncR; rw [if_neg (by unfold lenR; omega), if_neg (by simp [hc1]), if_pos hc2]; exact ⟨vs, rfl, rfl, h.step⟩)
      | exact Fin.result (O' := rdO r rb rf ⟨M2.room, M2.B.set file.toNat ((nth M2.B file.toNat).take k), M2.F.set file.toNat (min (nth M2.F file.toNat) size), M2.off, M2.plan⟩ (vs.set file.toNat (.slice fa k k)) R) (.inr rfl) rfl rfl (fun _ hs => by rw [hF2]; exact hs) (by
          have hlk : ((nth M.B file.toNat).take k).length = k := by rw [List.length_take]; omega
          have hpre := hrow0.pre hkl
          rw [Nat.mul_one, ← List.map_take] at hpre
          have hvn : RowV R0 (.slice fa k k) ((nth M.B file.toNat).take k) := ⟨fa, k, by rw [hlk], by rw [hlk]; exact hpre, hpre.nil0, fun y hy => hB y (List.mem_of_mem_take hy)⟩
          have hI : RdI R0 ⟨M2.room, M2.B.set file.toNat ((nth M.B file.toNat).take k), M2.F.set file.toNat (min (nth M2.F file.toNat) size), M2.off, M2.plan⟩ (vs.set file.toNat (.slice fa k k)) := h2.set hk hvn (by
              have := h2.used
              have h9 : lenR M2 file.toNat = ((nth M.B file.toNat).length : Nat) := by unfold lenR; rw [hB2]
              rw [h9, hlk]
              omega) (by rw [List.length_set]; exact h2.lenF) h2.plan (fun n hn => by
            have h1 := h2.firm n hn
            rw [nth_setE (by rw [h2.lenF]; exact hk), nth_setE (by rw [h2.lenB]; exact hk)]
            by_cases q : n = file.toNat
            · rw [if_pos q, if_pos q, hlk]
              rw [q] at h1
              omega
            · rw [if_neg q, if_neg q]; exact h1)
          unfold truncR
          rw [if_neg (by unfold lenR; omega), if_neg (by simp [hc1]), if_neg (by simp [hc2]), ← hM2, show size.toNat = k by omega]
          rw [← hB2] at hI
          exact ⟨_, rfl, rfl, hI⟩)
    · try simp only [cnd] at hg14
      refine WXL.move (Met.some rfl rfl rfl) rfl ?_
      refine WXL.bin (Met.some rfl rfl rfl) rfl rfl rfl ?_
      refine WXL.pick_f Met.none rfl rfl ?_
      refine WXL.move Met.none rfl ?_
      refine WXL.split (d := 18) rfl (fun hg18 => ?_) (fun hg18 => ?_)
      · try simp only [cnd] at hg18
        refine WXL.miss (j := 10) (d := 18) rfl rfl rfl ?_
        refine WXL.miss (j := 10) (d := 18) rfl rfl rfl ?_
        refine WXL.miss (j := 10) (d := 18) rfl rfl rfl ?_
        refine WXL.miss (j := 10) (d := 18) rfl rfl rfl ?_
        refine WXL.miss (j := 10) (d := 18) rfl rfl rfl ?_
        refine WXL.miss (j := 10) (d := 18) rfl rfl rfl ?_
        refine WXL.miss (j := 10) (d := 18) rfl rfl rfl ?_
        refine WXL.miss (j := 10) (d := 18) rfl rfl rfl ?_
        refine WXL.miss (j := 10) (d := 18) rfl rfl rfl ?_
        refine WXL.miss (j := 10) (d := 18) rfl rfl rfl ?_
        refine WXL.pick_t Met.none rfl rfl ?_
        refine WXL.nil ?_
        refine Fin.then_normal ?_
        refine WX.cond rfl (fun hc0 => ?_) (fun hc0 => nomatch hc0)
        refine WX.seq ?_
        refine WX.region rfl ?_
        refine WXL.assign Met.none rfl ?_
        refine WXL.nil ?_
        refine Fin.then_normal ?_
        refine WX.ret ?_
        refine Fin.then_ret ?_
        first
        | exact Fin.result (O' := rdO r rb rf M vs R) (.inr rfl) rfl rfl drop_ (by unfold truncR; rw [if_pos (by unfold lenR; omega)]; exact ⟨vs, rfl, rfl, h⟩)
        | exact Fin.result (O' := rdO r rb rf M vs R) (.inr rfl) rfl rfl drop_ (by unfold truncR; rw [if_neg (by unfold lenR; omega), if_pos (by assumption)]; exact ⟨vs, rfl, rfl, h⟩)
        | exact Fin.result (O' := rdO r rb rf (stepR M).2 vs R) (.inr rfl) rfl rfl drop_ (by unfold truncR; rw [if_neg (by unfold lenR; omega), if_neg (by simp [hc1]), if_pos hc2]; exact ⟨vs, rfl, rfl, h.step⟩)
        | exact Fin.result (O' := rdO r rb rf ⟨M2.room, M2.B.set file.toNat ((nth M2.B file.toNat).take k), M2.F.set file.toNat (min (nth M2.F file.toNat) size), M2.off, M2.plan⟩ (vs.set file.toNat (.slice fa k k)) R) (.inr rfl) rfl rfl (fun _ hs => by rw [hF2]; exact hs) (by
            have hlk : ((nth M.B file.toNat).take k).length = k := by rw [List.length_take]; omega
            have hpre := hrow0.pre hkl
            rw [Nat.mul_one, ← List.map_take] at hpre
            have hvn : RowV R0 (.slice fa k k) ((nth M.B file.toNat).take k) := ⟨fa, k, by rw [hlk], by rw [hlk]; exact hpre, hpre.nil0, fun y hy => hB y (List.mem_of_mem_take hy)⟩
            have hI : RdI R0 ⟨M2.room, M2.B.set file.toNat ((nth M.B file.toNat).take k), M2.F.set file.toNat (min (nth M2.F file.toNat) size), M2.off, M2.plan⟩ (vs.set file.toNat (.slice fa k k)) := h2.set hk hvn (by
                have := h2.used
                have h9 : lenR M2 file.toNat = ((nth M.B file.toNat).length : Nat) := by unfold lenR; rw [hB2]
                rw [h9, hlk]
                omega) (by rw [List.length_set]; exact h2.lenF) h2.plan (fun n hn => by
              have h1 := h2.firm n hn
              rw [nth_setE (by rw [h2.lenF]; exact hk), nth_setE (by rw [h2.lenB]; exact hk)]
              by_cases q : n = file.toNat
              · rw [if_pos q, if_pos q, hlk]
                rw [q] at h1
                omega
              · rw [if_neg q, if_neg q]; exact h1)
            unfold truncR
            rw [if_neg (by unfold lenR; omega), if_neg (by simp [hc1]), if_neg (by simp [hc2]), ← hM2, show size.toNat = k by omega]
            rw [← hB2] at hI
            exact ⟨_, rfl, rfl, hI⟩)
      · try simp only [cnd] at hg18
        refine WXL.move (Met.some rfl rfl rfl) rfl ?_
        refine WXL.move (Met.some rfl rfl rfl) rfl ?_
        refine WXL.nilCheck (Met.some rfl rfl rfl) rfl ?_
        first | refine WXL.fieldAddr (Met.some rfl rfl rfl) rfl Try.underlying58 rfl sz22 rfl ?_ | refine WXL.faS (Met.some rfl rfl rfl) rfl Try.underlying58 rfl sz22 ?_
        first | refine WXL.ld (Met.some rfl rfl rfl) rfl agg22 ?_ | refine WXL.ldS (Met.some rfl rfl rfl) rfl agg22 ?_
        refine WXL.move (Met.some rfl rfl rfl) rfl ?_
        first | refine WXL.ix (Met.some rfl rfl rfl) rfl rfl elem22 sz27 ?_ | refine WXL.ixS (Met.some rfl rfl rfl) rfl rfl elem22 sz27 ?_
        have hk : file.toNat < 64 := by omega
        obtain ⟨fa, fc, hv, hrow0, hnil, hB⟩ := hfile hk
        have hrow := hrow0.inc hi
        first | refine WXL.ld (Met.some rfl rfl rfl) rfl agg27 ?_ (hv := hv) | refine WXL.ldS (Met.some rfl rfl rfl) rfl agg27 ?_ (hv := hv)
        refine WXL.len (Met.some rfl rfl rfl) rfl Try.underlying27 ?_
        refine WXL.bin (Met.some rfl rfl rfl) rfl rfl rfl ?_
        refine WXL.pick_f Met.none rfl rfl ?_
        refine WXL.nil ?_
        refine Fin.then_normal ?_
        refine WX.cond rfl (fun hc0 => ?_) (fun hc0 => ?_)
        · try simp only [cnd] at hc0
          refine WX.seq ?_
          refine WX.region rfl ?_
          refine WXL.assign Met.none rfl ?_
          refine WXL.nil ?_
          refine Fin.then_normal ?_
          refine WX.ret ?_
          refine Fin.then_ret ?_
          first
          | exact Fin.result (O' := rdO r rb rf M vs R) (.inr rfl) rfl rfl drop_ (by unfold truncR; rw [if_pos (by unfold lenR; omega)]; exact ⟨vs, rfl, rfl, h⟩)
          | exact Fin.result (O' := rdO r rb rf M vs R) (.inr rfl) rfl rfl drop_ (by unfold truncR; rw [if_neg (by unfold lenR; omega), if_pos (by assumption)]; exact ⟨vs, rfl, rfl, h⟩)
          | exact Fin.result (O' := rdO r rb rf (stepR M).2 vs R) (.inr rfl) rfl rfl drop_ (by unfold truncR; rw [if_neg (by unfold lenR; omega), if_neg (by simp [hc1]), if_pos hc2]; exact ⟨vs, rfl, rfl, h.step⟩)
          | exact Fin.result (O' := rdO r rb rf ⟨M2.room, M2.B.set file.toNat ((nth M2.B file.toNat).take k), M2.F.set file.toNat (min (nth M2.F file.toNat) size), M2.off, M2.plan⟩ (vs.set file.toNat (.slice fa k k)) R) (.inr rfl) rfl rfl (fun _ hs => by rw [hF2]; exact hs) (by
              have hlk : ((nth M.B file.toNat).take k).length = k := by rw [List.length_take]; omega
              have hpre := hrow0.pre hkl
              rw [Nat.mul_one, ← List.map_take] at hpre
              have hvn : RowV R0 (.slice fa k k) ((nth M.B file.toNat).take k) := ⟨fa, k, by rw [hlk], by rw [hlk]; exact hpre, hpre.nil0, fun y hy => hB y (List.mem_of_mem_take hy)⟩
              have hI : RdI R0 ⟨M2.room, M2.B.set file.toNat ((nth M.B file.toNat).take k), M2.F.set file.toNat (min (nth M2.F file.toNat) size), M2.off, M2.plan⟩ (vs.set file.toNat (.slice fa k k)) := h2.set hk hvn (by
                  have := h2.used
                  have h9 : lenR M2 file.toNat = ((nth M.B file.toNat).length : Nat) := by unfold lenR; rw [hB2]
                  rw [h9, hlk]
                  omega) (by rw [List.length_set]; exact h2.lenF) h2.plan (fun n hn => by
                have h1 := h2.firm n hn
                rw [nth_setE (by rw [h2.lenF]; exact hk), nth_setE (by rw [h2.lenB]; exact hk)]
                by_cases q : n = file.toNat
                · rw [if_pos q, if_pos q, hlk]
                  rw [q] at h1
                  omega
                · rw [if_neg q, if_neg q]; exact h1)
              unfold truncR
              rw [if_neg (by unfold lenR; omega), if_neg (by simp [hc1]), if_neg (by simp [hc2]), ← hM2, show size.toNat = k by omega]
              rw [← hB2] at hI
              exact ⟨_, rfl, rfl, hI⟩)
        · try simp only [cnd] at hc0
          refine WX.skip ?_
          refine Fin.then_normal ?_
          refine WX.seq ?_
          refine WX.seq ?_
          refine WX.region rfl ?_
          refine WXL.move Met.none rfl ?_
          refine WXL.nilCheck Met.none rfl ?_
          first | refine WXL.fieldAddr Met.none rfl Try.underlying58 rfl sz4 rfl ?_ | refine WXL.faS Met.none rfl Try.underlying58 rfl sz4 ?_
          first | refine WXL.ld Met.none rfl agg4 ?_ | refine WXL.ldS Met.none rfl agg4 ?_
          refine WXL.nil ?_
          refine Fin.then_normal ?_
          refine WX.cond rfl (fun hc1 => ?_) (fun hc1 => ?_)
          · try simp only [cnd] at hc1
            refine WX.seq ?_
            refine WX.region rfl ?_
            refine WXL.assign Met.none rfl ?_
            refine WXL.nil ?_
            refine Fin.then_normal ?_
            refine WX.ret ?_
            refine Fin.then_ret ?_
            first
            | exact Fin.result (O' := rdO r rb rf M vs R) (.inr rfl) rfl rfl drop_ (by unfold truncR; rw [if_pos (by unfold lenR; omega)]; exact ⟨vs, rfl, rfl, h⟩)
            | exact Fin.result (O' := rdO r rb rf M vs R) (.inr rfl) rfl rfl drop_ (by unfold truncR; rw [if_neg (by unfold lenR; omega), if_pos (by assumption)]; exact ⟨vs, rfl, rfl, h⟩)
            | exact Fin.result (O' := rdO r rb rf (stepR M).2 vs R) (.inr rfl) rfl rfl drop_ (by unfold truncR; rw [if_neg (by unfold lenR; omega), if_neg (by simp [hc1]), if_pos hc2]; exact ⟨vs, rfl, rfl, h.step⟩)
            | exact Fin.result (O' := rdO r rb rf ⟨M2.room, M2.B.set file.toNat ((nth M2.B file.toNat).take k), M2.F.set file.toNat (min (nth M2.F file.toNat) size), M2.off, M2.plan⟩ (vs.set file.toNat (.slice fa k k)) R) (.inr rfl) rfl rfl (fun _ hs => by rw [hF2]; exact hs) (by
                have hlk : ((nth M.B file.toNat).take k).length = k := by rw [List.length_take]; omega
                have hpre := hrow0.pre hkl
                rw [Nat.mul_one, ← List.map_take] at hpre
                have hvn : RowV R0 (.slice fa k k) ((nth M.B file.toNat).take k) := ⟨fa, k, by rw [hlk], by rw [hlk]; exact hpre, hpre.nil0, fun y hy => hB y (List.mem_of_mem_take hy)⟩
                have hI : RdI R0 ⟨M2.room, M2.B.set file.toNat ((nth M.B file.toNat).take k), M2.F.set file.toNat (min (nth M2.F file.toNat) size), M2.off, M2.plan⟩ (vs.set file.toNat (.slice fa k k)) := h2.set hk hvn (by
                    have := h2.used
                    have h9 : lenR M2 file.toNat = ((nth M.B file.toNat).length : Nat) := by unfold lenR; rw [hB2]
                    rw [h9, hlk]
                    omega) (by rw [List.length_set]; exact h2.lenF) h2.plan (fun n hn => by
                  have h1 := h2.firm n hn
                  rw [nth_setE (by rw [h2.lenF]; exact hk), nth_setE (by rw [h2.lenB]; exact hk)]
                  by_cases q : n = file.toNat
                  · rw [if_pos q, if_pos q, hlk]
                    rw [q] at h1
                    omega
                  · rw [if_neg q, if_neg q]; exact h1)
                unfold truncR
                rw [if_neg (by unfold lenR; omega), if_neg (by simp [hc1]), if_neg (by simp [hc2]), ← hM2, show size.toNat = k by omega]
                rw [← hB2] at hI
                exact ⟨_, rfl, rfl, hI⟩)
          · try simp only [cnd] at hc1
            refine WX.skip ?_
            refine Fin.then_normal ?_
            refine WX.seq ?_
            refine WX.region rfl ?_
            refine WXL.move Met.none rfl ?_
            refine WXL.cl (O1 := _) Met.none rfl (fnOk_of Try.func55 (by decide +kernel)) rfl (fun _ h => h) (rstep_ok R r rb rf M vs h) (fun v O' hp => ?_)
            obtain ⟨rfl, hO⟩ := hp
            subst O'
            refine WXL.assign Met.none rfl ?_
            refine WXL.nil ?_
            refine Fin.then_normal ?_
            refine WX.seq ?_
            refine WX.seq ?_
            refine WX.region rfl ?_
            refine WXL.move Met.none rfl ?_
            refine WXL.nil ?_
            refine Fin.then_normal ?_
            refine WX.cond rfl (fun hc2 => ?_) (fun hc2 => ?_)
            · try simp only [cnd] at hc2
              refine WX.seq ?_
              refine WX.region rfl ?_
              refine WXL.assign Met.none rfl ?_
              refine WXL.nil ?_
              refine Fin.then_normal ?_
              refine WX.ret ?_
              refine Fin.then_ret ?_
              first
              | exact Fin.result (O' := rdO r rb rf M vs R) (.inr rfl) rfl rfl drop_ (by unfold truncR; rw [if_pos (by unfold lenR; omega)]; exact ⟨vs, rfl, rfl, h⟩)
              | exact Fin.result (O' := rdO r rb rf M vs R) (.inr rfl) rfl rfl drop_ (by unfold truncR; rw [if_neg (by unfold lenR; omega), if_pos (by assumption)]; exact ⟨vs, rfl, rfl, h⟩)
              | exact Fin.result (O' := rdO r rb rf (stepR M).2 vs R) (.inr rfl) rfl rfl drop_ (by unfold truncR; rw [if_neg (by unfold lenR; omega), if_neg (by simp [hc1]), if_pos hc2]; exact ⟨vs, rfl, rfl, h.step⟩)
              | exact Fin.result (O' := rdO r rb rf ⟨M2.room, M2.B.set file.toNat ((nth M2.B file.toNat).take k), M2.F.set file.toNat (min (nth M2.F file.toNat) size), M2.off, M2.plan⟩ (vs.set file.toNat (.slice fa k k)) R) (.inr rfl) rfl rfl (fun _ hs => by rw [hF2]; exact hs) (by
                  have hlk : ((nth M.B file.toNat).take k).length = k := by rw [List.length_take]; omega
                  have hpre := hrow0.pre hkl
                  rw [Nat.mul_one, ← List.map_take] at hpre
                  have hvn : RowV R0 (.slice fa k k) ((nth M.B file.toNat).take k) := ⟨fa, k, by rw [hlk], by rw [hlk]; exact hpre, hpre.nil0, fun y hy => hB y (List.mem_of_mem_take hy)⟩
                  have hI : RdI R0 ⟨M2.room, M2.B.set file.toNat ((nth M.B file.toNat).take k), M2.F.set file.toNat (min (nth M2.F file.toNat) size), M2.off, M2.plan⟩ (vs.set file.toNat (.slice fa k k)) := h2.set hk hvn (by
                      have := h2.used
                      have h9 : lenR M2 file.toNat = ((nth M.B file.toNat).length : Nat) := by unfold lenR; rw [hB2]
                      rw [h9, hlk]
                      omega) (by rw [List.length_set]; exact h2.lenF) h2.plan (fun n hn => by
                    have h1 := h2.firm n hn
                    rw [nth_setE (by rw [h2.lenF]; exact hk), nth_setE (by rw [h2.lenB]; exact hk)]
                    by_cases q : n = file.toNat
                    · rw [if_pos q, if_pos q, hlk]
                      rw [q] at h1
                      omega
                    · rw [if_neg q, if_neg q]; exact h1)
                  unfold truncR
                  rw [if_neg (by unfold lenR; omega), if_neg (by simp [hc1]), if_neg (by simp [hc2]), ← hM2, show size.toNat = k by omega]
                  rw [← hB2] at hI
                  exact ⟨_, rfl, rfl, hI⟩)
            · try simp only [cnd] at hc2
              refine WX.skip ?_
              refine Fin.then_normal ?_
              refine WX.seq ?_
              obtain ⟨s1, s2, s3⟩ := stepR_same M
              obtain ⟨M2, hM2⟩ : ∃ M2, M2 = (stepR M).2 := ⟨_, rfl⟩
              have h2 : RdI R0 M2 vs := hM2 ▸ h.step
              have hB2 : M2.B = M.B := hM2 ▸ s1
              have hF2 : M2.F = M.F := hM2 ▸ s2
              obtain ⟨k, hkz⟩ : ∃ k : Nat, size = (k : Int) := ⟨size.toNat, by omega⟩
              have hkl : k ≤ (nth M.B file.toNat).length := by omega
              have hkn : file.toNat < M.F.length := by rw [h.lenF]; exact hk
              rw [← hM2]
              rw [show M2 = ⟨M2.room, M2.B, M2.F, M2.off, M2.plan⟩ from rfl, hF2]
              dsimp only
              refine WX.draw rfl ?_
              refine WXL.move Met.none rfl ?_
              refine WXL.nilCheck Met.none rfl ?_
              first | refine WXL.fieldAddr Met.none rfl Try.underlying58 rfl sz22 rfl ?_ | refine WXL.faS Met.none rfl Try.underlying58 rfl sz22 ?_
              first | refine WXL.ld Met.none rfl agg22 ?_ | refine WXL.ldS Met.none rfl agg22 ?_
              refine WXL.move Met.none rfl ?_
              refine WXL.move Met.none rfl ?_
              refine WXL.nilCheck Met.none rfl ?_
              first | refine WXL.fieldAddr Met.none rfl Try.underlying58 rfl sz22 rfl ?_ | refine WXL.faS Met.none rfl Try.underlying58 rfl sz22 ?_
              first | refine WXL.ld Met.none rfl agg22 ?_ | refine WXL.ldS Met.none rfl agg22 ?_
              refine WXL.move Met.none rfl ?_
              first | refine WXL.ix Met.none rfl rfl elem22 sz27 ?_ | refine WXL.ixS Met.none rfl rfl elem22 sz27 ?_
              first | refine WXL.ld Met.none rfl agg27 ?_ (hv := hv) | refine WXL.ldS Met.none rfl agg27 ?_ (hv := hv)
              refine WXL.move Met.none rfl ?_
              refine WXL.pre (m := k) Met.none rfl rfl elem27 sz5 (Rowy.cons (Rowy.cons (Rowy.cons hrow))) hnil ?_
              first | refine WXL.ix Met.none rfl rfl elem22 sz27 ?_ | refine WXL.ixS Met.none rfl rfl elem22 sz27 ?_
              refine WXL.st (vs := [_]) (j := 1) Met.none rfl rfl rfl sz27 ?_ (hj := rfl) (hl := (by show file.toNat + 1 ≤ vs.length; rw [h.lenV]; omega)) (hc := (splice_one (by rw [h.lenV]; exact hk)))
              refine WXL.nil ?_
              refine Fin.then_normal ?_
              refine WX.seq ?_
              refine WX.draw rfl ?_
              refine WXL.move Met.none rfl ?_
              refine WXL.nilCheck Met.none rfl ?_
              first | refine WXL.fieldAddr Met.none rfl Try.underlying58 rfl sz33 rfl ?_ | refine WXL.faS Met.none rfl Try.underlying58 rfl sz33 ?_
              first | refine WXL.ld Met.none rfl agg33 ?_ | refine WXL.ldS Met.none rfl agg33 ?_
              refine WXL.move Met.none rfl ?_
              refine WXL.move Met.none rfl ?_
              refine WXL.nilCheck Met.none rfl ?_
              first | refine WXL.fieldAddr Met.none rfl Try.underlying58 rfl sz33 rfl ?_ | refine WXL.faS Met.none rfl Try.underlying58 rfl sz33 ?_
              first | refine WXL.ld Met.none rfl agg33 ?_ | refine WXL.ldS Met.none rfl agg33 ?_
              refine WXL.move Met.none rfl ?_
              first | refine WXL.ix Met.none rfl rfl elem33 sz3 ?_ | refine WXL.ixS Met.none rfl rfl elem33 sz3 ?_
              first | refine WXL.ld Met.none rfl agg3 ?_ (hv := (cell_map I _ file.toNat hkn)) | refine WXL.ldS Met.none rfl agg3 ?_ (hv := (cell_map I _ file.toNat hkn))
              refine WXL.move Met.none rfl ?_
              refine WXL.min Met.none rfl rfl ?_
              first | refine WXL.ix Met.none rfl rfl elem33 sz3 ?_ | refine WXL.ixS Met.none rfl rfl elem33 sz3 ?_
              refine WXL.st (vs := [_]) (j := 2) Met.none rfl rfl rfl sz3 ?_ (hj := rfl) (hl := (by rw [List.length_map, h.lenF]; show file.toNat + 1 ≤ 64; omega))
              refine WXL.nil ?_
              refine Fin.then_normal ?_
              refine WX.seq ?_
              refine WX.region rfl ?_
              refine WXL.assign Met.none rfl ?_
              refine WXL.nil ?_
              refine Fin.then_normal ?_
              refine WX.ret ?_
              first
              | exact Fin.result (O' := rdO r rb rf M vs R) (.inr rfl) rfl rfl drop_ (by unfold truncR; rw [if_pos (by unfold lenR; omega)]; exact ⟨vs, rfl, rfl, h⟩)
              | exact Fin.result (O' := rdO r rb rf M vs R) (.inr rfl) rfl rfl drop_ (by unfold truncR; rw [if_neg (by unfold lenR; omega), if_pos (by assumption)]; exact ⟨vs, rfl, rfl, h⟩)
              | exact Fin.result (O' := rdO r rb rf (stepR M).2 vs R) (.inr rfl) rfl rfl drop_ (by unfold truncR; rw [if_neg (by unfold lenR; omega), if_neg (by simp [hc1]), if_pos hc2]; exact ⟨vs, rfl, rfl, h.step⟩)
              | exact Fin.result (O' := rdO r rb rf ⟨M2.room, M2.B.set file.toNat ((nth M2.B file.toNat).take k), M2.F.set file.toNat (min (nth M2.F file.toNat) size), M2.off, M2.plan⟩ (vs.set file.toNat (.slice fa k k)) R) (.inr rfl) rfl rfl (fun _ hs => by rw [hF2]; exact hs) (by
                  have hlk : ((nth M.B file.toNat).take k).length = k := by rw [List.length_take]; omega
                  have hpre := hrow0.pre hkl
                  rw [Nat.mul_one, ← List.map_take] at hpre
                  have hvn : RowV R0 (.slice fa k k) ((nth M.B file.toNat).take k) := ⟨fa, k, by rw [hlk], by rw [hlk]; exact hpre, hpre.nil0, fun y hy => hB y (List.mem_of_mem_take hy)⟩
                  have hI : RdI R0 ⟨M2.room, M2.B.set file.toNat ((nth M.B file.toNat).take k), M2.F.set file.toNat (min (nth M2.F file.toNat) size), M2.off, M2.plan⟩ (vs.set file.toNat (.slice fa k k)) := h2.set hk hvn (by
                      have := h2.used
                      have h9 : lenR M2 file.toNat = ((nth M.B file.toNat).length : Nat) := by unfold lenR; rw [hB2]
                      rw [h9, hlk]
                      omega) (by rw [List.length_set]; exact h2.lenF) h2.plan (fun n hn => by
                    have h1 := h2.firm n hn
                    rw [nth_setE (by rw [h2.lenF]; exact hk), nth_setE (by rw [h2.lenB]; exact hk)]
                    by_cases q : n = file.toNat
                    · rw [if_pos q, if_pos q, hlk]
                      rw [q] at h1
                      omega
                    · rw [if_neg q, if_neg q]; exact h1)
                  unfold truncR
                  rw [if_neg (by unfold lenR; omega), if_neg (by simp [hc1]), if_neg (by simp [hc2]), ← hM2, show size.toNat = k by omega]
                  rw [← hB2] at hI
                  exact ⟨_, rfl, rfl, hI⟩)

end Go.Proofs.Ytahaplbdhgfobaa.Eng

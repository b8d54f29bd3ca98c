/- The reference's hash. Own work; no condition. | The reference's hash and frames. Own work; no condition. | The reference's frames. Own work; no condition. | The reference's reader: numbers. Own work; no condition. | The reference's reader: byte slices. Own work; no condition. | The reference's first record. Own work; no condition. | The reference's Scan. Own work; no condition. | Few, Records and the comparison of lists. Own work; no condition. | Records out of numbers. Own work; no condition. | The section's examples. Own work; no condition. | One byte turned turns the hash, in plain lists. Own work; no condition. | A frame with a bit turned is no frame, in plain lists. Own work; no condition. | The law JournalFrames, walked. Own work; no condition. | The law JournalDetects, walked. Own work; no condition. -/
import Derived.Test.YthekokdpplobhaaJournalDetectsM1
import Derived.Test.YthekokdpplobhaaJournalDetectsM2
import Derived.Test.YthekokdpplobhaaJournalDetectsM3
set_option linter.unusedVariables false
set_option linter.unusedSimpArgs false
namespace Go.Proofs.Ythekokdpplobhaa.Eng

theorem leW_lt {l : List Int} {k : Nat} (h : Bytes l) (hl : l.length ≤ k) : 0 ≤ leW l ∧ leW l < 256 ^ k := by
  obtain ⟨h1, h2⟩ := leW_range h
  refine ⟨h1, Int.lt_of_lt_of_le h2 ?_⟩
  have := Nat.pow_le_pow_right (n := 256) (by decide) hl
  have e : ∀ n : Nat, (256 : Int) ^ n = ((256 ^ n : Nat) : Int) := fun n => by rw [Int.natCast_pow]; rfl
  rw [e, e]
  exact Int.ofNat_le.2 this

theorem refWords_ok (O : Objs) (b : List Int) (a : Option Addr) (c : Nat) (hB : Bytes b) (hlen : b.length ≤ 1000000000000) (hl : Src O 1 (.slice a b.length c) b.length (b.map B8)) :
    Spec Try.prog false 63 #[.slice a b.length c] O fun v O' => ∃ a' c' G, v = .slice a' (wordsOf b).length c' ∧ Grow 1 a' (wordsOf b).length c' ((wordsOf b).map U) G ∧ O' = G ++ O := by
  have hwl := wordsOf_len b
  refine Spec.enter (args := [_]) (m := 37) Try.func63 rfl rfl (by decide +kernel) fun h0 => ?_
  refine WX.seq ?_
  refine WX.region rfl ?_
  refine WXL.assign Met.none rfl ?_
  refine WXL.nil ?_
  refine Fin.then_normal ?_
  refine WX.seq ?_
  refine WX.region rfl ?_
  refine WXL.assign Met.none rfl ?_
  refine WXL.nil ?_
  refine Fin.then_normal ?_
  refine WX.seq ?_
  refine WX.seq ?_
  refine WX.region rfl ?_
  refine WXL.assign Met.none rfl ?_
  refine WXL.nil ?_
  refine Fin.then_normal ?_
  refine WX.block ?_
  refine WX.loop (fun q : Nat × Option Addr × Nat × Objs => [(0, .slice a b.length c), (3, .slice q.2.1 q.1 q.2.2.1), (4, I ((8 * q.1 : Nat) : Int))]) (fun q => q.2.2.2 ++ O) (fun q => q.1 ≤ (wordsOf b).length ∧ Grow 1 q.2.1 q.1 q.2.2.1 (((wordsOf b).take q.1).map U) q.2.2.2) (fun q => (wordsOf b).length - q.1) (0, none, 0, []) ⟨Nat.zero_le _, .nil⟩ (fun s hs => hs.tl [] 0) (fun q hq => ?_)
  obtain ⟨k, aw, cw, G⟩ := q
  obtain ⟨hk, hG⟩ := hq
  simp only at hk hG
  dsimp only
  refine WX.seq ?_
  refine WX.seq ?_
  refine WX.region rfl ?_
  refine WXL.move Met.none rfl ?_
  refine WXL.move Met.none rfl ?_
  refine WXL.len Met.none rfl Try.underlying23 ?_
  refine WXL.bin Met.none rfl rfl rfl ?_
  refine WXL.nil ?_
  refine Fin.then_normal ?_
  refine WX.cond rfl (fun hc0 => ?_) (fun hc0 => ?_)
  · try simp only [cnd] at hc0
    refine WX.skip ?_
    refine Fin.then_normal ?_
    refine WX.seq ?_
    refine WX.block ?_
    refine WX.seq ?_
    have hkl : 8 * k < b.length := by omega
    have hk1 : k < (wordsOf b).length := by omega
    obtain ⟨seg, hseg⟩ : ∃ seg, seg = (b.drop (8 * k)).take 8 := ⟨_, rfl⟩
    have hsl : seg.length = min 8 (b.length - 8 * k) := by rw [hseg, List.length_take, List.length_drop]
    have hsB : Bytes seg := fun z hz => hB z (List.mem_of_mem_drop (List.mem_of_mem_take (hseg ▸ hz)))
    have hw : nth (wordsOf b) k = leW seg := by rw [wordsOf_nth b k hkl, hseg]
    refine WX.region rfl ?_
    refine WXL.assign Met.none rfl ?_
    refine WXL.nil ?_
    refine Fin.then_normal ?_
    refine WX.seq ?_
    refine WX.seq ?_
    refine WX.region rfl ?_
    refine WXL.move Met.none rfl ?_
    refine WXL.bin Met.none rfl rfl bvA ?_
    refine WXL.move Met.none rfl ?_
    refine WXL.len Met.none rfl Try.underlying23 ?_
    refine WXL.min Met.none rfl rfl ?_
    refine WXL.bin Met.none rfl rfl bvS ?_
    refine WXL.assign Met.none rfl ?_
    refine WXL.nil ?_
    refine Fin.then_normal ?_
    refine WX.block ?_
    refine WX.loop (fun j : Nat => [(0, .slice a b.length c), (3, .slice aw k cw), (4, I ((8 * k : Nat) : Int)), (5, U (leW (seg.drop j))), (6, I (((8 * k + j : Nat) : Int) - 1))]) (fun _ => G ++ O) (fun j => j ≤ seg.length) (fun j => j) seg.length (Nat.le_refl _) ?_ (fun j hj => ?_)
    · rw [List.drop_length, show (((8 * k + seg.length : Nat) : Int) - 1) = min (((8 * k : Nat) : Int) + 8) (b.length : Int) - 1 from by omega]
      exact (fun s hs => hs.tl [] 0)
    refine WX.seq ?_
    refine WX.seq ?_
    refine WX.region rfl ?_
    refine WXL.move Met.none rfl ?_
    refine WXL.move Met.none rfl ?_
    refine WXL.bin Met.none rfl rfl rfl ?_
    refine WXL.nil ?_
    refine Fin.then_normal ?_
    refine WX.cond rfl (fun hc1 => ?_) (fun hc1 => ?_)
    · try simp only [cnd] at hc1
      refine WX.skip ?_
      refine Fin.then_normal ?_
      refine WX.seq ?_
      refine WX.block ?_
      obtain ⟨j', rfl⟩ : ∃ j', j = j' + 1 := ⟨j - 1, by omega⟩
      rw [show (((8 * k + (j' + 1) : Nat) : Int) - 1) = ((8 * k + j' : Nat) : Int) from by omega]
      have hjl : 8 * k + j' < b.length := by omega
      have hbj := hB _ (nth_mem hjl)
      have hd : seg.drop j' = nth b (8 * k + j') :: seg.drop (j' + 1) := by
        rw [List.drop_eq_getElem_cons (show j' < seg.length by omega)]
        congr 1
        rw [nth_get hjl]
        simp [hseg]
      have hr7 := leW_lt (k := 7) (l := seg.drop (j' + 1)) (fun z hz => hsB z (List.mem_of_mem_drop hz)) (by rw [List.length_drop]; omega)
      have hnx : leW (seg.drop j') = nth b (8 * k + j') + 256 * leW (seg.drop (j' + 1)) := by rw [hd]; rfl
      refine WX.region rfl ?_
      refine WXL.move Met.none rfl ?_
      refine WXL.bin Met.none rfl rfl (congrArg (fun n => some (U n)) (wrap_u64 (by omega) (by omega))) ?_
      refine WXL.move Met.none rfl ?_
      refine WXL.move Met.none rfl ?_
      first | refine WXL.ix Met.none rfl rfl elem23 sz5 ?_ | refine WXL.ixS Met.none rfl rfl elem23 sz5 ?_
      first | refine WXL.ld Met.none rfl agg5 ?_ | refine WXL.ldS Met.none rfl agg5 ?_
      refine WXL.conv Met.none rfl Try.underlying5 Try.underlying42 cv_ ?_
      refine WXL.bin Met.none rfl rfl (show _ = some (U (leW (seg.drop j'))) from congrArg (fun n => some (U n)) ((wrap_u64 (by omega) (by omega)).trans (by omega))) ?_
      refine WXL.assign Met.none rfl ?_
      refine WXL.nil ?_
      refine Fin.block_normal ?_
      refine Fin.then_normal ?_
      refine WX.region rfl ?_
      refine WXL.move Met.none rfl ?_
      refine WXL.bin Met.none rfl rfl bvS ?_
      refine WXL.assign Met.none rfl ?_
      refine WXL.nil ?_
      exact Fin.loop_next j' (by omega) (by omega) (fun s hs => hs.tl [] 0)
    · try simp only [cnd] at hc1
      refine WX.exit ?_
      refine Fin.then_exit ?_
      refine Fin.loop_exit ?_
      refine Fin.block_hit rfl ?_
      refine Fin.then_normal ?_
      have hj0 : j = 0 := by omega
      subst hj0
      rw [List.drop_zero, ← hw]
      refine WX.region rfl ?_
      refine WXL.move Met.none rfl ?_
      refine WXL.move Met.none rfl ?_
      refine WXL.buildSlice (c := [_]) Met.none rfl elem101 sz42 zero42 (by decide) (by decide) rfl rfl rfl rfl (fun b34 => ?_)
      refine WXL.apG [_] Met.none rfl rfl isrow101 elem101 sz42 by42 zero42 (Src.lit (cs := [_])) (fun a35 c35 G35 hG35 => ?_)
      refine WXL.assign Met.none rfl ?_
      refine WXL.nil ?_
      refine Fin.block_normal ?_
      refine Fin.then_normal ?_
      refine WX.region rfl ?_
      refine WXL.move Met.none rfl ?_
      refine WXL.bin Met.none rfl rfl bvA ?_
      refine WXL.assign Met.none rfl ?_
      refine WXL.nil ?_
      refine Fin.loop_next (k + 1, a35, c35, G35) ⟨by simp only; omega, ?_⟩ (by simp only; omega) (fun s hs => hs.tl [] 1)
      rw [take_succ_nth hk1, List.map_append]
      exact hG35
  · try simp only [cnd] at hc0
    refine WX.exit ?_
    refine Fin.then_exit ?_
    refine Fin.loop_exit ?_
    refine Fin.block_hit rfl ?_
    refine Fin.then_normal ?_
    refine WX.seq ?_
    refine WX.region rfl ?_
    refine WXL.move Met.none rfl ?_
    refine WXL.assign Met.none rfl ?_
    refine WXL.nil ?_
    refine Fin.then_normal ?_
    refine WX.ret ?_
    have hkk : k = (wordsOf b).length := by omega
    subst hkk
    rw [List.take_length] at hG
    exact Fin.result (O' := G ++ O) (.inr rfl) rfl rfl drop_ ⟨aw, cw, G, rfl, hG, rfl⟩

end Go.Proofs.Ythekokdpplobhaa.Eng

set_option linter.unusedVariables false
set_option linter.unusedSimpArgs false
namespace Go.Proofs.Ythekokdpplobhaa.Eng

theorem refSum_ok (O : Objs) (label l : List Int) (a : Option Addr) (c : Nat) (hB : Bytes label) (hll : label.length ≤ 1000000000000) (hlen : l.length ≤ 1000000000000) (hl : Src O 1 (.slice a l.length c) l.length (l.map I)) :
    Spec Try.prog false 64 #[.string (bstr label), .slice a l.length c] O fun v O' => v = U (sumU label l) ∧ O' = O := by
  have hwl := wordsOf_len label
  refine Spec.enter (args := [_, _]) (m := 49) Try.func64 rfl rfl (by decide +kernel) fun h0 => ?_
  refine WX.seq ?_
  refine WX.region rfl ?_
  refine WXL.assign Met.none rfl ?_
  refine WXL.nil ?_
  refine Fin.then_normal ?_
  refine WX.seq ?_
  refine WX.region rfl ?_
  refine WXL.assign Met.none rfl ?_
  refine WXL.nil ?_
  refine Fin.then_normal ?_
  refine WX.seq ?_
  refine WX.region rfl ?_
  refine WXL.move Met.none rfl ?_
  refine WXL.toBytes Met.none rfl Try.underlying9 Try.underlying23 Try.underlying5 (by assumption) (fun b10 => ?_)
  refine WXL.cl (O1 := _) Met.none rfl (fnOk_of Try.func63 (by decide +kernel)) rfl (fun _ h => h) (refWords_ok _ label _ _ hB hll ((Grow.row (sz := 1) (b := b10) (n := label.length) (c := label.length) (cs := label.map B8) (by simp)).src (R := O))) (fun v O' hp => ?_)
  obtain ⟨aw, cw, Gw, rfl, hGw, rfl⟩ := hp
  have hsw := hGw.src (R := (b10, ⟨1, false, label.map B8⟩) :: O)
  refine WXL.assign Met.none rfl ?_
  refine WXL.nil ?_
  refine Fin.then_normal ?_
  refine WX.seq ?_
  refine WX.seq ?_
  refine WX.region rfl ?_
  refine WXL.assign Met.none rfl ?_
  refine WXL.nil ?_
  refine Fin.then_normal ?_
  refine WX.block ?_
  refine WX.loop (fun k : Nat => [(0, .string (bstr label)), (1, .slice a l.length c), (5, U (((wordsOf label).take k).foldl mixU 0)), (6, .slice aw (wordsOf label).length cw), (7, I (k : Int))]) (fun _ => Gw ++ ((b10, ⟨1, false, label.map B8⟩) :: O)) (fun k => k ≤ (wordsOf label).length) (fun k => (wordsOf label).length - k) 0 (Nat.zero_le _) (fun s hs => hs.tl [] 0) (fun k hk => ?_)
  refine WX.seq ?_
  refine WX.seq ?_
  refine WX.region rfl ?_
  refine WXL.move Met.none rfl ?_
  refine WXL.move Met.none rfl ?_
  refine WXL.len Met.none rfl Try.underlying101 ?_
  refine WXL.bin Met.none rfl rfl rfl ?_
  refine WXL.nil ?_
  refine Fin.then_normal ?_
  refine WX.cond rfl (fun hc0 => ?_) (fun hc0 => ?_)
  · try simp only [cnd] at hc0
    refine WX.skip ?_
    refine Fin.then_normal ?_
    refine WX.seq ?_
    refine WX.block ?_
    refine WX.region rfl ?_
    refine WXL.move Met.none rfl ?_
    refine WXL.move Met.none rfl ?_
    refine WXL.move Met.none rfl ?_
    first | refine WXL.ix Met.none rfl rfl elem101 sz42 ?_ | refine WXL.ixS Met.none rfl rfl elem101 sz42 ?_
    first | refine WXL.ld Met.none rfl agg42 ?_ | refine WXL.ldS Met.none rfl agg42 ?_
    refine WXL.cl (O1 := _) Met.none rfl (fnOk_of Try.func76 (by decide +kernel)) rfl (fun _ h => h) (refMix_ok _ (((wordsOf label).take k).foldl mixU 0) (nth (wordsOf label) k)) (fun v O' hp => ?_)
    obtain ⟨rfl, hO⟩ := hp
    subst O'
    refine WXL.assign Met.none rfl ?_
    refine WXL.nil ?_
    refine Fin.block_normal ?_
    refine Fin.then_normal ?_
    refine WX.region rfl ?_
    refine WXL.move Met.none rfl ?_
    refine WXL.bin Met.none rfl rfl bvA ?_
    refine WXL.assign Met.none rfl ?_
    refine WXL.nil ?_
    refine Fin.loop_next (k + 1) (by omega) (by omega) ?_
    rw [take_succ_nth (by omega), List.foldl_append]
    exact (fun s hs => hs.tl [] 0)
  · try simp only [cnd] at hc0
    refine WX.exit ?_
    refine Fin.then_exit ?_
    refine Fin.loop_exit ?_
    refine Fin.block_hit rfl ?_
    refine Fin.then_normal ?_
    refine WX.seq ?_
    have hkw : k = (wordsOf label).length := by omega
    subst hkw
    rw [List.take_length]
    obtain ⟨s0, hs0⟩ : ∃ s0, s0 = mixU (mixU ((wordsOf label).foldl mixU 0) label.length) l.length := ⟨_, rfl⟩
    refine WX.region rfl ?_
    refine WXL.move Met.none rfl ?_
    refine WXL.move Met.none rfl ?_
    refine WXL.lenS Met.none rfl Try.underlying9 ?_
    rw [bstr_size]
    refine WXL.conv Met.none rfl Try.underlying3 Try.underlying42 cv_ ?_
    refine WXL.cl (O1 := _) Met.none rfl (fnOk_of Try.func76 (by decide +kernel)) rfl (fun _ h => h) (refMix_ok _ ((wordsOf label).foldl mixU 0) (label.length : Int)) (fun v O' hp => ?_)
    obtain ⟨rfl, hO⟩ := hp
    subst O'
    refine WXL.assign Met.none rfl ?_
    refine WXL.nil ?_
    refine Fin.then_normal ?_
    refine WX.seq ?_
    refine WX.region rfl ?_
    refine WXL.move Met.none rfl ?_
    refine WXL.move Met.none rfl ?_
    refine WXL.len Met.none rfl Try.underlying22 ?_
    refine WXL.conv Met.none rfl Try.underlying3 Try.underlying42 cv_ ?_
    refine WXL.cl (O1 := _) Met.none rfl (fnOk_of Try.func76 (by decide +kernel)) rfl (fun _ h => h) (refMix_ok _ (mixU ((wordsOf label).foldl mixU 0) label.length) (l.length : Int)) (fun v O' hp => ?_)
    obtain ⟨rfl, hO⟩ := hp
    subst O'
    refine WXL.assign Met.none rfl ?_
    refine WXL.nil ?_
    refine Fin.then_normal ?_
    refine WX.seq ?_
    refine WX.seq ?_
    refine WX.re (O' := O) ?_
    refine WX.region rfl ?_
    refine WXL.assign Met.none rfl ?_
    refine WXL.nil ?_
    refine Fin.then_normal ?_
    refine WX.block ?_
    refine WX.loop (fun k : Nat => [(1, .slice a l.length c), (5, U ((l.take k).foldl (fun s n => mixU s (IntKind.wrap .u64 n)) s0)), (8, I (k : Int))]) (fun _ => O) (fun k => k ≤ l.length) (fun k => l.length - k) 0 (Nat.zero_le _) ?_ (fun k hk => ?_)
    · rw [hs0]
      exact (fun s hs => hs.tl [] 0)
    refine WX.seq ?_
    refine WX.seq ?_
    refine WX.region rfl ?_
    refine WXL.move Met.none rfl ?_
    refine WXL.move Met.none rfl ?_
    refine WXL.len Met.none rfl Try.underlying22 ?_
    refine WXL.bin Met.none rfl rfl rfl ?_
    refine WXL.nil ?_
    refine Fin.then_normal ?_
    refine WX.cond rfl (fun hc1 => ?_) (fun hc1 => ?_)
    · try simp only [cnd] at hc1
      refine WX.skip ?_
      refine Fin.then_normal ?_
      refine WX.seq ?_
      refine WX.block ?_
      refine WX.region rfl ?_
      refine WXL.move Met.none rfl ?_
      refine WXL.move Met.none rfl ?_
      refine WXL.move Met.none rfl ?_
      first | refine WXL.ix Met.none rfl rfl elem22 sz3 ?_ | refine WXL.ixS Met.none rfl rfl elem22 sz3 ?_
      first | refine WXL.ld Met.none rfl agg3 ?_ | refine WXL.ldS Met.none rfl agg3 ?_
      refine WXL.conv Met.none rfl Try.underlying3 Try.underlying42 rfl ?_
      refine WXL.cl (O1 := _) Met.none rfl (fnOk_of Try.func76 (by decide +kernel)) rfl (fun _ h => h) (refMix_ok _ ((l.take k).foldl (fun s n => mixU s (IntKind.wrap .u64 n)) s0) (IntKind.wrap .u64 (nth l k))) (fun v O' hp => ?_)
      obtain ⟨rfl, hO⟩ := hp
      subst O'
      refine WXL.assign Met.none rfl ?_
      refine WXL.nil ?_
      refine Fin.block_normal ?_
      refine Fin.then_normal ?_
      refine WX.region rfl ?_
      refine WXL.move Met.none rfl ?_
      refine WXL.bin Met.none rfl rfl bvA ?_
      refine WXL.assign Met.none rfl ?_
      refine WXL.nil ?_
      refine Fin.loop_next (k + 1) (by omega) (by omega) ?_
      rw [take_succ_nth (by omega), List.foldl_append]
      exact (fun s hs => hs.tl [] 0)
    · try simp only [cnd] at hc1
      refine WX.exit ?_
      refine Fin.then_exit ?_
      refine Fin.loop_exit ?_
      refine Fin.block_hit rfl ?_
      refine Fin.then_normal ?_
      refine WX.seq ?_
      have hkl : k = l.length := by omega
      subst hkl
      rw [List.take_length]
      refine WX.region rfl ?_
      refine WXL.move Met.none rfl ?_
      refine WXL.cl (O1 := _) Met.none rfl (fnOk_of Try.func76 (by decide +kernel)) rfl (fun _ h => h) (refMix_ok _ (l.foldl (fun s n => mixU s (IntKind.wrap .u64 n)) s0) 0) (fun v O' hp => ?_)
      obtain ⟨rfl, hO⟩ := hp
      subst O'
      refine WXL.assign Met.none rfl ?_
      refine WXL.nil ?_
      refine Fin.then_normal ?_
      refine WX.ret ?_
      exact Fin.result (O' := O) (.inr rfl) rfl rfl drop_ ⟨by rw [hs0]; rfl, rfl⟩

end Go.Proofs.Ythekokdpplobhaa.Eng

set_option linter.unusedVariables false
set_option linter.unusedSimpArgs false
namespace Go.Proofs.Ythekokdpplobhaa.Eng

theorem refHash_ok (O : Objs) (label b : List Int) (a : Option Addr) (c : Nat) (hB : Bytes label) (hb : Bytes b) (hll : label.length ≤ 1000000000000) (hlen : b.length ≤ 1000000000000) (hl : Src O 1 (.slice a b.length c) b.length (b.map B8)) :
    Spec Try.prog false 41 #[.string (bstr label), .slice a b.length c] O fun v O' => v = U (hashB label b) ∧ O' = O := by
  have hwl := wordsOf_len b
  refine Spec.enter (args := [_, _]) (m := 31) Try.func41 rfl rfl (by decide +kernel) fun h0 => ?_
  refine WX.seq ?_
  refine WX.region rfl ?_
  refine WXL.assign Met.none rfl ?_
  refine WXL.nil ?_
  refine Fin.then_normal ?_
  refine WX.seq ?_
  refine WX.region rfl ?_
  refine WXL.move Met.none rfl ?_
  refine WXL.cl (O1 := _) Met.none rfl (fnOk_of Try.func63 (by decide +kernel)) rfl (fun _ h => h) (refWords_ok _ b _ _ hb hlen hl) (fun v O' hp => ?_)
  obtain ⟨aw, cw, Gw, rfl, hGw, rfl⟩ := hp
  refine WXL.assign Met.none rfl ?_
  refine WXL.nil ?_
  refine Fin.then_normal ?_
  refine WX.seq ?_
  refine WX.region rfl ?_
  refine WXL.assign Met.none rfl ?_
  refine WXL.nil ?_
  refine Fin.then_normal ?_
  refine WX.seq ?_
  refine WX.seq ?_
  refine WX.region rfl ?_
  refine WXL.assign Met.none rfl ?_
  refine WXL.nil ?_
  refine Fin.then_normal ?_
  refine WX.block ?_
  refine WX.loop (fun q : Nat × Option Addr × Nat × Objs => [(0, .string (bstr label)), (1, .slice a b.length c), (5, .slice aw (wordsOf b).length cw), (6, .slice q.2.1 q.1 q.2.2.1), (7, I (q.1 : Int))]) (fun q => q.2.2.2 ++ (Gw ++ O)) (fun q => q.1 ≤ (wordsOf b).length ∧ Grow 1 q.2.1 q.1 q.2.2.1 (((wordsOf b).take q.1).map fun w => I (asI w)) q.2.2.2) (fun q => (wordsOf b).length - q.1) (0, none, 0, []) ⟨Nat.zero_le _, .nil⟩ (fun s hs => hs.tl [] 0) (fun q hq => ?_)
  obtain ⟨k, al, cl, Gl⟩ := q
  obtain ⟨hk, hGl⟩ := hq
  simp only at hk hGl
  dsimp only
  have hsw : Src (Gl ++ (Gw ++ O)) 1 (.slice aw (wordsOf b).length cw) (wordsOf b).length ((wordsOf b).map U) := Src.app hGw.src
  refine WX.seq ?_
  refine WX.seq ?_
  refine WX.region rfl ?_
  refine WXL.move Met.none rfl ?_
  refine WXL.move Met.none rfl ?_
  refine WXL.len Met.none rfl Try.underlying101 ?_
  refine WXL.bin Met.none rfl rfl rfl ?_
  refine WXL.nil ?_
  refine Fin.then_normal ?_
  refine WX.cond rfl (fun hc0 => ?_) (fun hc0 => ?_)
  · try simp only [cnd] at hc0
    refine WX.skip ?_
    refine Fin.then_normal ?_
    refine WX.seq ?_
    refine WX.block ?_
    refine WX.region rfl ?_
    refine WXL.move Met.none rfl ?_
    refine WXL.move Met.none rfl ?_
    refine WXL.move Met.none rfl ?_
    first | refine WXL.ix Met.none rfl rfl elem101 sz42 ?_ | refine WXL.ixS Met.none rfl rfl elem101 sz42 ?_
    first | refine WXL.ld Met.none rfl agg42 ?_ | refine WXL.ldS Met.none rfl agg42 ?_
    refine WXL.conv Met.none rfl Try.underlying42 Try.underlying3 rfl ?_
    refine WXL.buildSlice (c := [_]) Met.none rfl elem22 sz3 zero3 (by decide) (by decide) rfl rfl rfl rfl (fun b22 => ?_)
    refine WXL.apG [_] Met.none rfl rfl isrow22 elem22 sz3 by3 zero3 (Src.lit (cs := [_])) (fun a23 c23 G23 hG23 => ?_)
    refine WXL.assign Met.none rfl ?_
    refine WXL.nil ?_
    refine Fin.block_normal ?_
    refine Fin.then_normal ?_
    refine WX.region rfl ?_
    refine WXL.move Met.none rfl ?_
    refine WXL.bin Met.none rfl rfl bvA ?_
    refine WXL.assign Met.none rfl ?_
    refine WXL.nil ?_
    refine Fin.loop_next (k + 1, a23, c23, G23) ⟨by simp only; omega, ?_⟩ (by simp only; omega) (fun s hs => hs.tl [] 1)
    rw [take_succ_nth (by omega), List.map_append]
    exact hG23
  · try simp only [cnd] at hc0
    refine WX.exit ?_
    refine Fin.then_exit ?_
    refine Fin.loop_exit ?_
    refine Fin.block_hit rfl ?_
    refine Fin.then_normal ?_
    refine WX.seq ?_
    have hkk : k = (wordsOf b).length := by omega
    subst hkk
    rw [List.take_length] at hGl
    refine WX.region rfl ?_
    refine WXL.move Met.none rfl ?_
    refine WXL.move Met.none rfl ?_
    refine WXL.move Met.none rfl ?_
    refine WXL.len Met.none rfl Try.underlying23 ?_
    refine WXL.buildSlice (c := [_]) Met.none rfl elem22 sz3 zero3 (by decide) (by decide) rfl rfl rfl rfl (fun b28 => ?_)
    refine WXL.apG [_] Met.none rfl rfl isrow22 elem22 sz3 by3 zero3 (Src.lit (cs := [_])) (fun a29 c29 G29 hG29 => ?_)
    rw [show (wordsOf b).length + 1 = ((wordsOf b).map asI ++ [(b.length : Int)]).length from by simp]
    refine WXL.cl (O1 := _) Met.none rfl (fnOk_of Try.func64 (by decide +kernel)) rfl (fun _ h => h) (refSum_ok _ label ((wordsOf b).map asI ++ [(b.length : Int)]) a29 c29 hB hll (by rw [List.length_append, List.length_map, List.length_singleton]; omega) (Src.cons (by have := hG29.src (R := Gw ++ O); simpa [Function.comp_def] using this))) (fun v O' hp => ?_)
    obtain ⟨rfl, hO⟩ := hp
    subst O'
    refine WXL.assign Met.none rfl ?_
    refine WXL.nil ?_
    refine Fin.then_normal ?_
    refine WX.ret ?_
    exact Fin.result (O' := O) (.inr rfl) rfl rfl sub_ ⟨rfl, rfl⟩

theorem refInt_ok (O : Objs) (n : Int) (hn : In64 n) :
    Spec Try.prog false 62 #[I n] O fun v O' => ∃ a c G, v = .slice a (varU (zigU n).toNat).length c ∧ Grow 1 a (varU (zigU n).toNat).length c ((varU (zigU n).toNat).map B8) G ∧ O' = G ++ O := by
  have hz := zigU_range hn
  have hz2 : U (zigU n) = U (((zigU n).toNat : Nat) : Int) := by unfold InU at hz; rw [Int.toNat_of_nonneg hz.1]
  unfold InU at hz
  refine Spec.enter (args := [_]) (m := 6) Try.func62 rfl rfl (by decide +kernel) fun h0 => ?_
  refine WX.seq ?_
  refine WX.region rfl ?_
  refine WXL.assign Met.none rfl ?_
  refine WXL.nil ?_
  refine Fin.then_normal ?_
  refine WX.seq ?_
  refine WX.region rfl ?_
  refine WXL.move Met.none rfl ?_
  refine WXL.cl (O1 := _) Met.none rfl (fnOk_of Try.func75 (by decide +kernel)) rfl (fun _ h => h) (refZig_ok _ n hn) (fun v O' hp => ?_)
  obtain ⟨rfl, hO⟩ := hp
  subst O'
  rw [hz2]
  refine WXL.cl (O1 := _) Met.none rfl (fnOk_of Try.func40 (by decide +kernel)) rfl (fun _ h => h) (refUint_ok _ (zigU n).toNat (by omega)) (fun v O' hp => ?_)
  obtain ⟨a, c, G, rfl, hG, rfl⟩ := hp
  refine WXL.assign Met.none rfl ?_
  refine WXL.nil ?_
  refine Fin.then_normal ?_
  refine WX.ret ?_
  exact Fin.result (O' := G ++ O) (.inr rfl) rfl rfl (fun _ hs => hs) ⟨a, c, G, rfl, hG, rfl⟩

theorem refRaw_ok (O : Objs) (s : List Int) (as_ : Option Addr) (cs : Nat) (hsl : s.length ≤ 1000000000) (hsrc : Src O 1 (.slice as_ s.length cs) s.length (s.map B8)) :
    Spec Try.prog false 39 #[.slice as_ s.length cs] O fun v O' => ∃ a c G, v = .slice a (rawB s).length c ∧ Grow 1 a (rawB s).length c ((rawB s).map B8) G ∧ O' = G ++ O := by
  have hlen : (varU s.length).length ≤ 10 := varU_len (k := 9) (by omega)
  refine Spec.enter (args := [_]) (m := 9) Try.func39 rfl rfl (by decide +kernel) fun h0 => ?_
  refine WX.seq ?_
  refine WX.region rfl ?_
  refine WXL.assign Met.none rfl ?_
  refine WXL.nil ?_
  refine Fin.then_normal ?_
  refine WX.seq ?_
  refine WX.region rfl ?_
  refine WXL.move Met.none rfl ?_
  refine WXL.len Met.none rfl Try.underlying23 ?_
  refine WXL.conv Met.none rfl Try.underlying3 Try.underlying42 cv_ ?_
  refine WXL.cl (O1 := _) Met.none rfl (fnOk_of Try.func40 (by decide +kernel)) rfl (fun _ h => h) (refUint_ok _ s.length (by omega)) (fun v O' hp => ?_)
  obtain ⟨a1, c1, G1, rfl, hG1, rfl⟩ := hp
  refine WXL.move Met.none rfl ?_
  refine WXL.apG ([]) Met.none rfl rfl isrow23 elem23 sz5 by5 zero5 src_ (fun a8 c8 G8 hG8 => ?_) (hm := (by rw [List.length_map]; omega))
  refine WXL.assign Met.none rfl ?_
  refine WXL.nil ?_
  refine Fin.then_normal ?_
  refine WX.ret ?_
  refine Fin.result (O' := G8 ++ O) (.inr rfl) rfl rfl (fun _ hs => hs) ⟨a8, c8, G8, ?_, ?_, rfl⟩
  · rw [show (rawB s).length = (varU s.length).length + s.length from List.length_append]; rfl
  · rw [show (rawB s).length = (varU s.length).length + s.length from List.length_append, show (rawB s).map B8 = _ from List.map_append]; exact hG8

theorem refCore_ok (O : Objs) (n : Int) (s : List Int) (as_ : Option Addr) (cs : Nat) (hn : In64 n) (hsl : s.length ≤ 100000) (hsrc : Src O 1 (.slice as_ s.length cs) s.length (s.map B8)) :
    Spec Try.prog false 38 #[I n, .slice as_ s.length cs] O fun v O' => ∃ a c G R, v = .slice a (coreB n s).length c ∧ Grow 1 a (coreB n s).length c ((coreB n s).map B8) G ∧ O' = G ++ (R ++ O) := by
  have hz := zigU_range hn
  unfold InU at hz
  have hlen : (varU (zigU n).toNat).length ≤ 10 := varU_len (k := 9) (by omega)
  have hrl := rawB_len (b := s) (by omega)
  refine Spec.enter (args := [_, _]) (m := 12) Try.func38 rfl rfl (by decide +kernel) fun h0 => ?_
  refine WX.seq ?_
  refine WX.region rfl ?_
  refine WXL.assign Met.none rfl ?_
  refine WXL.nil ?_
  refine Fin.then_normal ?_
  refine WX.seq ?_
  refine WX.region rfl ?_
  refine WXL.move Met.none rfl ?_
  refine WXL.cl (O1 := _) Met.none rfl (fnOk_of Try.func62 (by decide +kernel)) rfl (fun _ h => h) (refInt_ok _ n hn) (fun v O' hp => ?_)
  obtain ⟨a1, c1, G1, rfl, hG1, rfl⟩ := hp
  refine WXL.assign Met.none rfl ?_
  refine WXL.nil ?_
  refine Fin.then_normal ?_
  refine WX.seq ?_
  refine WX.region rfl ?_
  refine WXL.move Met.none rfl ?_
  refine WXL.move Met.none rfl ?_
  refine WXL.cl (O1 := _) Met.none rfl (fnOk_of Try.func39 (by decide +kernel)) rfl (fun _ h => h) (refRaw_ok _ s as_ cs (by omega) hsrc.app) (fun v O' hp => ?_)
  obtain ⟨a2, c2, G2, rfl, hG2, rfl⟩ := hp
  refine WXL.apG (G2) Met.none rfl rfl isrow23 elem23 sz5 by5 zero5 src_ (fun a11 c11 G11 hG11 => ?_) (hm := (by rw [List.length_map]; omega))
  refine WXL.assign Met.none rfl ?_
  refine WXL.nil ?_
  refine Fin.then_normal ?_
  refine WX.ret ?_
  refine Fin.result (O' := G11 ++ (G2 ++ O)) (.inr rfl) rfl rfl sub_ ⟨a11, c11, G11, G2, ?_, ?_, rfl⟩
  · rw [show (coreB n s).length = (varU (zigU n).toNat).length + (rawB s).length from List.length_append]; rfl
  · rw [show (coreB n s).length = (varU (zigU n).toNat).length + (rawB s).length from List.length_append, show (coreB n s).map B8 = _ from List.map_append]; exact hG11

theorem refFrame_ok (O : Objs) (n : Int) (b : List Int) (a : Option Addr) (c : Nat) (hn : In64 n) (hb : Bytes b) (hlen : b.length ≤ 100000) (hl : Src O 1 (.slice a b.length c) b.length (b.map B8)) :
    Spec Try.prog false 13 #[I n, .slice a b.length c] O fun v O' => ∃ a' c' G, v = .slice a' (frameB n b).length c' ∧ Grow 1 a' (frameB n b).length c' ((frameB n b).map B8) G ∧ O' = G ++ O := by
  have hcl := coreB_len hn (b := b) (by omega)
  have hcb := coreB_bytes (n := n) hb
  have hhr := hashB_range lblF (coreB n b)
  have hrl := rawB_len (b := coreB n b) (by omega)
  have hvl : (varU (hashB lblF (coreB n b)).toNat).length ≤ 10 := varU_len (k := 9) (by unfold InU at hhr; omega)
  refine Spec.enter (args := [_, _]) (m := 17) Try.func13 rfl rfl (by decide +kernel) fun h0 => ?_
  refine WX.seq ?_
  refine WX.region rfl ?_
  refine WXL.assign Met.none rfl ?_
  refine WXL.nil ?_
  refine Fin.then_normal ?_
  refine WX.seq ?_
  refine WX.region rfl ?_
  refine WXL.move Met.none rfl ?_
  refine WXL.move Met.none rfl ?_
  refine WXL.cl (O1 := _) Met.none rfl (fnOk_of Try.func38 (by decide +kernel)) rfl (fun _ h => h) (refCore_ok _ n b a c hn hlen hl) (fun v O' hp => ?_)
  obtain ⟨a1, c1, G1, R1, rfl, hG1, rfl⟩ := hp
  refine WXL.assign Met.none rfl ?_
  refine WXL.nil ?_
  refine Fin.then_normal ?_
  refine WX.seq ?_
  refine WX.region rfl ?_
  refine WXL.move Met.none rfl ?_
  refine WXL.cl (O1 := _) Met.none rfl (fnOk_of Try.func39 (by decide +kernel)) rfl (fun _ h => h) (refRaw_ok _ (coreB n b) a1 c1 (by omega) hG1.src) (fun v O' hp => ?_)
  obtain ⟨a2, c2, G2, rfl, hG2, rfl⟩ := hp
  refine WXL.assign Met.none rfl ?_
  refine WXL.nil ?_
  refine Fin.then_normal ?_
  refine WX.seq ?_
  refine WX.region rfl ?_
  refine WXL.move Met.none rfl ?_
  refine WXL.move Met.none rfl ?_
  refine WXL.cl (O1 := _) Met.none rfl (fnOk_of Try.func41 (by decide +kernel)) rfl (fun _ h => h) (refHash_ok _ lblF (coreB n b) a1 c1 (by unfold lblF; intro x hx; simp at hx; omega) hcb (by decide) (by omega) (Src.app hG1.src)) (fun v O' hp => ?_)
  obtain ⟨rfl, hO⟩ := hp
  subst O'
  rw [show U (hashB lblF (coreB n b)) = U (((hashB lblF (coreB n b)).toNat : Nat) : Int) from by rw [Int.toNat_of_nonneg hhr.1]]
  refine WXL.cl (O1 := _) Met.none rfl (fnOk_of Try.func40 (by decide +kernel)) rfl (fun _ h => h) (refUint_ok _ (hashB lblF (coreB n b)).toNat (by unfold InU at hhr; omega)) (fun v O' hp => ?_)
  obtain ⟨a3, c3, G3, rfl, hG3, rfl⟩ := hp
  refine WXL.apG (G3) Met.none rfl rfl isrow23 elem23 sz5 by5 zero5 src_ (fun a16 c16 G16 hG16 => ?_) (hm := (by rw [List.length_map]; omega))
  refine WXL.assign Met.none rfl ?_
  refine WXL.nil ?_
  refine Fin.then_normal ?_
  refine WX.ret ?_
  refine Fin.result (O' := G16 ++ O) (.inr rfl) rfl rfl sub_ ⟨a16, c16, G16, ?_, ?_, rfl⟩
  · rw [show (frameB n b).length = (rawB (coreB n b)).length + (varU (hashB lblF (coreB n b)).toNat).length from List.length_append]; rfl
  · rw [show (frameB n b).length = (rawB (coreB n b)).length + (varU (hashB lblF (coreB n b)).toNat).length from List.length_append, show (frameB n b).map B8 = _ from List.map_append]; exact hG16

end Go.Proofs.Ythekokdpplobhaa.Eng

set_option linter.unusedVariables false
set_option linter.unusedSimpArgs false
namespace Go.Proofs.Ythekokdpplobhaa.Eng

/-- The reference's reader: its object, and its row, told out of the one before. -/
def RrO (O : Objs) (r : Nat) (a0 : Option Addr) (l0 l : List Int) (e : Int) (N : Objs) : Prop :=
  ∃ a c, N = (r, ⟨0, false, [.slice a l.length c, I e]⟩) :: O ∧ (∀ O2, Rowy O2 1 a0 l0.length (l0.map B8) → Rowy O2 1 a l.length (l.map B8)) ∧ (a = none → c = 0) ∧ (e = 0 → ∃ b off, a = some ⟨b, off, none⟩)

theorem Rowy.known {O : Objs} {b off n : Nat} {cs : List Value} (h : Rowy O 1 (.some ⟨b, off, none⟩) n cs) : ∃ q, Knows O b q ∧ q.sz = 1 := by
  rcases h with ⟨h, _⟩ | ⟨b2, off2, q, h1, h2, h3, h4, h5⟩
  · cases h
  · injection h1 with h1
    injection h1 with h1 h6
    subst h1
    exact ⟨q, h2, h3⟩

theorem varU_head (m : Nat) : ∃ t, varU m = (if m < 128 then (m : Int) else ((128 + m % 128 : Nat) : Int)) :: t := by
  by_cases h : m < 128
  · exact ⟨[], by rw [varU_lt h, if_pos h]⟩
  · exact ⟨_, by rw [varU_ge h, if_neg h]⟩

theorem pow128 {i : Nat} (h : i ≤ 9) : 1 ≤ 128 ^ i ∧ 128 ^ i ≤ 9223372036854775808 := by
  refine ⟨Nat.pos_of_ne_zero (by simp), ?_⟩
  exact Nat.le_trans (Nat.pow_le_pow_right (by decide) h) (by decide)

theorem refRUint_ok (O : Objs) (r : Nat) (l : List Int) (e : Int) (a : Option Addr) (c : Nat) (hB : Bytes l) (hlen : l.length ≤ 1000000000000) (hr : Rowy O 1 a l.length (l.map B8)) (hc : a = none → c = 0) :
    Spec Try.prog false 81 #[Ptr r 0] ((r, ⟨0, false, [.slice a l.length c, I e]⟩) :: O) fun v O' => ∃ n l' e', v = U (n : Nat) ∧ n < 18446744073709551616 ∧ RrO O r a l l' e' O' ∧ (e ≠ 0 → e' ≠ 0) ∧ l'.length ≤ l.length ∧ Bytes l' ∧ (e = 0 → ∀ m rest, m < 18446744073709551616 → l = varU m ++ rest → n = m ∧ l' = rest ∧ e' = 0) := by
  have hsrc := hr.src hc
  refine Spec.enter (args := [_]) (m := 70) Try.func81 rfl rfl (by decide +kernel) fun h0 => ?_
  refine WX.seq ?_
  refine WX.region rfl ?_
  refine WXL.assign Met.none rfl ?_
  refine WXL.nil ?_
  refine Fin.then_normal ?_
  refine WX.seq ?_
  refine WX.region rfl ?_
  refine WXL.assign Met.none rfl ?_
  refine WXL.nil ?_
  refine Fin.then_normal ?_
  refine WX.seq ?_
  refine WX.region rfl ?_
  refine WXL.assign Met.none rfl ?_
  refine WXL.nil ?_
  refine Fin.then_normal ?_
  refine WX.seq ?_
  refine WX.seq ?_
  refine WX.region rfl ?_
  refine WXL.assign Met.none rfl ?_
  refine WXL.nil ?_
  refine Fin.then_normal ?_
  refine WX.block ?_
  refine WX.loop (fun s : Nat × Nat => [(0, Ptr r 0), (3, U (s.2 : Nat)), (4, U ((128 ^ s.1 : Nat) : Int)), (5, I (s.1 : Int))]) (fun _ => (r, ⟨0, false, [.slice a l.length c, I e]⟩) :: O) (fun s => s.1 ≤ 9 ∧ s.2 < 128 ^ s.1 ∧ ∀ m rest, m < 18446744073709551616 → l = varU m ++ rest → ∃ m', (s.1 = 0 ∨ 0 < m') ∧ l.drop s.1 = varU m' ++ rest ∧ s.2 + m' * 128 ^ s.1 = m) (fun s => 10 - s.1) (0, 0) ⟨Nat.zero_le _, by decide, fun m rest _ h => ⟨m, .inl rfl, h, by simp⟩⟩ (fun s hs => hs.tl [0] 1) (fun s hs => ?_)
  obtain ⟨i, n⟩ := s
  obtain ⟨g1, g2, g3⟩ := hs
  simp only at g1 g2 g3
  dsimp only
  refine WX.seq ?_
  refine WX.seq ?_
  refine WX.region rfl ?_
  refine WXL.move Met.none rfl ?_
  refine WXL.nilCheck Met.none rfl ?_
  first | refine WXL.fieldAddr Met.none rfl Try.underlying106 rfl sz47 rfl ?_ | refine WXL.faS Met.none rfl Try.underlying106 rfl sz47 ?_
  first | refine WXL.ld Met.none rfl agg47 ?_ | refine WXL.ldS Met.none rfl agg47 ?_
  refine WXL.bin Met.none rfl rfl rfl ?_
  refine WXL.nil ?_
  refine Fin.then_normal ?_
  refine WX.cond rfl (fun hc0 => ?_) (fun hc0 => ?_)
  · try simp only [cnd] at hc0
    refine WX.skip ?_
    refine Fin.then_normal ?_
    refine WX.seq ?_
    refine WX.block ?_
    refine WX.seq ?_
    refine WX.seq ?_
    refine WX.region rfl ?_
    refine WXL.move Met.none rfl ?_
    refine WXL.move Met.none rfl ?_
    refine WXL.nilCheck Met.none rfl ?_
    first | refine WXL.fieldAddr Met.none rfl Try.underlying106 rfl sz23 rfl ?_ | refine WXL.faS Met.none rfl Try.underlying106 rfl sz23 ?_
    first | refine WXL.ld Met.none rfl agg23 ?_ | refine WXL.ldS Met.none rfl agg23 ?_
    refine WXL.len Met.none rfl Try.underlying23 ?_
    refine WXL.bin Met.none rfl rfl rfl ?_
    refine WXL.nil ?_
    refine Fin.then_normal ?_
    refine WX.cond rfl (fun hc1 => ?_) (fun hc1 => ?_)
    · try simp only [cnd] at hc1
      refine WX.seq ?_
      refine WX.region rfl ?_
      refine WXL.move Met.none rfl ?_
      refine WXL.nilCheck Met.none rfl ?_
      first | refine WXL.fieldAddr Met.none rfl Try.underlying106 rfl sz47 rfl ?_ | refine WXL.faS Met.none rfl Try.underlying106 rfl sz47 ?_
      refine WXL.st (vs := [_]) Met.none rfl rfl rfl sz47 ?_
      refine WXL.nil ?_
      refine Fin.then_normal ?_
      refine WX.exit ?_
      refine Fin.then_exit ?_
      refine Fin.block_miss rfl ?_
      refine Fin.then_exit ?_
      refine Fin.loop_exit ?_
      refine Fin.block_hit rfl ?_
      refine Fin.then_normal ?_
      refine WX.seq ?_
      refine WX.region rfl ?_
      refine WXL.assign Met.none rfl ?_
      refine WXL.nil ?_
      refine Fin.then_normal ?_
      refine WX.ret ?_
      first
      | (have hz : ∀ m rest, m < 18446744073709551616 → l = varU m ++ rest → False := fun m rest hm hl => by
           obtain ⟨m', k1, k2, k3⟩ := g3 m rest hm hl
           have := congrArg List.length k2
           obtain ⟨t, ht⟩ := varU_head m'
           rw [ht, List.length_drop, List.length_append, List.length_cons] at this
           omega
         exact Fin.result (O' := (r, ⟨0, false, [.slice a l.length c, I 3]⟩) :: O) (.inr rfl) rfl rfl (fun _ hs => hs) ⟨0, l, 3, rfl, by decide, ⟨a, c, rfl, fun _ h => h, hc, (fun q => by cases q)⟩, fun _ => by decide, Nat.le_refl _, hB, fun _ m rest hm hl => (hz m rest hm hl).elim⟩)
      | exact Fin.result (O' := (r, ⟨0, false, [.slice a l.length c, I e]⟩) :: O) (.inr rfl) rfl rfl (fun _ hs => hs) ⟨0, l, e, rfl, by decide, ⟨a, c, rfl, fun _ h => h, hc, fun q => absurd q hc0⟩, fun _ => hc0, Nat.le_refl _, hB, fun q => absurd q hc0⟩
      | (have hz : ∀ m rest, m < 18446744073709551616 → l = varU m ++ rest → False := fun m rest hm hl => by
           obtain ⟨m', k1, k2, k3⟩ := g3 m rest hm hl
           obtain ⟨t, ht⟩ := varU_head m'
           rw [k2, ht, List.cons_append] at hdc
           injection hdc with q1 _
           have h9 : i = 9 → m' ≤ 1 := fun h => by
             subst h
             have : m' * 9223372036854775808 < 18446744073709551616 := by
               have e : (128 ^ 9 : Nat) = 9223372036854775808 := by decide
               rw [e] at k3
               omega
             omega
           split at q1 <;> omega
         exact Fin.result (O' := (r, ⟨0, false, [.slice a l.length c, I 2]⟩) :: O) (.inr rfl) rfl rfl (fun _ hs => hs) ⟨0, l, 2, rfl, by decide, ⟨a, c, rfl, fun _ h => h, hc, (fun q => by cases q)⟩, fun _ => by decide, Nat.le_refl _, hB, fun _ m rest hm hl => (hz m rest hm hl).elim⟩)
      | (have hdl : (l.drop (i + 1)).length = l.length - (i + 1) := List.length_drop
         refine Fin.result (O' := (r, ⟨0, false, [.slice (some ⟨bb, off + (i + 1) * 1, none⟩) (l.length - (i + 1)) (l.length - (i + 1)), I e]⟩) :: O) (.inr rfl) rfl rfl (fun _ hs => hs) ⟨n + (c' % 128) * u, l.drop (i + 1), e, rfl, by omega, ⟨some ⟨bb, off + (i + 1) * 1, none⟩, l.length - (i + 1), by rw [hdl], fun O2 h => by rw [hdl, List.map_drop]; exact (ha ▸ h).suf (by omega), (fun q => by cases q), fun _ => ⟨_, _, rfl⟩⟩, id, by omega, fun z hz => hB z (List.mem_of_mem_drop hz), fun he m rest hm hl => ?_⟩
         obtain ⟨m', k1, k2, k3⟩ := g3 m rest hm hl
         rw [← hu] at k3
         have hm2 : m' < 128 := by
           rcases Nat.lt_or_ge m' 128 with q | q
           · exact q
           · rw [k2, varU_ge (by omega)] at hdc
             injection hdc with q1 _
             omega
         rw [k2, varU_lt hm2] at hdc
         injection hdc with q1 q2
         have q3 : c' % 128 = m' := by omega
         exact ⟨by rw [q3, k3], q2.symm, he⟩)
    · try simp only [cnd] at hc1
      refine WX.skip ?_
      refine Fin.then_normal ?_
      refine WX.seq ?_
      refine WX.region rfl ?_
      refine WXL.move Met.none rfl ?_
      refine WXL.nilCheck Met.none rfl ?_
      first | refine WXL.fieldAddr Met.none rfl Try.underlying106 rfl sz23 rfl ?_ | refine WXL.faS Met.none rfl Try.underlying106 rfl sz23 ?_
      first | refine WXL.ld Met.none rfl agg23 ?_ | refine WXL.ldS Met.none rfl agg23 ?_
      refine WXL.move Met.none rfl ?_
      first | refine WXL.ix Met.none rfl rfl elem23 sz5 ?_ | refine WXL.ixS Met.none rfl rfl elem23 sz5 ?_
      first | refine WXL.ld Met.none rfl agg5 ?_ | refine WXL.ldS Met.none rfl agg5 ?_
      refine WXL.assign Met.none rfl ?_
      refine WXL.nil ?_
      refine Fin.then_normal ?_
      refine WX.seq ?_
      refine WX.seq ?_
      have hil : i < l.length := by omega
      have hcB := hB _ (nth_mem hil)
      obtain ⟨c', hc'⟩ : ∃ c' : Nat, nth l i = c' := ⟨(nth l i).toNat, by omega⟩
      have hdc := drop_cons_nth hil
      obtain ⟨p1, p2⟩ := pow128 g1
      refine WX.region rfl ?_
      refine WXL.move Met.none rfl ?_
      refine WXL.bin Met.none rfl rfl rfl ?_
      refine WXL.move Met.none rfl ?_
      refine WXL.split (d := 33) rfl (fun hg33 => ?_) (fun hg33 => ?_)
      · try simp only [cnd] at hg33
        refine WXL.move (Met.some rfl rfl rfl) rfl ?_
        refine WXL.bin (Met.some rfl rfl rfl) rfl rfl rfl ?_
        refine WXL.pick_t Met.none rfl rfl ?_
        refine WXL.move Met.none rfl ?_
        refine WXL.split (d := 37) rfl (fun hg37 => ?_) (fun hg37 => ?_)
        · try simp only [cnd] at hg37
          refine WXL.miss (j := 6) (d := 37) rfl rfl rfl ?_
          refine WXL.miss (j := 6) (d := 37) rfl rfl rfl ?_
          refine WXL.miss (j := 6) (d := 37) rfl rfl rfl ?_
          refine WXL.missU (j := 9) (e := 40) rfl rfl ?_
          refine WXL.missU (j := 9) (e := 40) rfl rfl ?_
          refine WXL.miss (j := 6) (d := 37) rfl rfl rfl ?_
          refine WXL.pick_t Met.none rfl rfl ?_
          refine WXL.nil ?_
          refine Fin.then_normal ?_
          refine WX.cond rfl (fun hc2 => ?_) (fun hc2 => nomatch hc2)
          refine WX.seq ?_
          refine WX.region rfl ?_
          refine WXL.move Met.none rfl ?_
          refine WXL.nilCheck Met.none rfl ?_
          first | refine WXL.fieldAddr Met.none rfl Try.underlying106 rfl sz47 rfl ?_ | refine WXL.faS Met.none rfl Try.underlying106 rfl sz47 ?_
          refine WXL.st (vs := [_]) Met.none rfl rfl rfl sz47 ?_
          refine WXL.nil ?_
          refine Fin.then_normal ?_
          refine WX.exit ?_
          refine Fin.then_exit ?_
          refine Fin.block_miss rfl ?_
          refine Fin.then_exit ?_
          refine Fin.loop_exit ?_
          refine Fin.block_hit rfl ?_
          refine Fin.then_normal ?_
          refine WX.seq ?_
          refine WX.region rfl ?_
          refine WXL.assign Met.none rfl ?_
          refine WXL.nil ?_
          refine Fin.then_normal ?_
          refine WX.ret ?_
          first
          | (have hz : ∀ m rest, m < 18446744073709551616 → l = varU m ++ rest → False := fun m rest hm hl => by
               obtain ⟨m', k1, k2, k3⟩ := g3 m rest hm hl
               have := congrArg List.length k2
               obtain ⟨t, ht⟩ := varU_head m'
               rw [ht, List.length_drop, List.length_append, List.length_cons] at this
               omega
             exact Fin.result (O' := (r, ⟨0, false, [.slice a l.length c, I 3]⟩) :: O) (.inr rfl) rfl rfl (fun _ hs => hs) ⟨0, l, 3, rfl, by decide, ⟨a, c, rfl, fun _ h => h, hc, (fun q => by cases q)⟩, fun _ => by decide, Nat.le_refl _, hB, fun _ m rest hm hl => (hz m rest hm hl).elim⟩)
          | exact Fin.result (O' := (r, ⟨0, false, [.slice a l.length c, I e]⟩) :: O) (.inr rfl) rfl rfl (fun _ hs => hs) ⟨0, l, e, rfl, by decide, ⟨a, c, rfl, fun _ h => h, hc, fun q => absurd q hc0⟩, fun _ => hc0, Nat.le_refl _, hB, fun q => absurd q hc0⟩
          | (have hz : ∀ m rest, m < 18446744073709551616 → l = varU m ++ rest → False := fun m rest hm hl => by
               obtain ⟨m', k1, k2, k3⟩ := g3 m rest hm hl
               obtain ⟨t, ht⟩ := varU_head m'
               rw [k2, ht, List.cons_append] at hdc
               injection hdc with q1 _
               have h9 : i = 9 → m' ≤ 1 := fun h => by
                 subst h
                 have : m' * 9223372036854775808 < 18446744073709551616 := by
                   have e : (128 ^ 9 : Nat) = 9223372036854775808 := by decide
                   rw [e] at k3
                   omega
                 omega
               split at q1 <;> omega
             exact Fin.result (O' := (r, ⟨0, false, [.slice a l.length c, I 2]⟩) :: O) (.inr rfl) rfl rfl (fun _ hs => hs) ⟨0, l, 2, rfl, by decide, ⟨a, c, rfl, fun _ h => h, hc, (fun q => by cases q)⟩, fun _ => by decide, Nat.le_refl _, hB, fun _ m rest hm hl => (hz m rest hm hl).elim⟩)
          | (have hdl : (l.drop (i + 1)).length = l.length - (i + 1) := List.length_drop
             refine Fin.result (O' := (r, ⟨0, false, [.slice (some ⟨bb, off + (i + 1) * 1, none⟩) (l.length - (i + 1)) (l.length - (i + 1)), I e]⟩) :: O) (.inr rfl) rfl rfl (fun _ hs => hs) ⟨n + (c' % 128) * u, l.drop (i + 1), e, rfl, by omega, ⟨some ⟨bb, off + (i + 1) * 1, none⟩, l.length - (i + 1), by rw [hdl], fun O2 h => by rw [hdl, List.map_drop]; exact (ha ▸ h).suf (by omega), (fun q => by cases q), fun _ => ⟨_, _, rfl⟩⟩, id, by omega, fun z hz => hB z (List.mem_of_mem_drop hz), fun he m rest hm hl => ?_⟩
             obtain ⟨m', k1, k2, k3⟩ := g3 m rest hm hl
             rw [← hu] at k3
             have hm2 : m' < 128 := by
               rcases Nat.lt_or_ge m' 128 with q | q
               · exact q
               · rw [k2, varU_ge (by omega)] at hdc
                 injection hdc with q1 _
                 omega
             rw [k2, varU_lt hm2] at hdc
             injection hdc with q1 q2
             have q3 : c' % 128 = m' := by omega
             exact ⟨by rw [q3, k3], q2.symm, he⟩)
        · try simp only [cnd] at hg37
          refine WXL.move (Met.some rfl rfl rfl) rfl ?_
          refine WXL.bin (Met.some rfl rfl rfl) rfl rfl rfl ?_
          refine WXL.move (Met.some rfl rfl rfl) rfl ?_
          refine WXL.split (d := 40) rfl (fun hg40 => ?_) (fun hg40 => ?_)
          · try simp only [cnd] at hg40
            refine WXL.move (Met.some rfl rfl rfl) rfl ?_
            refine WXL.bin (Met.some rfl rfl rfl) rfl rfl rfl ?_
            refine WXL.pick_t (Met.some rfl rfl rfl) rfl rfl ?_
            refine WXL.pick_f Met.none rfl rfl ?_
            refine WXL.nil ?_
            refine Fin.then_normal ?_
            refine WX.cond rfl (fun hc2 => ?_) (fun hc2 => ?_)
            · try simp only [cnd] at hc2
              refine WX.seq ?_
              refine WX.region rfl ?_
              refine WXL.move Met.none rfl ?_
              refine WXL.nilCheck Met.none rfl ?_
              first | refine WXL.fieldAddr Met.none rfl Try.underlying106 rfl sz47 rfl ?_ | refine WXL.faS Met.none rfl Try.underlying106 rfl sz47 ?_
              refine WXL.st (vs := [_]) Met.none rfl rfl rfl sz47 ?_
              refine WXL.nil ?_
              refine Fin.then_normal ?_
              refine WX.exit ?_
              refine Fin.then_exit ?_
              refine Fin.block_miss rfl ?_
              refine Fin.then_exit ?_
              refine Fin.loop_exit ?_
              refine Fin.block_hit rfl ?_
              refine Fin.then_normal ?_
              refine WX.seq ?_
              refine WX.region rfl ?_
              refine WXL.assign Met.none rfl ?_
              refine WXL.nil ?_
              refine Fin.then_normal ?_
              refine WX.ret ?_
              first
              | (have hz : ∀ m rest, m < 18446744073709551616 → l = varU m ++ rest → False := fun m rest hm hl => by
                   obtain ⟨m', k1, k2, k3⟩ := g3 m rest hm hl
                   have := congrArg List.length k2
                   obtain ⟨t, ht⟩ := varU_head m'
                   rw [ht, List.length_drop, List.length_append, List.length_cons] at this
                   omega
                 exact Fin.result (O' := (r, ⟨0, false, [.slice a l.length c, I 3]⟩) :: O) (.inr rfl) rfl rfl (fun _ hs => hs) ⟨0, l, 3, rfl, by decide, ⟨a, c, rfl, fun _ h => h, hc, (fun q => by cases q)⟩, fun _ => by decide, Nat.le_refl _, hB, fun _ m rest hm hl => (hz m rest hm hl).elim⟩)
              | exact Fin.result (O' := (r, ⟨0, false, [.slice a l.length c, I e]⟩) :: O) (.inr rfl) rfl rfl (fun _ hs => hs) ⟨0, l, e, rfl, by decide, ⟨a, c, rfl, fun _ h => h, hc, fun q => absurd q hc0⟩, fun _ => hc0, Nat.le_refl _, hB, fun q => absurd q hc0⟩
              | (have hz : ∀ m rest, m < 18446744073709551616 → l = varU m ++ rest → False := fun m rest hm hl => by
                   obtain ⟨m', k1, k2, k3⟩ := g3 m rest hm hl
                   obtain ⟨t, ht⟩ := varU_head m'
                   rw [k2, ht, List.cons_append] at hdc
                   injection hdc with q1 _
                   have h9 : i = 9 → m' ≤ 1 := fun h => by
                     subst h
                     have : m' * 9223372036854775808 < 18446744073709551616 := by
                       have e : (128 ^ 9 : Nat) = 9223372036854775808 := by decide
                       rw [e] at k3
                       omega
                     omega
                   split at q1 <;> omega
                 exact Fin.result (O' := (r, ⟨0, false, [.slice a l.length c, I 2]⟩) :: O) (.inr rfl) rfl rfl (fun _ hs => hs) ⟨0, l, 2, rfl, by decide, ⟨a, c, rfl, fun _ h => h, hc, (fun q => by cases q)⟩, fun _ => by decide, Nat.le_refl _, hB, fun _ m rest hm hl => (hz m rest hm hl).elim⟩)
              | (have hdl : (l.drop (i + 1)).length = l.length - (i + 1) := List.length_drop
                 refine Fin.result (O' := (r, ⟨0, false, [.slice (some ⟨bb, off + (i + 1) * 1, none⟩) (l.length - (i + 1)) (l.length - (i + 1)), I e]⟩) :: O) (.inr rfl) rfl rfl (fun _ hs => hs) ⟨n + (c' % 128) * u, l.drop (i + 1), e, rfl, by omega, ⟨some ⟨bb, off + (i + 1) * 1, none⟩, l.length - (i + 1), by rw [hdl], fun O2 h => by rw [hdl, List.map_drop]; exact (ha ▸ h).suf (by omega), (fun q => by cases q), fun _ => ⟨_, _, rfl⟩⟩, id, by omega, fun z hz => hB z (List.mem_of_mem_drop hz), fun he m rest hm hl => ?_⟩
                 obtain ⟨m', k1, k2, k3⟩ := g3 m rest hm hl
                 rw [← hu] at k3
                 have hm2 : m' < 128 := by
                   rcases Nat.lt_or_ge m' 128 with q | q
                   · exact q
                   · rw [k2, varU_ge (by omega)] at hdc
                     injection hdc with q1 _
                     omega
                 rw [k2, varU_lt hm2] at hdc
                 injection hdc with q1 q2
                 have q3 : c' % 128 = m' := by omega
                 exact ⟨by rw [q3, k3], q2.symm, he⟩)
            · try simp only [cnd] at hc2
              refine WX.skip ?_
              refine Fin.then_normal ?_
              refine WX.seq ?_
              obtain ⟨u, hu⟩ : ∃ u, u = 128 ^ i := ⟨_, rfl⟩
              have hcu : (c' % 128) * u ≤ 127 * u := Nat.mul_le_mul_right _ (by omega)
              have hi8 : i ≤ 8 → 128 * u ≤ 9223372036854775808 := fun h => by
                rw [hu, Nat.mul_comm, ← Nat.pow_succ]
                exact (pow128 (i := i + 1) (by omega)).2
              have hi9 : i = 9 → (c' % 128) * u ≤ 1 * u := fun h => Nat.mul_le_mul_right _ (by omega)
              rw [← hu] at g2 p1 p2 ⊢
              refine WX.region rfl ?_
              refine WXL.move Met.none rfl ?_
              refine WXL.move Met.none rfl ?_
              refine WXL.rem Met.none rfl rfl (by decide) ?_
              refine WXL.conv Met.none rfl Try.underlying5 Try.underlying42 (show IntKind.wrap .u64 ((nth l i).tmod 128) = ((c' % 128 : Nat) : Int) from by rw [hc', Int.tmod_eq_emod_of_nonneg (by omega)]; exact (wrap_u64 (by omega) (by omega)).trans (by omega)) ?_
              refine WXL.move Met.none rfl ?_
              refine WXL.bin Met.none rfl rfl (show _ = some (U (((c' % 128) * u : Nat) : Int)) from congrArg (fun n => some (U n)) ((wrap_u64 (n := ((c' % 128 : Nat) : Int) * (u : Int)) (by rw [← Int.natCast_mul]; omega) (by rw [← Int.natCast_mul]; omega)).trans (Int.natCast_mul _ _).symm)) ?_
              refine WXL.bin Met.none rfl rfl (show _ = some (U ((n + (c' % 128) * u : Nat) : Int)) from congrArg (fun n => some (U n)) ((wrap_u64 (by omega) (by omega)).trans (by omega))) ?_
              refine WXL.assign Met.none rfl ?_
              refine WXL.nil ?_
              refine Fin.then_normal ?_
              refine WX.seq ?_
              refine WX.region rfl ?_
              refine WXL.move Met.none rfl ?_
              refine WXL.bin Met.none rfl rfl rfl ?_
              refine WXL.assign Met.none rfl ?_
              refine WXL.nil ?_
              refine Fin.then_normal ?_
              refine WX.seq ?_
              refine WX.region rfl ?_
              refine WXL.move Met.none rfl ?_
              refine WXL.bin Met.none rfl rfl rfl ?_
              refine WXL.nil ?_
              refine Fin.then_normal ?_
              refine WX.cond rfl (fun hc3 => ?_) (fun hc3 => ?_)
              · try simp only [cnd] at hc3
                refine WX.seq ?_
                obtain ⟨bb, off, ⟨qsz, qro, qc⟩, ha, hkq, hqs⟩ := hr.some (by omega)
                have hqs : qsz = 1 := hqs
                subst hqs
                refine WX.region rfl ?_
                refine WXL.move Met.none rfl ?_
                refine WXL.move Met.none rfl ?_
                refine WXL.nilCheck Met.none rfl ?_
                first | refine WXL.fieldAddr Met.none rfl Try.underlying106 rfl sz23 rfl ?_ | refine WXL.faS Met.none rfl Try.underlying106 rfl sz23 ?_
                first | refine WXL.ld Met.none rfl agg23 ?_ | refine WXL.ldS Met.none rfl agg23 ?_
                refine WXL.move Met.none rfl ?_
                refine WXL.bin Met.none rfl rfl bvA ?_
                refine WXL.suf (cs := []) (m := (i + 1)) Met.none rfl rfl elem23 sz5 ha hkq.cons rfl ?_
                refine WXL.nilCheck Met.none rfl ?_
                first | refine WXL.fieldAddr Met.none rfl Try.underlying106 rfl sz23 rfl ?_ | refine WXL.faS Met.none rfl Try.underlying106 rfl sz23 ?_
                refine WXL.st (vs := [_]) Met.none rfl rfl rfl sz23 ?_
                refine WXL.nil ?_
                refine Fin.then_normal ?_
                refine WX.seq ?_
                refine WX.region rfl ?_
                refine WXL.move Met.none rfl ?_
                refine WXL.assign Met.none rfl ?_
                refine WXL.nil ?_
                refine Fin.then_normal ?_
                refine WX.ret ?_
                refine Fin.block_ret ?_
                refine Fin.then_ret ?_
                refine Fin.loop_ret ?_
                refine Fin.block_ret ?_
                refine Fin.then_ret ?_
                first
                | (have hz : ∀ m rest, m < 18446744073709551616 → l = varU m ++ rest → False := fun m rest hm hl => by
                     obtain ⟨m', k1, k2, k3⟩ := g3 m rest hm hl
                     have := congrArg List.length k2
                     obtain ⟨t, ht⟩ := varU_head m'
                     rw [ht, List.length_drop, List.length_append, List.length_cons] at this
                     omega
                   exact Fin.result (O' := (r, ⟨0, false, [.slice a l.length c, I 3]⟩) :: O) (.inr rfl) rfl rfl (fun _ hs => hs) ⟨0, l, 3, rfl, by decide, ⟨a, c, rfl, fun _ h => h, hc, (fun q => by cases q)⟩, fun _ => by decide, Nat.le_refl _, hB, fun _ m rest hm hl => (hz m rest hm hl).elim⟩)
                | exact Fin.result (O' := (r, ⟨0, false, [.slice a l.length c, I e]⟩) :: O) (.inr rfl) rfl rfl (fun _ hs => hs) ⟨0, l, e, rfl, by decide, ⟨a, c, rfl, fun _ h => h, hc, fun q => absurd q hc0⟩, fun _ => hc0, Nat.le_refl _, hB, fun q => absurd q hc0⟩
                | (have hz : ∀ m rest, m < 18446744073709551616 → l = varU m ++ rest → False := fun m rest hm hl => by
                     obtain ⟨m', k1, k2, k3⟩ := g3 m rest hm hl
                     obtain ⟨t, ht⟩ := varU_head m'
                     rw [k2, ht, List.cons_append] at hdc
                     injection hdc with q1 _
                     have h9 : i = 9 → m' ≤ 1 := fun h => by
                       subst h
                       have : m' * 9223372036854775808 < 18446744073709551616 := by
                         have e : (128 ^ 9 : Nat) = 9223372036854775808 := by decide
                         rw [e] at k3
                         omega
                       omega
                     split at q1 <;> omega
                   exact Fin.result (O' := (r, ⟨0, false, [.slice a l.length c, I 2]⟩) :: O) (.inr rfl) rfl rfl (fun _ hs => hs) ⟨0, l, 2, rfl, by decide, ⟨a, c, rfl, fun _ h => h, hc, (fun q => by cases q)⟩, fun _ => by decide, Nat.le_refl _, hB, fun _ m rest hm hl => (hz m rest hm hl).elim⟩)
                | (have hdl : (l.drop (i + 1)).length = l.length - (i + 1) := List.length_drop
                   refine Fin.result (O' := (r, ⟨0, false, [.slice (some ⟨bb, off + (i + 1) * 1, none⟩) (l.length - (i + 1)) (l.length - (i + 1)), I e]⟩) :: O) (.inr rfl) rfl rfl (fun _ hs => hs) ⟨n + (c' % 128) * u, l.drop (i + 1), e, rfl, by omega, ⟨some ⟨bb, off + (i + 1) * 1, none⟩, l.length - (i + 1), by rw [hdl], fun O2 h => by rw [hdl, List.map_drop]; exact (ha ▸ h).suf (by omega), (fun q => by cases q), fun _ => ⟨_, _, rfl⟩⟩, id, by omega, fun z hz => hB z (List.mem_of_mem_drop hz), fun he m rest hm hl => ?_⟩
                   obtain ⟨m', k1, k2, k3⟩ := g3 m rest hm hl
                   rw [← hu] at k3
                   have hm2 : m' < 128 := by
                     rcases Nat.lt_or_ge m' 128 with q | q
                     · exact q
                     · rw [k2, varU_ge (by omega)] at hdc
                       injection hdc with q1 _
                       omega
                   rw [k2, varU_lt hm2] at hdc
                   injection hdc with q1 q2
                   have q3 : c' % 128 = m' := by omega
                   exact ⟨by rw [q3, k3], q2.symm, he⟩)
              · try simp only [cnd] at hc3
                refine WX.skip ?_
                refine Fin.block_normal ?_
                refine Fin.then_normal ?_
                refine WX.region rfl ?_
                refine WXL.move Met.none rfl ?_
                refine WXL.bin Met.none rfl rfl bvA ?_
                refine WXL.assign Met.none rfl ?_
                refine WXL.nil ?_
                refine Fin.loop_next (i + 1, n + (c' % 128) * u) ⟨by simp only; omega, ?_, ?_⟩ (by simp only; omega) ?_
                · simp only
                  rw [Nat.pow_succ, ← hu]
                  omega
                · intro m rest hm hl
                  obtain ⟨m', k1, k2, k3⟩ := g3 m rest hm hl
                  rw [← hu] at k3
                  have hm2 : ¬ m' < 128 := fun q => by
                    rw [k2, varU_lt q] at hdc
                    injection hdc with q1 _
                    omega
                  rw [k2, varU_ge hm2] at hdc
                  injection hdc with q1 q2
                  have q3 : m' % 128 = c' % 128 := by omega
                  refine ⟨m' / 128, .inr (by omega), q2.symm, ?_⟩
                  simp only
                  rw [Nat.pow_succ, ← hu, ← k3]
                  have q4 : m' = m' % 128 + 128 * (m' / 128) := by omega
                  conv => rhs; rw [q4, Nat.add_mul, q3]
                  rw [Nat.add_assoc]
                  congr 2
                  rw [Nat.mul_comm u 128, ← Nat.mul_assoc, Nat.mul_comm (m' / 128) 128]
                · rw [show IntKind.wrap .u64 ((u : Int) * 128) = ((128 ^ (i + 1) : Nat) : Int) from by
                    rw [Nat.pow_succ, ← hu]
                    exact (wrap_u64 (by omega) (by omega)).trans (by omega)]
                  exact (fun s hs => hs.tl [0] 1)
          · try simp only [cnd] at hg40
            refine WXL.miss (j := 9) (d := 40) rfl rfl rfl ?_
            refine WXL.miss (j := 9) (d := 40) rfl rfl rfl ?_
            refine WXL.pick_f (Met.some rfl rfl rfl) rfl rfl ?_
            refine WXL.pick_f Met.none rfl rfl ?_
            refine WXL.nil ?_
            refine Fin.then_normal ?_
            refine WX.cond rfl (fun hc2 => nomatch hc2) (fun hc2 => ?_)
            refine WX.skip ?_
            refine Fin.then_normal ?_
            refine WX.seq ?_
            obtain ⟨u, hu⟩ : ∃ u, u = 128 ^ i := ⟨_, rfl⟩
            have hcu : (c' % 128) * u ≤ 127 * u := Nat.mul_le_mul_right _ (by omega)
            have hi8 : i ≤ 8 → 128 * u ≤ 9223372036854775808 := fun h => by
              rw [hu, Nat.mul_comm, ← Nat.pow_succ]
              exact (pow128 (i := i + 1) (by omega)).2
            have hi9 : i = 9 → (c' % 128) * u ≤ 1 * u := fun h => Nat.mul_le_mul_right _ (by omega)
            rw [← hu] at g2 p1 p2 ⊢
            refine WX.region rfl ?_
            refine WXL.move Met.none rfl ?_
            refine WXL.move Met.none rfl ?_
            refine WXL.rem Met.none rfl rfl (by decide) ?_
            refine WXL.conv Met.none rfl Try.underlying5 Try.underlying42 (show IntKind.wrap .u64 ((nth l i).tmod 128) = ((c' % 128 : Nat) : Int) from by rw [hc', Int.tmod_eq_emod_of_nonneg (by omega)]; exact (wrap_u64 (by omega) (by omega)).trans (by omega)) ?_
            refine WXL.move Met.none rfl ?_
            refine WXL.bin Met.none rfl rfl (show _ = some (U (((c' % 128) * u : Nat) : Int)) from congrArg (fun n => some (U n)) ((wrap_u64 (n := ((c' % 128 : Nat) : Int) * (u : Int)) (by rw [← Int.natCast_mul]; omega) (by rw [← Int.natCast_mul]; omega)).trans (Int.natCast_mul _ _).symm)) ?_
            refine WXL.bin Met.none rfl rfl (show _ = some (U ((n + (c' % 128) * u : Nat) : Int)) from congrArg (fun n => some (U n)) ((wrap_u64 (by omega) (by omega)).trans (by omega))) ?_
            refine WXL.assign Met.none rfl ?_
            refine WXL.nil ?_
            refine Fin.then_normal ?_
            refine WX.seq ?_
            refine WX.region rfl ?_
            refine WXL.move Met.none rfl ?_
            refine WXL.bin Met.none rfl rfl rfl ?_
            refine WXL.assign Met.none rfl ?_
            refine WXL.nil ?_
            refine Fin.then_normal ?_
            refine WX.seq ?_
            refine WX.region rfl ?_
            refine WXL.move Met.none rfl ?_
            refine WXL.bin Met.none rfl rfl rfl ?_
            refine WXL.nil ?_
            refine Fin.then_normal ?_
            refine WX.cond rfl (fun hc3 => ?_) (fun hc3 => ?_)
            · try simp only [cnd] at hc3
              refine WX.seq ?_
              obtain ⟨bb, off, ⟨qsz, qro, qc⟩, ha, hkq, hqs⟩ := hr.some (by omega)
              have hqs : qsz = 1 := hqs
              subst hqs
              refine WX.region rfl ?_
              refine WXL.move Met.none rfl ?_
              refine WXL.move Met.none rfl ?_
              refine WXL.nilCheck Met.none rfl ?_
              first | refine WXL.fieldAddr Met.none rfl Try.underlying106 rfl sz23 rfl ?_ | refine WXL.faS Met.none rfl Try.underlying106 rfl sz23 ?_
              first | refine WXL.ld Met.none rfl agg23 ?_ | refine WXL.ldS Met.none rfl agg23 ?_
              refine WXL.move Met.none rfl ?_
              refine WXL.bin Met.none rfl rfl bvA ?_
              refine WXL.suf (cs := []) (m := (i + 1)) Met.none rfl rfl elem23 sz5 ha hkq.cons rfl ?_
              refine WXL.nilCheck Met.none rfl ?_
              first | refine WXL.fieldAddr Met.none rfl Try.underlying106 rfl sz23 rfl ?_ | refine WXL.faS Met.none rfl Try.underlying106 rfl sz23 ?_
              refine WXL.st (vs := [_]) Met.none rfl rfl rfl sz23 ?_
              refine WXL.nil ?_
              refine Fin.then_normal ?_
              refine WX.seq ?_
              refine WX.region rfl ?_
              refine WXL.move Met.none rfl ?_
              refine WXL.assign Met.none rfl ?_
              refine WXL.nil ?_
              refine Fin.then_normal ?_
              refine WX.ret ?_
              refine Fin.block_ret ?_
              refine Fin.then_ret ?_
              refine Fin.loop_ret ?_
              refine Fin.block_ret ?_
              refine Fin.then_ret ?_
              first
              | (have hz : ∀ m rest, m < 18446744073709551616 → l = varU m ++ rest → False := fun m rest hm hl => by
                   obtain ⟨m', k1, k2, k3⟩ := g3 m rest hm hl
                   have := congrArg List.length k2
                   obtain ⟨t, ht⟩ := varU_head m'
                   rw [ht, List.length_drop, List.length_append, List.length_cons] at this
                   omega
                 exact Fin.result (O' := (r, ⟨0, false, [.slice a l.length c, I 3]⟩) :: O) (.inr rfl) rfl rfl (fun _ hs => hs) ⟨0, l, 3, rfl, by decide, ⟨a, c, rfl, fun _ h => h, hc, (fun q => by cases q)⟩, fun _ => by decide, Nat.le_refl _, hB, fun _ m rest hm hl => (hz m rest hm hl).elim⟩)
              | exact Fin.result (O' := (r, ⟨0, false, [.slice a l.length c, I e]⟩) :: O) (.inr rfl) rfl rfl (fun _ hs => hs) ⟨0, l, e, rfl, by decide, ⟨a, c, rfl, fun _ h => h, hc, fun q => absurd q hc0⟩, fun _ => hc0, Nat.le_refl _, hB, fun q => absurd q hc0⟩
              | (have hz : ∀ m rest, m < 18446744073709551616 → l = varU m ++ rest → False := fun m rest hm hl => by
                   obtain ⟨m', k1, k2, k3⟩ := g3 m rest hm hl
                   obtain ⟨t, ht⟩ := varU_head m'
                   rw [k2, ht, List.cons_append] at hdc
                   injection hdc with q1 _
                   have h9 : i = 9 → m' ≤ 1 := fun h => by
                     subst h
                     have : m' * 9223372036854775808 < 18446744073709551616 := by
                       have e : (128 ^ 9 : Nat) = 9223372036854775808 := by decide
                       rw [e] at k3
                       omega
                     omega
                   split at q1 <;> omega
                 exact Fin.result (O' := (r, ⟨0, false, [.slice a l.length c, I 2]⟩) :: O) (.inr rfl) rfl rfl (fun _ hs => hs) ⟨0, l, 2, rfl, by decide, ⟨a, c, rfl, fun _ h => h, hc, (fun q => by cases q)⟩, fun _ => by decide, Nat.le_refl _, hB, fun _ m rest hm hl => (hz m rest hm hl).elim⟩)
              | (have hdl : (l.drop (i + 1)).length = l.length - (i + 1) := List.length_drop
                 refine Fin.result (O' := (r, ⟨0, false, [.slice (some ⟨bb, off + (i + 1) * 1, none⟩) (l.length - (i + 1)) (l.length - (i + 1)), I e]⟩) :: O) (.inr rfl) rfl rfl (fun _ hs => hs) ⟨n + (c' % 128) * u, l.drop (i + 1), e, rfl, by omega, ⟨some ⟨bb, off + (i + 1) * 1, none⟩, l.length - (i + 1), by rw [hdl], fun O2 h => by rw [hdl, List.map_drop]; exact (ha ▸ h).suf (by omega), (fun q => by cases q), fun _ => ⟨_, _, rfl⟩⟩, id, by omega, fun z hz => hB z (List.mem_of_mem_drop hz), fun he m rest hm hl => ?_⟩
                 obtain ⟨m', k1, k2, k3⟩ := g3 m rest hm hl
                 rw [← hu] at k3
                 have hm2 : m' < 128 := by
                   rcases Nat.lt_or_ge m' 128 with q | q
                   · exact q
                   · rw [k2, varU_ge (by omega)] at hdc
                     injection hdc with q1 _
                     omega
                 rw [k2, varU_lt hm2] at hdc
                 injection hdc with q1 q2
                 have q3 : c' % 128 = m' := by omega
                 exact ⟨by rw [q3, k3], q2.symm, he⟩)
            · try simp only [cnd] at hc3
              refine WX.skip ?_
              refine Fin.block_normal ?_
              refine Fin.then_normal ?_
              refine WX.region rfl ?_
              refine WXL.move Met.none rfl ?_
              refine WXL.bin Met.none rfl rfl bvA ?_
              refine WXL.assign Met.none rfl ?_
              refine WXL.nil ?_
              refine Fin.loop_next (i + 1, n + (c' % 128) * u) ⟨by simp only; omega, ?_, ?_⟩ (by simp only; omega) ?_
              · simp only
                rw [Nat.pow_succ, ← hu]
                omega
              · intro m rest hm hl
                obtain ⟨m', k1, k2, k3⟩ := g3 m rest hm hl
                rw [← hu] at k3
                have hm2 : ¬ m' < 128 := fun q => by
                  rw [k2, varU_lt q] at hdc
                  injection hdc with q1 _
                  omega
                rw [k2, varU_ge hm2] at hdc
                injection hdc with q1 q2
                have q3 : m' % 128 = c' % 128 := by omega
                refine ⟨m' / 128, .inr (by omega), q2.symm, ?_⟩
                simp only
                rw [Nat.pow_succ, ← hu, ← k3]
                have q4 : m' = m' % 128 + 128 * (m' / 128) := by omega
                conv => rhs; rw [q4, Nat.add_mul, q3]
                rw [Nat.add_assoc]
                congr 2
                rw [Nat.mul_comm u 128, ← Nat.mul_assoc, Nat.mul_comm (m' / 128) 128]
              · rw [show IntKind.wrap .u64 ((u : Int) * 128) = ((128 ^ (i + 1) : Nat) : Int) from by
                  rw [Nat.pow_succ, ← hu]
                  exact (wrap_u64 (by omega) (by omega)).trans (by omega)]
                exact (fun s hs => hs.tl [0] 1)
      · try simp only [cnd] at hg33
        refine WXL.miss (j := 2) (d := 33) rfl rfl rfl ?_
        refine WXL.miss (j := 2) (d := 33) rfl rfl rfl ?_
        refine WXL.pick_f Met.none rfl rfl ?_
        refine WXL.move Met.none rfl ?_
        refine WXL.move (Met.some rfl rfl rfl) rfl ?_
        refine WXL.bin (Met.some rfl rfl rfl) rfl rfl rfl ?_
        refine WXL.move (Met.some rfl rfl rfl) rfl ?_
        refine WXL.split (d := 40) rfl (fun hg40 => ?_) (fun hg40 => ?_)
        · try simp only [cnd] at hg40
          refine WXL.move (Met.some rfl rfl rfl) rfl ?_
          refine WXL.bin (Met.some rfl rfl rfl) rfl rfl rfl ?_
          refine WXL.pick_t (Met.some rfl rfl rfl) rfl rfl ?_
          refine WXL.pick_f Met.none rfl rfl ?_
          refine WXL.nil ?_
          refine Fin.then_normal ?_
          refine WX.cond rfl (fun hc2 => ?_) (fun hc2 => ?_)
          · try simp only [cnd] at hc2
            refine WX.seq ?_
            refine WX.region rfl ?_
            refine WXL.move Met.none rfl ?_
            refine WXL.nilCheck Met.none rfl ?_
            first | refine WXL.fieldAddr Met.none rfl Try.underlying106 rfl sz47 rfl ?_ | refine WXL.faS Met.none rfl Try.underlying106 rfl sz47 ?_
            refine WXL.st (vs := [_]) Met.none rfl rfl rfl sz47 ?_
            refine WXL.nil ?_
            refine Fin.then_normal ?_
            refine WX.exit ?_
            refine Fin.then_exit ?_
            refine Fin.block_miss rfl ?_
            refine Fin.then_exit ?_
            refine Fin.loop_exit ?_
            refine Fin.block_hit rfl ?_
            refine Fin.then_normal ?_
            refine WX.seq ?_
            refine WX.region rfl ?_
            refine WXL.assign Met.none rfl ?_
            refine WXL.nil ?_
            refine Fin.then_normal ?_
            refine WX.ret ?_
            first
            | (have hz : ∀ m rest, m < 18446744073709551616 → l = varU m ++ rest → False := fun m rest hm hl => by
                 obtain ⟨m', k1, k2, k3⟩ := g3 m rest hm hl
                 have := congrArg List.length k2
                 obtain ⟨t, ht⟩ := varU_head m'
                 rw [ht, List.length_drop, List.length_append, List.length_cons] at this
                 omega
               exact Fin.result (O' := (r, ⟨0, false, [.slice a l.length c, I 3]⟩) :: O) (.inr rfl) rfl rfl (fun _ hs => hs) ⟨0, l, 3, rfl, by decide, ⟨a, c, rfl, fun _ h => h, hc, (fun q => by cases q)⟩, fun _ => by decide, Nat.le_refl _, hB, fun _ m rest hm hl => (hz m rest hm hl).elim⟩)
            | exact Fin.result (O' := (r, ⟨0, false, [.slice a l.length c, I e]⟩) :: O) (.inr rfl) rfl rfl (fun _ hs => hs) ⟨0, l, e, rfl, by decide, ⟨a, c, rfl, fun _ h => h, hc, fun q => absurd q hc0⟩, fun _ => hc0, Nat.le_refl _, hB, fun q => absurd q hc0⟩
            | (have hz : ∀ m rest, m < 18446744073709551616 → l = varU m ++ rest → False := fun m rest hm hl => by
                 obtain ⟨m', k1, k2, k3⟩ := g3 m rest hm hl
                 obtain ⟨t, ht⟩ := varU_head m'
                 rw [k2, ht, List.cons_append] at hdc
                 injection hdc with q1 _
                 have h9 : i = 9 → m' ≤ 1 := fun h => by
                   subst h
                   have : m' * 9223372036854775808 < 18446744073709551616 := by
                     have e : (128 ^ 9 : Nat) = 9223372036854775808 := by decide
                     rw [e] at k3
                     omega
                   omega
                 split at q1 <;> omega
               exact Fin.result (O' := (r, ⟨0, false, [.slice a l.length c, I 2]⟩) :: O) (.inr rfl) rfl rfl (fun _ hs => hs) ⟨0, l, 2, rfl, by decide, ⟨a, c, rfl, fun _ h => h, hc, (fun q => by cases q)⟩, fun _ => by decide, Nat.le_refl _, hB, fun _ m rest hm hl => (hz m rest hm hl).elim⟩)
            | (have hdl : (l.drop (i + 1)).length = l.length - (i + 1) := List.length_drop
               refine Fin.result (O' := (r, ⟨0, false, [.slice (some ⟨bb, off + (i + 1) * 1, none⟩) (l.length - (i + 1)) (l.length - (i + 1)), I e]⟩) :: O) (.inr rfl) rfl rfl (fun _ hs => hs) ⟨n + (c' % 128) * u, l.drop (i + 1), e, rfl, by omega, ⟨some ⟨bb, off + (i + 1) * 1, none⟩, l.length - (i + 1), by rw [hdl], fun O2 h => by rw [hdl, List.map_drop]; exact (ha ▸ h).suf (by omega), (fun q => by cases q), fun _ => ⟨_, _, rfl⟩⟩, id, by omega, fun z hz => hB z (List.mem_of_mem_drop hz), fun he m rest hm hl => ?_⟩
               obtain ⟨m', k1, k2, k3⟩ := g3 m rest hm hl
               rw [← hu] at k3
               have hm2 : m' < 128 := by
                 rcases Nat.lt_or_ge m' 128 with q | q
                 · exact q
                 · rw [k2, varU_ge (by omega)] at hdc
                   injection hdc with q1 _
                   omega
               rw [k2, varU_lt hm2] at hdc
               injection hdc with q1 q2
               have q3 : c' % 128 = m' := by omega
               exact ⟨by rw [q3, k3], q2.symm, he⟩)
          · try simp only [cnd] at hc2
            refine WX.skip ?_
            refine Fin.then_normal ?_
            refine WX.seq ?_
            obtain ⟨u, hu⟩ : ∃ u, u = 128 ^ i := ⟨_, rfl⟩
            have hcu : (c' % 128) * u ≤ 127 * u := Nat.mul_le_mul_right _ (by omega)
            have hi8 : i ≤ 8 → 128 * u ≤ 9223372036854775808 := fun h => by
              rw [hu, Nat.mul_comm, ← Nat.pow_succ]
              exact (pow128 (i := i + 1) (by omega)).2
            have hi9 : i = 9 → (c' % 128) * u ≤ 1 * u := fun h => Nat.mul_le_mul_right _ (by omega)
            rw [← hu] at g2 p1 p2 ⊢
            refine WX.region rfl ?_
            refine WXL.move Met.none rfl ?_
            refine WXL.move Met.none rfl ?_
            refine WXL.rem Met.none rfl rfl (by decide) ?_
            refine WXL.conv Met.none rfl Try.underlying5 Try.underlying42 (show IntKind.wrap .u64 ((nth l i).tmod 128) = ((c' % 128 : Nat) : Int) from by rw [hc', Int.tmod_eq_emod_of_nonneg (by omega)]; exact (wrap_u64 (by omega) (by omega)).trans (by omega)) ?_
            refine WXL.move Met.none rfl ?_
            refine WXL.bin Met.none rfl rfl (show _ = some (U (((c' % 128) * u : Nat) : Int)) from congrArg (fun n => some (U n)) ((wrap_u64 (n := ((c' % 128 : Nat) : Int) * (u : Int)) (by rw [← Int.natCast_mul]; omega) (by rw [← Int.natCast_mul]; omega)).trans (Int.natCast_mul _ _).symm)) ?_
            refine WXL.bin Met.none rfl rfl (show _ = some (U ((n + (c' % 128) * u : Nat) : Int)) from congrArg (fun n => some (U n)) ((wrap_u64 (by omega) (by omega)).trans (by omega))) ?_
            refine WXL.assign Met.none rfl ?_
            refine WXL.nil ?_
            refine Fin.then_normal ?_
            refine WX.seq ?_
            refine WX.region rfl ?_
            refine WXL.move Met.none rfl ?_
            refine WXL.bin Met.none rfl rfl rfl ?_
            refine WXL.assign Met.none rfl ?_
            refine WXL.nil ?_
            refine Fin.then_normal ?_
            refine WX.seq ?_
            refine WX.region rfl ?_
            refine WXL.move Met.none rfl ?_
            refine WXL.bin Met.none rfl rfl rfl ?_
            refine WXL.nil ?_
            refine Fin.then_normal ?_
            refine WX.cond rfl (fun hc3 => ?_) (fun hc3 => ?_)
            · try simp only [cnd] at hc3
              refine WX.seq ?_
              obtain ⟨bb, off, ⟨qsz, qro, qc⟩, ha, hkq, hqs⟩ := hr.some (by omega)
              have hqs : qsz = 1 := hqs
              subst hqs
              refine WX.region rfl ?_
              refine WXL.move Met.none rfl ?_
              refine WXL.move Met.none rfl ?_
              refine WXL.nilCheck Met.none rfl ?_
              first | refine WXL.fieldAddr Met.none rfl Try.underlying106 rfl sz23 rfl ?_ | refine WXL.faS Met.none rfl Try.underlying106 rfl sz23 ?_
              first | refine WXL.ld Met.none rfl agg23 ?_ | refine WXL.ldS Met.none rfl agg23 ?_
              refine WXL.move Met.none rfl ?_
              refine WXL.bin Met.none rfl rfl bvA ?_
              refine WXL.suf (cs := []) (m := (i + 1)) Met.none rfl rfl elem23 sz5 ha hkq.cons rfl ?_
              refine WXL.nilCheck Met.none rfl ?_
              first | refine WXL.fieldAddr Met.none rfl Try.underlying106 rfl sz23 rfl ?_ | refine WXL.faS Met.none rfl Try.underlying106 rfl sz23 ?_
              refine WXL.st (vs := [_]) Met.none rfl rfl rfl sz23 ?_
              refine WXL.nil ?_
              refine Fin.then_normal ?_
              refine WX.seq ?_
              refine WX.region rfl ?_
              refine WXL.move Met.none rfl ?_
              refine WXL.assign Met.none rfl ?_
              refine WXL.nil ?_
              refine Fin.then_normal ?_
              refine WX.ret ?_
              refine Fin.block_ret ?_
              refine Fin.then_ret ?_
              refine Fin.loop_ret ?_
              refine Fin.block_ret ?_
              refine Fin.then_ret ?_
              first
              | (have hz : ∀ m rest, m < 18446744073709551616 → l = varU m ++ rest → False := fun m rest hm hl => by
                   obtain ⟨m', k1, k2, k3⟩ := g3 m rest hm hl
                   have := congrArg List.length k2
                   obtain ⟨t, ht⟩ := varU_head m'
                   rw [ht, List.length_drop, List.length_append, List.length_cons] at this
                   omega
                 exact Fin.result (O' := (r, ⟨0, false, [.slice a l.length c, I 3]⟩) :: O) (.inr rfl) rfl rfl (fun _ hs => hs) ⟨0, l, 3, rfl, by decide, ⟨a, c, rfl, fun _ h => h, hc, (fun q => by cases q)⟩, fun _ => by decide, Nat.le_refl _, hB, fun _ m rest hm hl => (hz m rest hm hl).elim⟩)
              | exact Fin.result (O' := (r, ⟨0, false, [.slice a l.length c, I e]⟩) :: O) (.inr rfl) rfl rfl (fun _ hs => hs) ⟨0, l, e, rfl, by decide, ⟨a, c, rfl, fun _ h => h, hc, fun q => absurd q hc0⟩, fun _ => hc0, Nat.le_refl _, hB, fun q => absurd q hc0⟩
              | (have hz : ∀ m rest, m < 18446744073709551616 → l = varU m ++ rest → False := fun m rest hm hl => by
                   obtain ⟨m', k1, k2, k3⟩ := g3 m rest hm hl
                   obtain ⟨t, ht⟩ := varU_head m'
                   rw [k2, ht, List.cons_append] at hdc
                   injection hdc with q1 _
                   have h9 : i = 9 → m' ≤ 1 := fun h => by
                     subst h
                     have : m' * 9223372036854775808 < 18446744073709551616 := by
                       have e : (128 ^ 9 : Nat) = 9223372036854775808 := by decide
                       rw [e] at k3
                       omega
                     omega
                   split at q1 <;> omega
                 exact Fin.result (O' := (r, ⟨0, false, [.slice a l.length c, I 2]⟩) :: O) (.inr rfl) rfl rfl (fun _ hs => hs) ⟨0, l, 2, rfl, by decide, ⟨a, c, rfl, fun _ h => h, hc, (fun q => by cases q)⟩, fun _ => by decide, Nat.le_refl _, hB, fun _ m rest hm hl => (hz m rest hm hl).elim⟩)
              | (have hdl : (l.drop (i + 1)).length = l.length - (i + 1) := List.length_drop
                 refine Fin.result (O' := (r, ⟨0, false, [.slice (some ⟨bb, off + (i + 1) * 1, none⟩) (l.length - (i + 1)) (l.length - (i + 1)), I e]⟩) :: O) (.inr rfl) rfl rfl (fun _ hs => hs) ⟨n + (c' % 128) * u, l.drop (i + 1), e, rfl, by omega, ⟨some ⟨bb, off + (i + 1) * 1, none⟩, l.length - (i + 1), by rw [hdl], fun O2 h => by rw [hdl, List.map_drop]; exact (ha ▸ h).suf (by omega), (fun q => by cases q), fun _ => ⟨_, _, rfl⟩⟩, id, by omega, fun z hz => hB z (List.mem_of_mem_drop hz), fun he m rest hm hl => ?_⟩
                 obtain ⟨m', k1, k2, k3⟩ := g3 m rest hm hl
                 rw [← hu] at k3
                 have hm2 : m' < 128 := by
                   rcases Nat.lt_or_ge m' 128 with q | q
                   · exact q
                   · rw [k2, varU_ge (by omega)] at hdc
                     injection hdc with q1 _
                     omega
                 rw [k2, varU_lt hm2] at hdc
                 injection hdc with q1 q2
                 have q3 : c' % 128 = m' := by omega
                 exact ⟨by rw [q3, k3], q2.symm, he⟩)
            · try simp only [cnd] at hc3
              refine WX.skip ?_
              refine Fin.block_normal ?_
              refine Fin.then_normal ?_
              refine WX.region rfl ?_
              refine WXL.move Met.none rfl ?_
              refine WXL.bin Met.none rfl rfl bvA ?_
              refine WXL.assign Met.none rfl ?_
              refine WXL.nil ?_
              refine Fin.loop_next (i + 1, n + (c' % 128) * u) ⟨by simp only; omega, ?_, ?_⟩ (by simp only; omega) ?_
              · simp only
                rw [Nat.pow_succ, ← hu]
                omega
              · intro m rest hm hl
                obtain ⟨m', k1, k2, k3⟩ := g3 m rest hm hl
                rw [← hu] at k3
                have hm2 : ¬ m' < 128 := fun q => by
                  rw [k2, varU_lt q] at hdc
                  injection hdc with q1 _
                  omega
                rw [k2, varU_ge hm2] at hdc
                injection hdc with q1 q2
                have q3 : m' % 128 = c' % 128 := by omega
                refine ⟨m' / 128, .inr (by omega), q2.symm, ?_⟩
                simp only
                rw [Nat.pow_succ, ← hu, ← k3]
                have q4 : m' = m' % 128 + 128 * (m' / 128) := by omega
                conv => rhs; rw [q4, Nat.add_mul, q3]
                rw [Nat.add_assoc]
                congr 2
                rw [Nat.mul_comm u 128, ← Nat.mul_assoc, Nat.mul_comm (m' / 128) 128]
              · rw [show IntKind.wrap .u64 ((u : Int) * 128) = ((128 ^ (i + 1) : Nat) : Int) from by
                  rw [Nat.pow_succ, ← hu]
                  exact (wrap_u64 (by omega) (by omega)).trans (by omega)]
                exact (fun s hs => hs.tl [0] 1)
        · try simp only [cnd] at hg40
          refine WXL.miss (j := 9) (d := 40) rfl rfl rfl ?_
          refine WXL.miss (j := 9) (d := 40) rfl rfl rfl ?_
          refine WXL.pick_f (Met.some rfl rfl rfl) rfl rfl ?_
          refine WXL.pick_f Met.none rfl rfl ?_
          refine WXL.nil ?_
          refine Fin.then_normal ?_
          refine WX.cond rfl (fun hc2 => nomatch hc2) (fun hc2 => ?_)
          refine WX.skip ?_
          refine Fin.then_normal ?_
          refine WX.seq ?_
          obtain ⟨u, hu⟩ : ∃ u, u = 128 ^ i := ⟨_, rfl⟩
          have hcu : (c' % 128) * u ≤ 127 * u := Nat.mul_le_mul_right _ (by omega)
          have hi8 : i ≤ 8 → 128 * u ≤ 9223372036854775808 := fun h => by
            rw [hu, Nat.mul_comm, ← Nat.pow_succ]
            exact (pow128 (i := i + 1) (by omega)).2
          have hi9 : i = 9 → (c' % 128) * u ≤ 1 * u := fun h => Nat.mul_le_mul_right _ (by omega)
          rw [← hu] at g2 p1 p2 ⊢
          refine WX.region rfl ?_
          refine WXL.move Met.none rfl ?_
          refine WXL.move Met.none rfl ?_
          refine WXL.rem Met.none rfl rfl (by decide) ?_
          refine WXL.conv Met.none rfl Try.underlying5 Try.underlying42 (show IntKind.wrap .u64 ((nth l i).tmod 128) = ((c' % 128 : Nat) : Int) from by rw [hc', Int.tmod_eq_emod_of_nonneg (by omega)]; exact (wrap_u64 (by omega) (by omega)).trans (by omega)) ?_
          refine WXL.move Met.none rfl ?_
          refine WXL.bin Met.none rfl rfl (show _ = some (U (((c' % 128) * u : Nat) : Int)) from congrArg (fun n => some (U n)) ((wrap_u64 (n := ((c' % 128 : Nat) : Int) * (u : Int)) (by rw [← Int.natCast_mul]; omega) (by rw [← Int.natCast_mul]; omega)).trans (Int.natCast_mul _ _).symm)) ?_
          refine WXL.bin Met.none rfl rfl (show _ = some (U ((n + (c' % 128) * u : Nat) : Int)) from congrArg (fun n => some (U n)) ((wrap_u64 (by omega) (by omega)).trans (by omega))) ?_
          refine WXL.assign Met.none rfl ?_
          refine WXL.nil ?_
          refine Fin.then_normal ?_
          refine WX.seq ?_
          refine WX.region rfl ?_
          refine WXL.move Met.none rfl ?_
          refine WXL.bin Met.none rfl rfl rfl ?_
          refine WXL.assign Met.none rfl ?_
          refine WXL.nil ?_
          refine Fin.then_normal ?_
          refine WX.seq ?_
          refine WX.region rfl ?_
          refine WXL.move Met.none rfl ?_
          refine WXL.bin Met.none rfl rfl rfl ?_
          refine WXL.nil ?_
          refine Fin.then_normal ?_
          refine WX.cond rfl (fun hc3 => ?_) (fun hc3 => ?_)
          · try simp only [cnd] at hc3
            refine WX.seq ?_
            obtain ⟨bb, off, ⟨qsz, qro, qc⟩, ha, hkq, hqs⟩ := hr.some (by omega)
            have hqs : qsz = 1 := hqs
            subst hqs
            refine WX.region rfl ?_
            refine WXL.move Met.none rfl ?_
            refine WXL.move Met.none rfl ?_
            refine WXL.nilCheck Met.none rfl ?_
            first | refine WXL.fieldAddr Met.none rfl Try.underlying106 rfl sz23 rfl ?_ | refine WXL.faS Met.none rfl Try.underlying106 rfl sz23 ?_
            first | refine WXL.ld Met.none rfl agg23 ?_ | refine WXL.ldS Met.none rfl agg23 ?_
            refine WXL.move Met.none rfl ?_
            refine WXL.bin Met.none rfl rfl bvA ?_
            refine WXL.suf (cs := []) (m := (i + 1)) Met.none rfl rfl elem23 sz5 ha hkq.cons rfl ?_
            refine WXL.nilCheck Met.none rfl ?_
            first | refine WXL.fieldAddr Met.none rfl Try.underlying106 rfl sz23 rfl ?_ | refine WXL.faS Met.none rfl Try.underlying106 rfl sz23 ?_
            refine WXL.st (vs := [_]) Met.none rfl rfl rfl sz23 ?_
            refine WXL.nil ?_
            refine Fin.then_normal ?_
            refine WX.seq ?_
            refine WX.region rfl ?_
            refine WXL.move Met.none rfl ?_
            refine WXL.assign Met.none rfl ?_
            refine WXL.nil ?_
            refine Fin.then_normal ?_
            refine WX.ret ?_
            refine Fin.block_ret ?_
            refine Fin.then_ret ?_
            refine Fin.loop_ret ?_
            refine Fin.block_ret ?_
            refine Fin.then_ret ?_
            first
            | (have hz : ∀ m rest, m < 18446744073709551616 → l = varU m ++ rest → False := fun m rest hm hl => by
                 obtain ⟨m', k1, k2, k3⟩ := g3 m rest hm hl
                 have := congrArg List.length k2
                 obtain ⟨t, ht⟩ := varU_head m'
                 rw [ht, List.length_drop, List.length_append, List.length_cons] at this
                 omega
               exact Fin.result (O' := (r, ⟨0, false, [.slice a l.length c, I 3]⟩) :: O) (.inr rfl) rfl rfl (fun _ hs => hs) ⟨0, l, 3, rfl, by decide, ⟨a, c, rfl, fun _ h => h, hc, (fun q => by cases q)⟩, fun _ => by decide, Nat.le_refl _, hB, fun _ m rest hm hl => (hz m rest hm hl).elim⟩)
            | exact Fin.result (O' := (r, ⟨0, false, [.slice a l.length c, I e]⟩) :: O) (.inr rfl) rfl rfl (fun _ hs => hs) ⟨0, l, e, rfl, by decide, ⟨a, c, rfl, fun _ h => h, hc, fun q => absurd q hc0⟩, fun _ => hc0, Nat.le_refl _, hB, fun q => absurd q hc0⟩
            | (have hz : ∀ m rest, m < 18446744073709551616 → l = varU m ++ rest → False := fun m rest hm hl => by
                 obtain ⟨m', k1, k2, k3⟩ := g3 m rest hm hl
                 obtain ⟨t, ht⟩ := varU_head m'
                 rw [k2, ht, List.cons_append] at hdc
                 injection hdc with q1 _
                 have h9 : i = 9 → m' ≤ 1 := fun h => by
                   subst h
                   have : m' * 9223372036854775808 < 18446744073709551616 := by
                     have e : (128 ^ 9 : Nat) = 9223372036854775808 := by decide
                     rw [e] at k3
                     omega
                   omega
                 split at q1 <;> omega
               exact Fin.result (O' := (r, ⟨0, false, [.slice a l.length c, I 2]⟩) :: O) (.inr rfl) rfl rfl (fun _ hs => hs) ⟨0, l, 2, rfl, by decide, ⟨a, c, rfl, fun _ h => h, hc, (fun q => by cases q)⟩, fun _ => by decide, Nat.le_refl _, hB, fun _ m rest hm hl => (hz m rest hm hl).elim⟩)
            | (have hdl : (l.drop (i + 1)).length = l.length - (i + 1) := List.length_drop
               refine Fin.result (O' := (r, ⟨0, false, [.slice (some ⟨bb, off + (i + 1) * 1, none⟩) (l.length - (i + 1)) (l.length - (i + 1)), I e]⟩) :: O) (.inr rfl) rfl rfl (fun _ hs => hs) ⟨n + (c' % 128) * u, l.drop (i + 1), e, rfl, by omega, ⟨some ⟨bb, off + (i + 1) * 1, none⟩, l.length - (i + 1), by rw [hdl], fun O2 h => by rw [hdl, List.map_drop]; exact (ha ▸ h).suf (by omega), (fun q => by cases q), fun _ => ⟨_, _, rfl⟩⟩, id, by omega, fun z hz => hB z (List.mem_of_mem_drop hz), fun he m rest hm hl => ?_⟩
               obtain ⟨m', k1, k2, k3⟩ := g3 m rest hm hl
               rw [← hu] at k3
               have hm2 : m' < 128 := by
                 rcases Nat.lt_or_ge m' 128 with q | q
                 · exact q
                 · rw [k2, varU_ge (by omega)] at hdc
                   injection hdc with q1 _
                   omega
               rw [k2, varU_lt hm2] at hdc
               injection hdc with q1 q2
               have q3 : c' % 128 = m' := by omega
               exact ⟨by rw [q3, k3], q2.symm, he⟩)
          · try simp only [cnd] at hc3
            refine WX.skip ?_
            refine Fin.block_normal ?_
            refine Fin.then_normal ?_
            refine WX.region rfl ?_
            refine WXL.move Met.none rfl ?_
            refine WXL.bin Met.none rfl rfl bvA ?_
            refine WXL.assign Met.none rfl ?_
            refine WXL.nil ?_
            refine Fin.loop_next (i + 1, n + (c' % 128) * u) ⟨by simp only; omega, ?_, ?_⟩ (by simp only; omega) ?_
            · simp only
              rw [Nat.pow_succ, ← hu]
              omega
            · intro m rest hm hl
              obtain ⟨m', k1, k2, k3⟩ := g3 m rest hm hl
              rw [← hu] at k3
              have hm2 : ¬ m' < 128 := fun q => by
                rw [k2, varU_lt q] at hdc
                injection hdc with q1 _
                omega
              rw [k2, varU_ge hm2] at hdc
              injection hdc with q1 q2
              have q3 : m' % 128 = c' % 128 := by omega
              refine ⟨m' / 128, .inr (by omega), q2.symm, ?_⟩
              simp only
              rw [Nat.pow_succ, ← hu, ← k3]
              have q4 : m' = m' % 128 + 128 * (m' / 128) := by omega
              conv => rhs; rw [q4, Nat.add_mul, q3]
              rw [Nat.add_assoc]
              congr 2
              rw [Nat.mul_comm u 128, ← Nat.mul_assoc, Nat.mul_comm (m' / 128) 128]
            · rw [show IntKind.wrap .u64 ((u : Int) * 128) = ((128 ^ (i + 1) : Nat) : Int) from by
                rw [Nat.pow_succ, ← hu]
                exact (wrap_u64 (by omega) (by omega)).trans (by omega)]
              exact (fun s hs => hs.tl [0] 1)
  · try simp only [cnd] at hc0
    refine WX.exit ?_
    refine Fin.then_exit ?_
    refine Fin.loop_exit ?_
    refine Fin.block_hit rfl ?_
    refine Fin.then_normal ?_
    refine WX.seq ?_
    refine WX.region rfl ?_
    refine WXL.assign Met.none rfl ?_
    refine WXL.nil ?_
    refine Fin.then_normal ?_
    refine WX.ret ?_
    first
    | (have hz : ∀ m rest, m < 18446744073709551616 → l = varU m ++ rest → False := fun m rest hm hl => by
         obtain ⟨m', k1, k2, k3⟩ := g3 m rest hm hl
         have := congrArg List.length k2
         obtain ⟨t, ht⟩ := varU_head m'
         rw [ht, List.length_drop, List.length_append, List.length_cons] at this
         omega
       exact Fin.result (O' := (r, ⟨0, false, [.slice a l.length c, I 3]⟩) :: O) (.inr rfl) rfl rfl (fun _ hs => hs) ⟨0, l, 3, rfl, by decide, ⟨a, c, rfl, fun _ h => h, hc, (fun q => by cases q)⟩, fun _ => by decide, Nat.le_refl _, hB, fun _ m rest hm hl => (hz m rest hm hl).elim⟩)
    | exact Fin.result (O' := (r, ⟨0, false, [.slice a l.length c, I e]⟩) :: O) (.inr rfl) rfl rfl (fun _ hs => hs) ⟨0, l, e, rfl, by decide, ⟨a, c, rfl, fun _ h => h, hc, fun q => absurd q hc0⟩, fun _ => hc0, Nat.le_refl _, hB, fun q => absurd q hc0⟩
    | (have hz : ∀ m rest, m < 18446744073709551616 → l = varU m ++ rest → False := fun m rest hm hl => by
         obtain ⟨m', k1, k2, k3⟩ := g3 m rest hm hl
         obtain ⟨t, ht⟩ := varU_head m'
         rw [k2, ht, List.cons_append] at hdc
         injection hdc with q1 _
         have h9 : i = 9 → m' ≤ 1 := fun h => by
           subst h
           have : m' * 9223372036854775808 < 18446744073709551616 := by
             have e : (128 ^ 9 : Nat) = 9223372036854775808 := by decide
             rw [e] at k3
             omega
           omega
         split at q1 <;> omega
       exact Fin.result (O' := (r, ⟨0, false, [.slice a l.length c, I 2]⟩) :: O) (.inr rfl) rfl rfl (fun _ hs => hs) ⟨0, l, 2, rfl, by decide, ⟨a, c, rfl, fun _ h => h, hc, (fun q => by cases q)⟩, fun _ => by decide, Nat.le_refl _, hB, fun _ m rest hm hl => (hz m rest hm hl).elim⟩)
    | (have hdl : (l.drop (i + 1)).length = l.length - (i + 1) := List.length_drop
       refine Fin.result (O' := (r, ⟨0, false, [.slice (some ⟨bb, off + (i + 1) * 1, none⟩) (l.length - (i + 1)) (l.length - (i + 1)), I e]⟩) :: O) (.inr rfl) rfl rfl (fun _ hs => hs) ⟨n + (c' % 128) * u, l.drop (i + 1), e, rfl, by omega, ⟨some ⟨bb, off + (i + 1) * 1, none⟩, l.length - (i + 1), by rw [hdl], fun O2 h => by rw [hdl, List.map_drop]; exact (ha ▸ h).suf (by omega), (fun q => by cases q), fun _ => ⟨_, _, rfl⟩⟩, id, by omega, fun z hz => hB z (List.mem_of_mem_drop hz), fun he m rest hm hl => ?_⟩
       obtain ⟨m', k1, k2, k3⟩ := g3 m rest hm hl
       rw [← hu] at k3
       have hm2 : m' < 128 := by
         rcases Nat.lt_or_ge m' 128 with q | q
         · exact q
         · rw [k2, varU_ge (by omega)] at hdc
           injection hdc with q1 _
           omega
       rw [k2, varU_lt hm2] at hdc
       injection hdc with q1 q2
       have q3 : c' % 128 = m' := by omega
       exact ⟨by rw [q3, k3], q2.symm, he⟩)

end Go.Proofs.Ythekokdpplobhaa.Eng

set_option linter.unusedVariables false
set_option linter.unusedSimpArgs false
namespace Go.Proofs.Ythekokdpplobhaa.Eng

theorem refLength_ok (O : Objs) (r : Nat) (l : List Int) (e : Int) (a : Option Addr) (c : Nat) (hB : Bytes l) (hlen : l.length ≤ 1000000000000) (hr : Rowy O 1 a l.length (l.map B8)) (hc : a = none → c = 0) :
    Spec Try.prog false 79 #[Ptr r 0] ((r, ⟨0, false, [.slice a l.length c, I e]⟩) :: O) fun v O' => ∃ n l' e', v = I (n : Nat) ∧ (e' = 0 → n ≤ l'.length) ∧ RrO O r a l l' e' O' ∧ (e ≠ 0 → e' ≠ 0) ∧ l'.length ≤ l.length ∧ Bytes l' ∧ (e = 0 → ∀ m rest, m < 18446744073709551616 → m ≤ rest.length → l = varU m ++ rest → n = m ∧ l' = rest ∧ e' = 0) := by
  refine Spec.enter (args := [_]) (m := 31) Try.func79 rfl rfl (by decide +kernel) fun h0 => ?_
  refine WX.seq ?_
  refine WX.region rfl ?_
  refine WXL.assign Met.none rfl ?_
  refine WXL.nil ?_
  refine Fin.then_normal ?_
  refine WX.seq ?_
  refine WX.region rfl ?_
  refine WXL.move Met.none rfl ?_
  refine WXL.cl (O1 := _) Met.none rfl (fnOk_of Try.func81 (by decide +kernel)) rfl (fun _ h => h) (refRUint_ok O r l e a c hB hlen hr hc) (fun v O' hp => ?_)
  obtain ⟨n, l1, e1, rfl, hn, ⟨a1, c1, rfl, kr1, kc1, ka1⟩, he1, hl1, hB1, hm1⟩ := hp
  have hr1 := kr1 O hr
  refine WXL.assign Met.none rfl ?_
  refine WXL.nil ?_
  refine Fin.then_normal ?_
  refine WX.seq ?_
  refine WX.seq ?_
  refine WX.region rfl ?_
  refine WXL.move Met.none rfl ?_
  refine WXL.nilCheck Met.none rfl ?_
  first | refine WXL.fieldAddr Met.none rfl Try.underlying106 rfl sz47 rfl ?_ | refine WXL.faS Met.none rfl Try.underlying106 rfl sz47 ?_
  first | refine WXL.ld Met.none rfl agg47 ?_ | refine WXL.ldS Met.none rfl agg47 ?_
  refine WXL.bin Met.none rfl rfl rfl ?_
  refine WXL.move Met.none rfl ?_
  refine WXL.split (d := 11) rfl (fun hg11 => ?_) (fun hg11 => ?_)
  · try simp only [cnd] at hg11
    refine WXL.move (Met.some rfl rfl rfl) rfl ?_
    refine WXL.move (Met.some rfl rfl rfl) rfl ?_
    refine WXL.nilCheck (Met.some rfl rfl rfl) rfl ?_
    first | refine WXL.fieldAddr (Met.some rfl rfl rfl) rfl Try.underlying106 rfl sz23 rfl ?_ | refine WXL.faS (Met.some rfl rfl rfl) rfl Try.underlying106 rfl sz23 ?_
    first | refine WXL.ld (Met.some rfl rfl rfl) rfl agg23 ?_ | refine WXL.ldS (Met.some rfl rfl rfl) rfl agg23 ?_
    refine WXL.len (Met.some rfl rfl rfl) rfl Try.underlying23 ?_
    refine WXL.conv (Met.some rfl rfl rfl) rfl Try.underlying3 Try.underlying42 (wrap_u64 (by omega) (by omega)) ?_
    refine WXL.bin (Met.some rfl rfl rfl) rfl rfl rfl ?_
    refine WXL.pick_t Met.none rfl rfl ?_
    refine WXL.nil ?_
    refine Fin.then_normal ?_
    refine WX.cond rfl (fun hc0 => ?_) (fun hc0 => ?_)
    · try simp only [cnd] at hc0
      refine WX.region rfl ?_
      refine WXL.move Met.none rfl ?_
      refine WXL.nilCheck Met.none rfl ?_
      first | refine WXL.fieldAddr Met.none rfl Try.underlying106 rfl sz47 rfl ?_ | refine WXL.faS Met.none rfl Try.underlying106 rfl sz47 ?_
      refine WXL.st (vs := [_]) Met.none rfl rfl rfl sz47 ?_
      refine WXL.nil ?_
      refine Fin.then_normal ?_
      refine WX.seq ?_
      refine WX.seq ?_
      refine WX.region rfl ?_
      refine WXL.move Met.none rfl ?_
      refine WXL.nilCheck Met.none rfl ?_
      first | refine WXL.fieldAddr Met.none rfl Try.underlying106 rfl sz47 rfl ?_ | refine WXL.faS Met.none rfl Try.underlying106 rfl sz47 ?_
      first | refine WXL.ld Met.none rfl agg47 ?_ | refine WXL.ldS Met.none rfl agg47 ?_
      refine WXL.bin Met.none rfl rfl rfl ?_
      refine WXL.nil ?_
      refine Fin.then_normal ?_
      refine WX.cond rfl (fun hc1 => ?_) (fun hc1 => ?_)
      · try simp only [cnd] at hc1
        refine WX.seq ?_
        refine WX.region rfl ?_
        refine WXL.assign Met.none rfl ?_
        refine WXL.nil ?_
        refine Fin.then_normal ?_
        refine WX.ret ?_
        refine Fin.then_ret ?_
        first
        | exact Fin.result (O' := (r, ⟨0, false, [.slice a1 l1.length c1, I e1]⟩) :: O) (.inr rfl) rfl rfl (fun _ hs => hs) ⟨n, l1, e1, rfl, fun _ => by omega, ⟨a1, c1, rfl, kr1, kc1, ka1⟩, he1, hl1, hB1, fun he m rest hm _ hl => hm1 he m rest hm hl⟩
        | exact Fin.result (O' := (r, ⟨0, false, [.slice a1 l1.length c1, I 3]⟩) :: O) (.inr rfl) rfl rfl (fun _ hs => hs) ⟨0, l1, 3, rfl, fun _ => by omega, ⟨a1, c1, rfl, kr1, kc1, (fun q => by cases q)⟩, fun _ => by decide, hl1, hB1, fun he m rest hm hm2 hl => by
            obtain ⟨q1, q2, q3⟩ := hm1 he m rest hm hl
            subst q1 q2
            omega⟩
        | exact Fin.result (O' := (r, ⟨0, false, [.slice a1 l1.length c1, I e1]⟩) :: O) (.inr rfl) rfl rfl (fun _ hs => hs) ⟨0, l1, e1, rfl, fun _ => by omega, ⟨a1, c1, rfl, kr1, kc1, ka1⟩, he1, hl1, hB1, fun he m rest hm hm2 hl => by
            obtain ⟨q1, q2, q3⟩ := hm1 he m rest hm hl
            omega⟩
        | exact absurd hc1 (by decide)
      · try simp only [cnd] at hc1
        refine WX.skip ?_
        refine Fin.then_normal ?_
        refine WX.seq ?_
        refine WX.region rfl ?_
        refine WXL.move Met.none rfl ?_
        refine WXL.conv Met.none rfl Try.underlying42 Try.underlying3 (wrap_i64 (by omega) (by omega)) ?_
        refine WXL.assign Met.none rfl ?_
        refine WXL.nil ?_
        refine Fin.then_normal ?_
        refine WX.ret ?_
        first
        | exact Fin.result (O' := (r, ⟨0, false, [.slice a1 l1.length c1, I e1]⟩) :: O) (.inr rfl) rfl rfl (fun _ hs => hs) ⟨n, l1, e1, rfl, fun _ => by omega, ⟨a1, c1, rfl, kr1, kc1, ka1⟩, he1, hl1, hB1, fun he m rest hm _ hl => hm1 he m rest hm hl⟩
        | exact Fin.result (O' := (r, ⟨0, false, [.slice a1 l1.length c1, I 3]⟩) :: O) (.inr rfl) rfl rfl (fun _ hs => hs) ⟨0, l1, 3, rfl, fun _ => by omega, ⟨a1, c1, rfl, kr1, kc1, (fun q => by cases q)⟩, fun _ => by decide, hl1, hB1, fun he m rest hm hm2 hl => by
            obtain ⟨q1, q2, q3⟩ := hm1 he m rest hm hl
            subst q1 q2
            omega⟩
        | exact Fin.result (O' := (r, ⟨0, false, [.slice a1 l1.length c1, I e1]⟩) :: O) (.inr rfl) rfl rfl (fun _ hs => hs) ⟨0, l1, e1, rfl, fun _ => by omega, ⟨a1, c1, rfl, kr1, kc1, ka1⟩, he1, hl1, hB1, fun he m rest hm hm2 hl => by
            obtain ⟨q1, q2, q3⟩ := hm1 he m rest hm hl
            omega⟩
        | exact absurd hc1 (by decide)
    · try simp only [cnd] at hc0
      refine WX.skip ?_
      refine Fin.then_normal ?_
      refine WX.seq ?_
      refine WX.seq ?_
      refine WX.region rfl ?_
      refine WXL.move Met.none rfl ?_
      refine WXL.nilCheck Met.none rfl ?_
      first | refine WXL.fieldAddr Met.none rfl Try.underlying106 rfl sz47 rfl ?_ | refine WXL.faS Met.none rfl Try.underlying106 rfl sz47 ?_
      first | refine WXL.ld Met.none rfl agg47 ?_ | refine WXL.ldS Met.none rfl agg47 ?_
      refine WXL.bin Met.none rfl rfl rfl ?_
      refine WXL.nil ?_
      refine Fin.then_normal ?_
      refine WX.cond rfl (fun hc1 => ?_) (fun hc1 => ?_)
      · try simp only [cnd] at hc1
        refine WX.seq ?_
        refine WX.region rfl ?_
        refine WXL.assign Met.none rfl ?_
        refine WXL.nil ?_
        refine Fin.then_normal ?_
        refine WX.ret ?_
        refine Fin.then_ret ?_
        first
        | exact Fin.result (O' := (r, ⟨0, false, [.slice a1 l1.length c1, I e1]⟩) :: O) (.inr rfl) rfl rfl (fun _ hs => hs) ⟨n, l1, e1, rfl, fun _ => by omega, ⟨a1, c1, rfl, kr1, kc1, ka1⟩, he1, hl1, hB1, fun he m rest hm _ hl => hm1 he m rest hm hl⟩
        | exact Fin.result (O' := (r, ⟨0, false, [.slice a1 l1.length c1, I 3]⟩) :: O) (.inr rfl) rfl rfl (fun _ hs => hs) ⟨0, l1, 3, rfl, fun _ => by omega, ⟨a1, c1, rfl, kr1, kc1, (fun q => by cases q)⟩, fun _ => by decide, hl1, hB1, fun he m rest hm hm2 hl => by
            obtain ⟨q1, q2, q3⟩ := hm1 he m rest hm hl
            subst q1 q2
            omega⟩
        | exact Fin.result (O' := (r, ⟨0, false, [.slice a1 l1.length c1, I e1]⟩) :: O) (.inr rfl) rfl rfl (fun _ hs => hs) ⟨0, l1, e1, rfl, fun _ => by omega, ⟨a1, c1, rfl, kr1, kc1, ka1⟩, he1, hl1, hB1, fun he m rest hm hm2 hl => by
            obtain ⟨q1, q2, q3⟩ := hm1 he m rest hm hl
            omega⟩
        | exact absurd hc1 (by decide)
      · try simp only [cnd] at hc1
        refine WX.skip ?_
        refine Fin.then_normal ?_
        refine WX.seq ?_
        refine WX.region rfl ?_
        refine WXL.move Met.none rfl ?_
        refine WXL.conv Met.none rfl Try.underlying42 Try.underlying3 (wrap_i64 (by omega) (by omega)) ?_
        refine WXL.assign Met.none rfl ?_
        refine WXL.nil ?_
        refine Fin.then_normal ?_
        refine WX.ret ?_
        first
        | exact Fin.result (O' := (r, ⟨0, false, [.slice a1 l1.length c1, I e1]⟩) :: O) (.inr rfl) rfl rfl (fun _ hs => hs) ⟨n, l1, e1, rfl, fun _ => by omega, ⟨a1, c1, rfl, kr1, kc1, ka1⟩, he1, hl1, hB1, fun he m rest hm _ hl => hm1 he m rest hm hl⟩
        | exact Fin.result (O' := (r, ⟨0, false, [.slice a1 l1.length c1, I 3]⟩) :: O) (.inr rfl) rfl rfl (fun _ hs => hs) ⟨0, l1, 3, rfl, fun _ => by omega, ⟨a1, c1, rfl, kr1, kc1, (fun q => by cases q)⟩, fun _ => by decide, hl1, hB1, fun he m rest hm hm2 hl => by
            obtain ⟨q1, q2, q3⟩ := hm1 he m rest hm hl
            subst q1 q2
            omega⟩
        | exact Fin.result (O' := (r, ⟨0, false, [.slice a1 l1.length c1, I e1]⟩) :: O) (.inr rfl) rfl rfl (fun _ hs => hs) ⟨0, l1, e1, rfl, fun _ => by omega, ⟨a1, c1, rfl, kr1, kc1, ka1⟩, he1, hl1, hB1, fun he m rest hm hm2 hl => by
            obtain ⟨q1, q2, q3⟩ := hm1 he m rest hm hl
            omega⟩
        | exact absurd hc1 (by decide)
  · try simp only [cnd] at hg11
    refine WXL.miss (j := 5) (d := 11) rfl rfl rfl ?_
    refine WXL.miss (j := 5) (d := 11) rfl rfl rfl ?_
    refine WXL.miss (j := 5) (d := 11) rfl rfl rfl ?_
    refine WXL.miss (j := 5) (d := 11) rfl rfl rfl ?_
    refine WXL.miss (j := 5) (d := 11) rfl rfl rfl ?_
    refine WXL.miss (j := 5) (d := 11) rfl rfl rfl ?_
    refine WXL.miss (j := 5) (d := 11) rfl rfl rfl ?_
    refine WXL.miss (j := 5) (d := 11) rfl rfl rfl ?_
    refine WXL.pick_f Met.none rfl rfl ?_
    refine WXL.nil ?_
    refine Fin.then_normal ?_
    refine WX.cond rfl (fun hc0 => nomatch hc0) (fun hc0 => ?_)
    refine WX.skip ?_
    refine Fin.then_normal ?_
    refine WX.seq ?_
    refine WX.seq ?_
    refine WX.region rfl ?_
    refine WXL.move Met.none rfl ?_
    refine WXL.nilCheck Met.none rfl ?_
    first | refine WXL.fieldAddr Met.none rfl Try.underlying106 rfl sz47 rfl ?_ | refine WXL.faS Met.none rfl Try.underlying106 rfl sz47 ?_
    first | refine WXL.ld Met.none rfl agg47 ?_ | refine WXL.ldS Met.none rfl agg47 ?_
    refine WXL.bin Met.none rfl rfl rfl ?_
    refine WXL.nil ?_
    refine Fin.then_normal ?_
    refine WX.cond rfl (fun hc1 => ?_) (fun hc1 => ?_)
    · try simp only [cnd] at hc1
      refine WX.seq ?_
      refine WX.region rfl ?_
      refine WXL.assign Met.none rfl ?_
      refine WXL.nil ?_
      refine Fin.then_normal ?_
      refine WX.ret ?_
      refine Fin.then_ret ?_
      first
      | exact Fin.result (O' := (r, ⟨0, false, [.slice a1 l1.length c1, I e1]⟩) :: O) (.inr rfl) rfl rfl (fun _ hs => hs) ⟨n, l1, e1, rfl, fun _ => by omega, ⟨a1, c1, rfl, kr1, kc1, ka1⟩, he1, hl1, hB1, fun he m rest hm _ hl => hm1 he m rest hm hl⟩
      | exact Fin.result (O' := (r, ⟨0, false, [.slice a1 l1.length c1, I 3]⟩) :: O) (.inr rfl) rfl rfl (fun _ hs => hs) ⟨0, l1, 3, rfl, fun _ => by omega, ⟨a1, c1, rfl, kr1, kc1, (fun q => by cases q)⟩, fun _ => by decide, hl1, hB1, fun he m rest hm hm2 hl => by
          obtain ⟨q1, q2, q3⟩ := hm1 he m rest hm hl
          subst q1 q2
          omega⟩
      | exact Fin.result (O' := (r, ⟨0, false, [.slice a1 l1.length c1, I e1]⟩) :: O) (.inr rfl) rfl rfl (fun _ hs => hs) ⟨0, l1, e1, rfl, fun _ => by omega, ⟨a1, c1, rfl, kr1, kc1, ka1⟩, he1, hl1, hB1, fun he m rest hm hm2 hl => by
          obtain ⟨q1, q2, q3⟩ := hm1 he m rest hm hl
          omega⟩
      | exact absurd hc1 (by decide)
    · try simp only [cnd] at hc1
      refine WX.skip ?_
      refine Fin.then_normal ?_
      refine WX.seq ?_
      refine WX.region rfl ?_
      refine WXL.move Met.none rfl ?_
      refine WXL.conv Met.none rfl Try.underlying42 Try.underlying3 (wrap_i64 (by omega) (by omega)) ?_
      refine WXL.assign Met.none rfl ?_
      refine WXL.nil ?_
      refine Fin.then_normal ?_
      refine WX.ret ?_
      first
      | exact Fin.result (O' := (r, ⟨0, false, [.slice a1 l1.length c1, I e1]⟩) :: O) (.inr rfl) rfl rfl (fun _ hs => hs) ⟨n, l1, e1, rfl, fun _ => by omega, ⟨a1, c1, rfl, kr1, kc1, ka1⟩, he1, hl1, hB1, fun he m rest hm _ hl => hm1 he m rest hm hl⟩
      | exact Fin.result (O' := (r, ⟨0, false, [.slice a1 l1.length c1, I 3]⟩) :: O) (.inr rfl) rfl rfl (fun _ hs => hs) ⟨0, l1, 3, rfl, fun _ => by omega, ⟨a1, c1, rfl, kr1, kc1, (fun q => by cases q)⟩, fun _ => by decide, hl1, hB1, fun he m rest hm hm2 hl => by
          obtain ⟨q1, q2, q3⟩ := hm1 he m rest hm hl
          subst q1 q2
          omega⟩
      | exact Fin.result (O' := (r, ⟨0, false, [.slice a1 l1.length c1, I e1]⟩) :: O) (.inr rfl) rfl rfl (fun _ hs => hs) ⟨0, l1, e1, rfl, fun _ => by omega, ⟨a1, c1, rfl, kr1, kc1, ka1⟩, he1, hl1, hB1, fun he m rest hm hm2 hl => by
          obtain ⟨q1, q2, q3⟩ := hm1 he m rest hm hl
          omega⟩
      | exact absurd hc1 (by decide)

theorem refRRaw_ok (O : Objs) (r : Nat) (l : List Int) (e : Int) (a : Option Addr) (c : Nat) (hB : Bytes l) (hlen : l.length ≤ 1000000000000) (hr : Rowy O 1 a l.length (l.map B8)) (hc : a = none → c = 0) :
    Spec Try.prog false 68 #[Ptr r 0] ((r, ⟨0, false, [.slice a l.length c, I e]⟩) :: O) fun v O' => ∃ x l' e' ax cx, v = .slice ax (x : List Int).length cx ∧ (∀ O2, Rowy O2 1 a l.length (l.map B8) → Rowy O2 1 ax x.length (x.map B8)) ∧ (ax = none → cx = 0) ∧ RrO O r a l l' e' O' ∧ (e ≠ 0 → e' ≠ 0) ∧ x.length ≤ l.length ∧ Bytes x ∧ l'.length ≤ l.length ∧ Bytes l' ∧ (e = 0 → ∀ y rest, y.length < 18446744073709551616 → l = rawB y ++ rest → x = y ∧ l' = rest ∧ e' = 0) := by
  refine Spec.enter (args := [_]) (m := 28) Try.func68 rfl rfl (by decide +kernel) fun h0 => ?_
  refine WX.seq ?_
  refine WX.region rfl ?_
  refine WXL.assign Met.none rfl ?_
  refine WXL.nil ?_
  refine Fin.then_normal ?_
  refine WX.seq ?_
  refine WX.region rfl ?_
  refine WXL.move Met.none rfl ?_
  refine WXL.cl (O1 := _) Met.none rfl (fnOk_of Try.func79 (by decide +kernel)) rfl (fun _ h => h) (refLength_ok O r l e a c hB hlen hr hc) (fun v O' hp => ?_)
  obtain ⟨n, l1, e1, rfl, hn, ⟨a1, c1, rfl, kr1, kc1, ka1⟩, he1, hl1, hB1, hm1⟩ := hp
  have hr1 := kr1 O hr
  refine WXL.assign Met.none rfl ?_
  refine WXL.nil ?_
  refine Fin.then_normal ?_
  refine WX.seq ?_
  refine WX.seq ?_
  refine WX.region rfl ?_
  refine WXL.move Met.none rfl ?_
  refine WXL.nilCheck Met.none rfl ?_
  first | refine WXL.fieldAddr Met.none rfl Try.underlying106 rfl sz47 rfl ?_ | refine WXL.faS Met.none rfl Try.underlying106 rfl sz47 ?_
  first | refine WXL.ld Met.none rfl agg47 ?_ | refine WXL.ldS Met.none rfl agg47 ?_
  refine WXL.bin Met.none rfl rfl rfl ?_
  refine WXL.nil ?_
  refine Fin.then_normal ?_
  refine WX.cond rfl (fun hc0 => ?_) (fun hc0 => ?_)
  · try simp only [cnd] at hc0
    refine WX.seq ?_
    refine WX.region rfl ?_
    refine WXL.assign Met.none rfl ?_
    refine WXL.nil ?_
    refine Fin.then_normal ?_
    refine WX.ret ?_
    refine Fin.then_ret ?_
    first
    | exact Fin.result (O' := (r, ⟨0, false, [.slice a1 l1.length c1, I e1]⟩) :: O) (.inr rfl) rfl rfl (fun _ hs => hs) ⟨[], l1, e1, none, 0, rfl, fun _ _ => .inl ⟨rfl, rfl, rfl⟩, fun _ => rfl, ⟨a1, c1, rfl, kr1, kc1, ka1⟩, he1, Nat.zero_le _, (fun z hz => by simp at hz), hl1, hB1, fun he y rest hy hl => by
        have := (hm1 he y.length (y ++ rest) hy (by rw [List.length_append]; omega) (by rw [hl]; unfold rawB; rw [List.append_assoc])).2.2
        omega⟩
    | (refine Fin.result (O' := (r, ⟨0, false, [.slice (some ⟨bb, off + n * 1, none⟩) (l1.length - n) (l1.length - n), I e1]⟩) :: O) (.inr rfl) rfl rfl (fun _ hs => hs) ⟨l1.take n, l1.drop n, e1, some ⟨bb, off, none⟩, n, by rw [htl]; rfl, fun O2 h => by have h4 := (kr1 O2 h).pre (m := n) (by omega); rw [Nat.mul_one, ← List.map_take] at h4; rw [htl]; exact h4, (fun q => by cases q), ⟨some ⟨bb, off + n * 1, none⟩, l1.length - n, by rw [hdl], fun O2 h => by rw [hdl, List.map_drop]; exact (kr1 O2 h).suf (by omega), (fun q => by cases q), fun _ => ⟨_, _, rfl⟩⟩, he1, by omega, fun z hz => hB1 z (List.mem_of_mem_take hz), by omega, fun z hz => hB1 z (List.mem_of_mem_drop hz), fun he y rest hy hl => ?_⟩
       obtain ⟨q1, q2, q3⟩ := hm1 he y.length (y ++ rest) hy (by rw [List.length_append]; omega) (by rw [hl]; unfold rawB; rw [List.append_assoc])
       subst q1 q2
       exact ⟨List.take_left, List.drop_left, q3⟩)
  · try simp only [cnd] at hc0
    refine WX.skip ?_
    refine Fin.then_normal ?_
    refine WX.seq ?_
    have hnl := hn (by omega)
    obtain ⟨bb, off, rfl⟩ := ka1 (by omega)
    obtain ⟨⟨qsz, qro, qc⟩, hkq, hqs⟩ := hr1.known
    have hqs : qsz = 1 := hqs
    subst hqs
    have htl : (l1.take n).length = n := by rw [List.length_take]; omega
    have hdl : (l1.drop n).length = l1.length - n := List.length_drop
    refine WX.region rfl ?_
    refine WXL.move Met.none rfl ?_
    refine WXL.nilCheck Met.none rfl ?_
    first | refine WXL.fieldAddr Met.none rfl Try.underlying106 rfl sz23 rfl ?_ | refine WXL.faS Met.none rfl Try.underlying106 rfl sz23 ?_
    first | refine WXL.ld Met.none rfl agg23 ?_ | refine WXL.ldS Met.none rfl agg23 ?_
    refine WXL.move Met.none rfl ?_
    refine WXL.pre (m := n) Met.none rfl rfl elem23 sz5 hr1.cons (fun q => by cases q) ?_
    refine WXL.assign Met.none rfl ?_
    refine WXL.nil ?_
    refine Fin.then_normal ?_
    refine WX.seq ?_
    refine WX.region rfl ?_
    refine WXL.move Met.none rfl ?_
    refine WXL.move Met.none rfl ?_
    refine WXL.nilCheck Met.none rfl ?_
    first | refine WXL.fieldAddr Met.none rfl Try.underlying106 rfl sz23 rfl ?_ | refine WXL.faS Met.none rfl Try.underlying106 rfl sz23 ?_
    first | refine WXL.ld Met.none rfl agg23 ?_ | refine WXL.ldS Met.none rfl agg23 ?_
    refine WXL.move Met.none rfl ?_
    refine WXL.suf (cs := []) (m := n) Met.none rfl rfl elem23 sz5 rfl hkq.cons rfl ?_
    refine WXL.nilCheck Met.none rfl ?_
    first | refine WXL.fieldAddr Met.none rfl Try.underlying106 rfl sz23 rfl ?_ | refine WXL.faS Met.none rfl Try.underlying106 rfl sz23 ?_
    refine WXL.st (vs := [_]) Met.none rfl rfl rfl sz23 ?_
    refine WXL.nil ?_
    refine Fin.then_normal ?_
    refine WX.seq ?_
    refine WX.region rfl ?_
    refine WXL.move Met.none rfl ?_
    refine WXL.assign Met.none rfl ?_
    refine WXL.nil ?_
    refine Fin.then_normal ?_
    refine WX.ret ?_
    first
    | exact Fin.result (O' := (r, ⟨0, false, [.slice a1 l1.length c1, I e1]⟩) :: O) (.inr rfl) rfl rfl (fun _ hs => hs) ⟨[], l1, e1, none, 0, rfl, fun _ _ => .inl ⟨rfl, rfl, rfl⟩, fun _ => rfl, ⟨a1, c1, rfl, kr1, kc1, ka1⟩, he1, Nat.zero_le _, (fun z hz => by simp at hz), hl1, hB1, fun he y rest hy hl => by
        have := (hm1 he y.length (y ++ rest) hy (by rw [List.length_append]; omega) (by rw [hl]; unfold rawB; rw [List.append_assoc])).2.2
        omega⟩
    | (refine Fin.result (O' := (r, ⟨0, false, [.slice (some ⟨bb, off + n * 1, none⟩) (l1.length - n) (l1.length - n), I e1]⟩) :: O) (.inr rfl) rfl rfl (fun _ hs => hs) ⟨l1.take n, l1.drop n, e1, some ⟨bb, off, none⟩, n, by rw [htl]; rfl, fun O2 h => by have h4 := (kr1 O2 h).pre (m := n) (by omega); rw [Nat.mul_one, ← List.map_take] at h4; rw [htl]; exact h4, (fun q => by cases q), ⟨some ⟨bb, off + n * 1, none⟩, l1.length - n, by rw [hdl], fun O2 h => by rw [hdl, List.map_drop]; exact (kr1 O2 h).suf (by omega), (fun q => by cases q), fun _ => ⟨_, _, rfl⟩⟩, he1, by omega, fun z hz => hB1 z (List.mem_of_mem_take hz), by omega, fun z hz => hB1 z (List.mem_of_mem_drop hz), fun he y rest hy hl => ?_⟩
       obtain ⟨q1, q2, q3⟩ := hm1 he y.length (y ++ rest) hy (by rw [List.length_append]; omega) (by rw [hl]; unfold rawB; rw [List.append_assoc])
       subst q1 q2
       exact ⟨List.take_left, List.drop_left, q3⟩)

theorem refBack_ok (O : Objs) (z : Int) : Spec Try.prog true 80 #[U z] O fun v O' => ∃ n, v = I n ∧ O' = O := by
  refine Spec.enter (args := [_]) (m := 14) Try.func80 rfl rfl (by decide +kernel) fun h0 => ?_
  refine WX.seq ?_
  refine WX.region rfl ?_
  refine WXL.assign Met.none rfl ?_
  refine WXL.nil ?_
  refine Fin.then_normal ?_
  refine WX.seq ?_
  refine WX.seq ?_
  refine WX.region rfl ?_
  refine WXL.move Met.none rfl ?_
  refine WXL.rem Met.none rfl rfl (by decide) ?_
  refine WXL.bin Met.none rfl rfl rfl ?_
  refine WXL.nil ?_
  refine Fin.then_normal ?_
  refine WX.cond rfl (fun hc0 => ?_) (fun hc0 => ?_)
  · try simp only [cnd] at hc0
    refine WX.seq ?_
    refine WX.region rfl ?_
    refine WXL.move Met.none rfl ?_
    refine WXL.qu Met.none rfl rfl ?_ (hb := (by decide)) (hr := rfl)
    refine WXL.conv Met.none rfl Try.underlying42 Try.underlying3 rfl ?_
    refine WXL.neg Met.none rfl rfl ?_
    refine WXL.bin Met.none rfl rfl rfl ?_
    refine WXL.assign Met.none rfl ?_
    refine WXL.nil ?_
    refine Fin.then_normal ?_
    refine WX.ret ?_
    refine Fin.then_ret ?_
    exact Fin.result (O' := O) (.inr rfl) rfl rfl drop_ ⟨_, rfl, rfl⟩
  · try simp only [cnd] at hc0
    refine WX.skip ?_
    refine Fin.then_normal ?_
    refine WX.seq ?_
    refine WX.region rfl ?_
    refine WXL.move Met.none rfl ?_
    refine WXL.qu Met.none rfl rfl ?_ (hb := (by decide)) (hr := rfl)
    refine WXL.conv Met.none rfl Try.underlying42 Try.underlying3 rfl ?_
    refine WXL.assign Met.none rfl ?_
    refine WXL.nil ?_
    refine Fin.then_normal ?_
    refine WX.ret ?_
    exact Fin.result (O' := O) (.inr rfl) rfl rfl drop_ ⟨_, rfl, rfl⟩

theorem refRInt_ok (O : Objs) (r : Nat) (l : List Int) (e : Int) (a : Option Addr) (c : Nat) (hB : Bytes l) (hlen : l.length ≤ 1000000000000) (hr : Rowy O 1 a l.length (l.map B8)) (hc : a = none → c = 0) :
    Spec Try.prog false 69 #[Ptr r 0] ((r, ⟨0, false, [.slice a l.length c, I e]⟩) :: O) fun v O' => ∃ l' e', RrO O r a l l' e' O' ∧ (e ≠ 0 → e' ≠ 0) ∧ l'.length ≤ l.length ∧ Bytes l' ∧ (e = 0 → ∀ m rest, m < 18446744073709551616 → l = varU m ++ rest → l' = rest ∧ e' = 0) := by
  refine Spec.enter (args := [_]) (m := 6) Try.func69 rfl rfl (by decide +kernel) fun h0 => ?_
  refine WX.seq ?_
  refine WX.region rfl ?_
  refine WXL.assign Met.none rfl ?_
  refine WXL.nil ?_
  refine Fin.then_normal ?_
  refine WX.seq ?_
  refine WX.region rfl ?_
  refine WXL.move Met.none rfl ?_
  refine WXL.cl (O1 := _) Met.none rfl (fnOk_of Try.func81 (by decide +kernel)) rfl (fun _ h => h) (refRUint_ok O r l e a c hB hlen hr hc) (fun v O' hp => ?_)
  obtain ⟨n, l1, e1, rfl, hn, ⟨a1, c1, rfl, kr1, kc1, ka1⟩, he1, hl1, hB1, hm1⟩ := hp
  have hr1 := kr1 O hr
  refine WXL.cl (O1 := _) Met.none rfl (fnOk_of Try.func80 (by decide +kernel)) rfl (fun _ h => h) (refBack_ok _ _) (fun v O' hp => ?_)
  obtain ⟨z, rfl, rfl⟩ := hp
  refine WXL.assign Met.none rfl ?_
  refine WXL.nil ?_
  refine Fin.then_normal ?_
  refine WX.ret ?_
  exact Fin.result (O' := (r, ⟨0, false, [.slice a1 l1.length c1, I e1]⟩) :: O) (.inr rfl) rfl rfl (fun _ hs => hs) ⟨l1, e1, ⟨a1, c1, rfl, kr1, kc1, ka1⟩, he1, hl1, hB1, fun he m rest hm hl => (hm1 he m rest hm hl).2⟩

end Go.Proofs.Ythekokdpplobhaa.Eng

set_option linter.unusedVariables false
set_option linter.unusedSimpArgs false
namespace Go.Proofs.Ythekokdpplobhaa.Eng

theorem first_ok (O : Objs) (i : Int) (b : List Int) (a : Option Addr) (c : Nat) (hi : In64 i) (hB : Bytes b) (hlen : b.length ≤ 100000) (hr : Rowy O 1 a b.length (b.map B8)) (hc : a = none → c = 0) :
    Spec Try.prog false 43 #[I i, .slice a b.length c] O fun v O' => O' = O ∧ ((frameB i (recordP b) <+: b ∧ ∃ ax cx, v = .tuple #[.slice ax (recordP b).length cx, .bool true] ∧ (∀ O2, Rowy O2 1 a b.length (b.map B8) → Rowy O2 1 ax (recordP b).length ((recordP b).map B8)) ∧ (ax = none → cx = 0)) ∨ (¬ frameB i (recordP b) <+: b ∧ v = .tuple #[.slice none 0 0, .bool false])) := by
  have hzr := zigU_range hi
  unfold InU at hzr
  obtain ⟨f1, f2⟩ := recordP_facts b
  have hcl := coreB_len hi (b := recordP b) (by omega)
  refine Spec.enter (args := [_, _]) (m := 53) Try.func43 rfl rfl (by decide +kernel) fun h0 => ?_
  refine WX.seq ?_
  refine WX.region rfl ?_
  refine WXL.assign Met.none rfl ?_
  refine WXL.assign Met.none rfl ?_
  refine WXL.nil ?_
  refine Fin.then_normal ?_
  refine WX.seq ?_
  refine WX.region rfl ?_
  refine WXL.move Met.none rfl ?_
  refine WXL.build (c := [_, _]) Met.none rfl zero106 places106 rfl ?_
  refine WXL.box (c := [_, _]) Met.none rfl rfl rfl (fun b13 => ?_)
  refine WXL.assign Met.none rfl ?_
  refine WXL.nil ?_
  refine Fin.then_normal ?_
  refine WX.seq ?_
  refine WX.region rfl ?_
  refine WXL.move Met.none rfl ?_
  refine WXL.cl (O1 := _) Met.none rfl (fnOk_of Try.func68 (by decide +kernel)) rfl (fun _ h => h) (refRRaw_ok O b13 b 0 a c hB (by omega) hr hc) (fun v O' hp => ?_)
  obtain ⟨x, l1, e1, ax, cx, rfl, krx, kx, ⟨a1, c1, rfl, kr1, kc1, ka1⟩, he1, hxl, hxB, hl1, hB1, hm1⟩ := hp
  have hrx := krx O hr
  refine WXL.assign Met.none rfl ?_
  refine WXL.nil ?_
  refine Fin.then_normal ?_
  refine WX.seq ?_
  refine WX.region rfl ?_
  refine WXL.move Met.none rfl ?_
  refine WXL.build (c := [_, _]) Met.none rfl zero106 places106 rfl ?_
  refine WXL.box (c := [_, _]) Met.none rfl rfl rfl (fun b18 => ?_)
  refine WXL.assign Met.none rfl ?_
  refine WXL.nil ?_
  refine Fin.then_normal ?_
  refine WX.seq ?_
  refine WX.region rfl ?_
  refine WXL.move Met.none rfl ?_
  refine WXL.cl (O1 := _) Met.none rfl (fnOk_of Try.func69 (by decide +kernel)) rfl (fun _ h => h) (refRInt_ok _ b18 x 0 ax cx hxB (by omega) hrx.cons kx) (fun v O' hp => ?_)
  obtain ⟨l2, e2, ⟨a2, c2, rfl, kr2, kc2, ka2⟩, he2, hl2, hB2, hm2⟩ := hp
  have hr2 := kr2 O hrx
  refine WXL.nil ?_
  refine Fin.then_normal ?_
  refine WX.seq ?_
  refine WX.region rfl ?_
  refine WXL.move Met.none rfl ?_
  refine WXL.cl (O1 := _) Met.none rfl (fnOk_of Try.func68 (by decide +kernel)) rfl (fun _ h => h) (refRRaw_ok _ b18 l2 e2 a2 c2 hB2 (by omega) hr2.cons kc2) (fun v O' hp => ?_)
  obtain ⟨y, l3, e3, ay, cy, rfl, kry, ky, ⟨a3, c3, rfl, kr3, kc3, ka3⟩, he3, hyl, hyB, hl3, hB3, hm3⟩ := hp
  have hry := kry O hr2
  have hkey : frameB i (recordP b) <+: b → e1 = 0 ∧ e3 = 0 ∧ y = recordP b := by
    rintro ⟨t, ht⟩
    obtain ⟨q1, q2, q3⟩ := hm1 rfl (coreB i (recordP b)) (varU (hashB lblF (coreB i (recordP b))).toNat ++ t) (by omega) (by have e := List.append_assoc (rawB (coreB i (recordP b))) (varU (hashB lblF (coreB i (recordP b))).toNat) t; exact ht.symm.trans e)
    subst q1
    obtain ⟨q4, q5⟩ := hm2 rfl (zigU i).toNat (rawB (recordP b)) (by omega) rfl
    obtain ⟨q6, q7, q8⟩ := hm3 q5 (recordP b) [] (by omega) (by rw [q4, List.append_nil])
    exact ⟨q3, q8, q6⟩
  refine WXL.assign Met.none rfl ?_
  refine WXL.nil ?_
  refine Fin.then_normal ?_
  refine WX.seq ?_
  refine WX.seq ?_
  refine WX.region rfl ?_
  refine WXL.move Met.none rfl ?_
  refine WXL.nilCheck Met.none rfl ?_
  first | refine WXL.fieldAddr Met.none rfl Try.underlying106 rfl sz47 rfl ?_ | refine WXL.faS Met.none rfl Try.underlying106 rfl sz47 ?_
  first | refine WXL.ld Met.none rfl agg47 ?_ | refine WXL.ldS Met.none rfl agg47 ?_
  refine WXL.bin Met.none rfl rfl rfl ?_
  refine WXL.move Met.none rfl ?_
  refine WXL.split (d := 28) rfl (fun hg28 => ?_) (fun hg28 => ?_)
  · try simp only [cnd] at hg28
    refine WXL.miss (j := 5) (d := 28) rfl rfl rfl ?_
    refine WXL.miss (j := 5) (d := 28) rfl rfl rfl ?_
    refine WXL.miss (j := 5) (d := 28) rfl rfl rfl ?_
    refine WXL.miss (j := 5) (d := 28) rfl rfl rfl ?_
    refine WXL.miss (j := 5) (d := 28) rfl rfl rfl ?_
    refine WXL.pick_t Met.none rfl rfl ?_
    refine WXL.nil ?_
    refine Fin.then_normal ?_
    refine WX.cond rfl (fun hc0 => ?_) (fun hc0 => nomatch hc0)
    refine WX.seq ?_
    refine WX.region rfl ?_
    refine WXL.assign Met.none rfl ?_
    refine WXL.assign Met.none rfl ?_
    refine WXL.nil ?_
    refine Fin.then_normal ?_
    refine WX.ret ?_
    refine Fin.then_ret ?_
    first
    | exact Fin.result (O' := O) (.inr rfl) rfl rfl sub_ ⟨rfl, .inr ⟨fun h => by obtain ⟨q1, q2, q3⟩ := hkey h; omega, rfl⟩⟩
    | exact Fin.result (O' := O) (.inr rfl) rfl rfl sub_ ⟨rfl, .inr ⟨fun h => by
        obtain ⟨q1, q2, q3⟩ := hkey h
        have := h.length_le
        rw [← q3] at this
        omega, rfl⟩⟩
    | exact Fin.result (O' := O) (.inr rfl) rfl rfl sub_ ⟨rfl, .inr ⟨fun h => by
        obtain ⟨q1, q2, q3⟩ := hkey h
        rw [← q3] at h
        exact hc1 (List.prefix_iff_eq_take.1 h), rfl⟩⟩
    | (have hp : frameB i y <+: b := List.prefix_iff_eq_take.2 hc1
       have hy : recordP b = y := recordP_frame hi (by omega) hp
       subst hy
       exact Fin.result (O' := O) (.inr rfl) rfl rfl sub_ ⟨rfl, .inl ⟨hp, ay, cy, rfl, fun O2 h => kry O2 (kr2 O2 (krx O2 h)), ky⟩⟩)
  · try simp only [cnd] at hg28
    refine WXL.move (Met.some rfl rfl rfl) rfl ?_
    refine WXL.nilCheck (Met.some rfl rfl rfl) rfl ?_
    first | refine WXL.fieldAddr (Met.some rfl rfl rfl) rfl Try.underlying106 rfl sz47 rfl ?_ | refine WXL.faS (Met.some rfl rfl rfl) rfl Try.underlying106 rfl sz47 ?_
    first | refine WXL.ld (Met.some rfl rfl rfl) rfl agg47 ?_ | refine WXL.ldS (Met.some rfl rfl rfl) rfl agg47 ?_
    refine WXL.bin (Met.some rfl rfl rfl) rfl rfl rfl ?_
    refine WXL.pick_f Met.none rfl rfl ?_
    refine WXL.nil ?_
    refine Fin.then_normal ?_
    refine WX.cond rfl (fun hc0 => ?_) (fun hc0 => ?_)
    · try simp only [cnd] at hc0
      refine WX.seq ?_
      refine WX.region rfl ?_
      refine WXL.assign Met.none rfl ?_
      refine WXL.assign Met.none rfl ?_
      refine WXL.nil ?_
      refine Fin.then_normal ?_
      refine WX.ret ?_
      refine Fin.then_ret ?_
      first
      | exact Fin.result (O' := O) (.inr rfl) rfl rfl sub_ ⟨rfl, .inr ⟨fun h => by obtain ⟨q1, q2, q3⟩ := hkey h; omega, rfl⟩⟩
      | exact Fin.result (O' := O) (.inr rfl) rfl rfl sub_ ⟨rfl, .inr ⟨fun h => by
          obtain ⟨q1, q2, q3⟩ := hkey h
          have := h.length_le
          rw [← q3] at this
          omega, rfl⟩⟩
      | exact Fin.result (O' := O) (.inr rfl) rfl rfl sub_ ⟨rfl, .inr ⟨fun h => by
          obtain ⟨q1, q2, q3⟩ := hkey h
          rw [← q3] at h
          exact hc1 (List.prefix_iff_eq_take.1 h), rfl⟩⟩
      | (have hp : frameB i y <+: b := List.prefix_iff_eq_take.2 hc1
         have hy : recordP b = y := recordP_frame hi (by omega) hp
         subst hy
         exact Fin.result (O' := O) (.inr rfl) rfl rfl sub_ ⟨rfl, .inl ⟨hp, ay, cy, rfl, fun O2 h => kry O2 (kr2 O2 (krx O2 h)), ky⟩⟩)
    · try simp only [cnd] at hc0
      refine WX.skip ?_
      refine Fin.then_normal ?_
      refine WX.seq ?_
      refine WX.region rfl ?_
      refine WXL.move Met.none rfl ?_
      refine WXL.move Met.none rfl ?_
      refine WXL.cl (O1 := _) Met.none rfl (fnOk_of Try.func13 (by decide +kernel)) rfl (fun _ h => h) (refFrame_ok _ i y ay cy hi hyB (by omega) ((hry.src ky).cons.cons)) (fun v O' hp => ?_)
      obtain ⟨a5, c5, G5, rfl, hG5, rfl⟩ := hp
      refine WXL.assign Met.none rfl ?_
      refine WXL.nil ?_
      refine Fin.then_normal ?_
      refine WX.seq ?_
      refine WX.seq ?_
      refine WX.region rfl ?_
      refine WXL.move Met.none rfl ?_
      refine WXL.len Met.none rfl Try.underlying23 ?_
      refine WXL.move Met.none rfl ?_
      refine WXL.len Met.none rfl Try.underlying23 ?_
      refine WXL.bin Met.none rfl rfl rfl ?_
      refine WXL.move Met.none rfl ?_
      refine WXL.split (d := 43) rfl (fun hg43 => ?_) (fun hg43 => ?_)
      · try simp only [cnd] at hg43
        refine WXL.miss (j := 5) (d := 43) rfl rfl rfl ?_
        refine WXL.miss (j := 5) (d := 43) rfl rfl rfl ?_
        refine WXL.miss (j := 5) (d := 43) rfl rfl rfl ?_
        refine WXL.miss (j := 5) (d := 43) rfl rfl rfl ?_
        refine WXL.miss (j := 5) (d := 43) rfl rfl rfl ?_
        refine WXL.miss (j := 5) (d := 43) rfl rfl rfl ?_
        refine WXL.miss (j := 5) (d := 43) rfl rfl rfl ?_
        refine WXL.pick_t Met.none rfl rfl ?_
        refine WXL.nil ?_
        refine Fin.then_normal ?_
        refine WX.cond rfl (fun hc1 => ?_) (fun hc1 => nomatch hc1)
        refine WX.seq ?_
        refine WX.region rfl ?_
        refine WXL.assign Met.none rfl ?_
        refine WXL.assign Met.none rfl ?_
        refine WXL.nil ?_
        refine Fin.then_normal ?_
        refine WX.ret ?_
        refine Fin.then_ret ?_
        first
        | exact Fin.result (O' := O) (.inr rfl) rfl rfl sub_ ⟨rfl, .inr ⟨fun h => by obtain ⟨q1, q2, q3⟩ := hkey h; omega, rfl⟩⟩
        | exact Fin.result (O' := O) (.inr rfl) rfl rfl sub_ ⟨rfl, .inr ⟨fun h => by
            obtain ⟨q1, q2, q3⟩ := hkey h
            have := h.length_le
            rw [← q3] at this
            omega, rfl⟩⟩
        | exact Fin.result (O' := O) (.inr rfl) rfl rfl sub_ ⟨rfl, .inr ⟨fun h => by
            obtain ⟨q1, q2, q3⟩ := hkey h
            rw [← q3] at h
            exact hc1 (List.prefix_iff_eq_take.1 h), rfl⟩⟩
        | (have hp : frameB i y <+: b := List.prefix_iff_eq_take.2 hc1
           have hy : recordP b = y := recordP_frame hi (by omega) hp
           subst hy
           exact Fin.result (O' := O) (.inr rfl) rfl rfl sub_ ⟨rfl, .inl ⟨hp, ay, cy, rfl, fun O2 h => kry O2 (kr2 O2 (krx O2 h)), ky⟩⟩)
      · try simp only [cnd] at hg43
        refine WXL.move (Met.some rfl rfl rfl) rfl ?_
        refine WXL.move (Met.some rfl rfl rfl) rfl ?_
        refine WXL.move (Met.some rfl rfl rfl) rfl ?_
        refine WXL.len (Met.some rfl rfl rfl) rfl Try.underlying23 ?_
        refine WXL.pre (m := (frameB i y).length) (Met.some rfl rfl rfl) rfl rfl elem23 sz5 (hr.cons.cons.app) hc ?_
        have hfl : (b.take (frameB i y).length).length = (frameB i y).length := by rw [List.length_take]; omega
        have hr5 := hr.pre (m := (frameB i y).length) (by omega)
        rw [Nat.mul_one, ← List.map_take] at hr5
        have hfy := coreB_len hi (b := y) (by omega)
        refine WXL.cl (O1 := _) (Met.some rfl rfl rfl) rfl (fnOk_of Try.func11 (by decide +kernel)) rfl (fun _ h => h) ((by
        have := sameB_ok (G5 ++ ((b18, ⟨0, false, [.slice a3 l3.length c3, I e3]⟩) :: (b13, ⟨0, false, [.slice a1 l1.length c1, I e1]⟩) :: O)) (frameB i y) (b.take (frameB i y).length) a5 a c5 (frameB i y).length (by unfold Short; omega) hG5.src (by rw [hfl]; exact Src.app (Src.cons (Src.cons (hr5.src (fun q => hr5.nil0 q)))))
        rw [hfl] at this
        exact this)) (fun v O' hp => ?_)
        obtain ⟨rfl, hO⟩ := hp
        subst O'
        refine WXL.not (Met.some rfl rfl rfl) rfl ?_
        refine WXL.pick_f Met.none rfl rfl ?_
        refine WXL.nil ?_
        refine Fin.then_normal ?_
        refine WX.cond rfl (fun hc1 => ?_) (fun hc1 => ?_)
        · try simp only [cnd] at hc1
          refine WX.seq ?_
          refine WX.region rfl ?_
          refine WXL.assign Met.none rfl ?_
          refine WXL.assign Met.none rfl ?_
          refine WXL.nil ?_
          refine Fin.then_normal ?_
          refine WX.ret ?_
          refine Fin.then_ret ?_
          first
          | exact Fin.result (O' := O) (.inr rfl) rfl rfl sub_ ⟨rfl, .inr ⟨fun h => by obtain ⟨q1, q2, q3⟩ := hkey h; omega, rfl⟩⟩
          | exact Fin.result (O' := O) (.inr rfl) rfl rfl sub_ ⟨rfl, .inr ⟨fun h => by
              obtain ⟨q1, q2, q3⟩ := hkey h
              have := h.length_le
              rw [← q3] at this
              omega, rfl⟩⟩
          | exact Fin.result (O' := O) (.inr rfl) rfl rfl sub_ ⟨rfl, .inr ⟨fun h => by
              obtain ⟨q1, q2, q3⟩ := hkey h
              rw [← q3] at h
              exact hc1 (List.prefix_iff_eq_take.1 h), rfl⟩⟩
          | (have hp : frameB i y <+: b := List.prefix_iff_eq_take.2 hc1
             have hy : recordP b = y := recordP_frame hi (by omega) hp
             subst hy
             exact Fin.result (O' := O) (.inr rfl) rfl rfl sub_ ⟨rfl, .inl ⟨hp, ay, cy, rfl, fun O2 h => kry O2 (kr2 O2 (krx O2 h)), ky⟩⟩)
        · try simp only [cnd] at hc1
          refine WX.skip ?_
          refine Fin.then_normal ?_
          refine WX.seq ?_
          refine WX.region rfl ?_
          refine WXL.move Met.none rfl ?_
          refine WXL.assign Met.none rfl ?_
          refine WXL.assign Met.none rfl ?_
          refine WXL.nil ?_
          refine Fin.then_normal ?_
          refine WX.ret ?_
          first
          | exact Fin.result (O' := O) (.inr rfl) rfl rfl sub_ ⟨rfl, .inr ⟨fun h => by obtain ⟨q1, q2, q3⟩ := hkey h; omega, rfl⟩⟩
          | exact Fin.result (O' := O) (.inr rfl) rfl rfl sub_ ⟨rfl, .inr ⟨fun h => by
              obtain ⟨q1, q2, q3⟩ := hkey h
              have := h.length_le
              rw [← q3] at this
              omega, rfl⟩⟩
          | exact Fin.result (O' := O) (.inr rfl) rfl rfl sub_ ⟨rfl, .inr ⟨fun h => by
              obtain ⟨q1, q2, q3⟩ := hkey h
              rw [← q3] at h
              exact hc1 (List.prefix_iff_eq_take.1 h), rfl⟩⟩
          | (have hp : frameB i y <+: b := List.prefix_iff_eq_take.2 hc1
             have hy : recordP b = y := recordP_frame hi (by omega) hp
             subst hy
             exact Fin.result (O' := O) (.inr rfl) rfl rfl sub_ ⟨rfl, .inl ⟨hp, ay, cy, rfl, fun O2 h => kry O2 (kr2 O2 (krx O2 h)), ky⟩⟩)

end Go.Proofs.Ythekokdpplobhaa.Eng

set_option linter.unusedVariables false
set_option linter.unusedSimpArgs false
namespace Go.Proofs.Ythekokdpplobhaa.Eng

theorem refScan_ok (O : Objs) (b : List Int) (a : Option Addr) (c : Nat) (hB : Bytes b) (hlen : b.length ≤ 100000) (hr : Rowy O 1 a b.length (b.map B8)) (hc : a = none → c = 0) :
    Spec Try.prog false 16 #[.slice a b.length c] O fun v O' => ∃ ao co vs G, v = .tuple #[.slice ao (recsP b).length co, I (endP b (recsP b).length : Nat)] ∧ Grow 1 ao (recsP b).length co vs G ∧ AreB O vs (recsP b) ∧ O' = G ++ O := by
  have hrl := recsP_len b
  have hend := endP_le b
  refine Spec.enter (args := [_]) (m := 36) Try.func16 rfl rfl (by decide +kernel) fun h0 => ?_
  refine WX.seq ?_
  refine WX.region rfl ?_
  refine WXL.assign Met.none rfl ?_
  refine WXL.assign Met.none rfl ?_
  refine WXL.nil ?_
  refine Fin.then_normal ?_
  refine WX.seq ?_
  refine WX.region rfl ?_
  refine WXL.assign Met.none rfl ?_
  refine WXL.nil ?_
  refine Fin.then_normal ?_
  refine WX.seq ?_
  refine WX.region rfl ?_
  refine WXL.assign Met.none rfl ?_
  refine WXL.nil ?_
  refine Fin.then_normal ?_
  refine WX.seq ?_
  refine WX.block ?_
  refine WX.loop (fun q : Nat × Option Addr × Nat × List Value × Objs => [(0, .slice a b.length c), (4, .slice q.2.1 q.1 q.2.2.1), (5, I (endP b q.1 : Nat))]) (fun q => q.2.2.2.2 ++ O) (fun q => q.1 ≤ (recsP b).length ∧ Grow 1 q.2.1 q.1 q.2.2.1 q.2.2.2.1 q.2.2.2.2 ∧ AreB O q.2.2.2.1 ((recsP b).take q.1)) (fun q => (recsP b).length - q.1) (0, none, 0, [], []) ⟨Nat.zero_le _, .nil, .nil⟩ (fun s hs => hs.tl [] 0) (fun q hq => ?_)
  obtain ⟨k, ao, co, vs, G⟩ := q
  obtain ⟨hk, hG, hvs⟩ := hq
  simp only at hk hG hvs
  dsimp only
  have hek := hend k
  have hat := scanP_at b k hk
  refine WX.seq ?_
  refine WX.seq ?_
  refine WX.region rfl ?_
  refine WXL.move Met.none rfl ?_
  refine WXL.move Met.none rfl ?_
  refine WXL.len Met.none rfl Try.underlying23 ?_
  refine WXL.bin Met.none rfl rfl rfl ?_
  refine WXL.nil ?_
  refine Fin.then_normal ?_
  refine WX.cond rfl (fun hc0 => ?_) (fun hc0 => ?_)
  · try simp only [cnd] at hc0
    refine WX.skip ?_
    refine Fin.then_normal ?_
    refine WX.block ?_
    refine WX.seq ?_
    obtain ⟨bb, off, ⟨qsz, qro, qc⟩, rfl, hkq, hqs⟩ := hr.some (by omega)
    have hqs : qsz = 1 := hqs
    subst hqs
    have hr2 := hr.suf (m := endP b k) hek
    obtain ⟨t, ht⟩ : ∃ t, t = b.drop (endP b k) := ⟨_, rfl⟩
    rw [← List.map_drop, ← ht] at hr2
    rw [← ht] at hat
    have htl : t.length = b.length - endP b k := by rw [ht, List.length_drop]
    have htB : Bytes t := fun z hz => hB z (List.mem_of_mem_drop (ht ▸ hz))
    obtain ⟨f1, f2⟩ := recordP_facts t
    have htn : t ≠ [] := fun q => by rw [q] at htl; simp at htl; omega
    refine WX.region rfl ?_
    refine WXL.move Met.none rfl ?_
    refine WXL.len Met.none rfl Try.underlying27 ?_
    refine WXL.move Met.none rfl ?_
    refine WXL.move Met.none rfl ?_
    refine WXL.suf (cs := []) (m := (endP b k)) Met.none rfl rfl elem23 sz5 rfl hkq.app rfl ?_
    refine WXL.cl (O1 := _) Met.none rfl (fnOk_of Try.func43 (by decide +kernel)) rfl (fun _ h => h) ((by
    have := first_ok (G ++ O) (k : Int) t (some ⟨bb, off + endP b k * 1, none⟩) (b.length - endP b k) (by unfold In64; omega) htB (by omega) (by rw [htl]; exact hr2.app) (fun q => by cases q)
    rw [htl] at this
    exact this)) (fun v O' hp => ?_)
    obtain ⟨rfl, hf⟩ := hp
    obtain ⟨v1, y, rfl, hy⟩ : ∃ v1 y, v = .tuple #[v1, .bool y] ∧ ((y = true ∧ frameB k (recordP t) <+: t ∧ ∃ ax cx, v1 = .slice ax (recordP t).length cx ∧ Rowy O 1 ax (recordP t).length ((recordP t).map B8) ∧ (ax = none → cx = 0)) ∨ (y = false ∧ ¬ frameB k (recordP t) <+: t)) := by
      rcases hf with ⟨h1, ax, cx, rfl, h2, h3⟩ | ⟨h1, rfl⟩
      · exact ⟨_, _, rfl, .inl ⟨rfl, h1, ax, cx, rfl, h2 O hr2, h3⟩⟩
      · exact ⟨_, _, rfl, .inr ⟨rfl, h1⟩⟩
    refine WXL.move Met.none rfl ?_
    refine WXL.extract Met.none rfl rfl ?_
    refine WXL.extract Met.none rfl rfl ?_
    refine WXL.assign Met.none rfl ?_
    refine WXL.assign Met.none rfl ?_
    refine WXL.nil ?_
    refine Fin.then_normal ?_
    refine WX.seq ?_
    refine WX.seq ?_
    refine WX.region rfl ?_
    refine WXL.move Met.none rfl ?_
    refine WXL.not Met.none rfl ?_
    refine WXL.nil ?_
    refine Fin.then_normal ?_
    refine WX.cond rfl (fun hc1 => ?_) (fun hc1 => ?_)
    · try simp only [cnd] at hc1
      refine WX.exit ?_
      refine Fin.then_exit ?_
      refine Fin.block_miss rfl ?_
      refine Fin.loop_exit ?_
      refine Fin.block_hit rfl ?_
      refine Fin.then_normal ?_
      refine WX.seq ?_
      refine WX.region rfl ?_
      refine WXL.move Met.none rfl ?_
      refine WXL.move Met.none rfl ?_
      refine WXL.assign Met.none rfl ?_
      refine WXL.assign Met.none rfl ?_
      refine WXL.nil ?_
      refine Fin.then_normal ?_
      refine WX.ret ?_
      first
      | (have hkk : k = (recsP b).length := by
           have hd : b.drop (endP b k) = [] := List.drop_eq_nil_of_le (by omega)
           rw [hd, scanP, dif_neg (fun q => q.1 rfl)] at hat
           have := congrArg List.length hat
           rw [List.length_drop, List.length_nil] at this
           omega
         subst hkk
         rw [List.take_length] at hvs
         exact Fin.result (O' := G ++ O) (.inr rfl) rfl rfl (fun _ h => h) ⟨ao, co, vs, G, rfl, hG, hvs, rfl⟩)
      | (have hkk : k = (recsP b).length := by
           have hnp := (hy.resolve_left (fun q => by rw [hc1] at q; exact nomatch q.1)).2
           rw [scanP, dif_neg (fun q => hnp q.2)] at hat
           have := congrArg List.length hat
           rw [List.length_drop, List.length_nil] at this
           omega
         subst hkk
         rw [List.take_length] at hvs
         exact Fin.result (O' := G ++ O) (.inr rfl) rfl rfl (fun _ h => h) ⟨ao, co, vs, G, rfl, hG, hvs, rfl⟩)
    · try simp only [cnd] at hc1
      refine WX.skip ?_
      refine Fin.then_normal ?_
      refine WX.seq ?_
      obtain ⟨hpf, ax, cx, rfl, hrx, kx⟩ := hy.resolve_right (fun q => by rw [hc1] at q; exact nomatch q.1) |>.2
      have hst : (recsP b).drop k = recordP t :: (scanP (k + 1) (t.drop (frameB k (recordP t)).length)).1 := by
        rw [hat, scanP, dif_pos ⟨htn, hpf⟩]
      have hk1 : k < (recsP b).length := by
        have := congrArg List.length hst
        rw [List.length_drop, List.length_cons] at this
        omega
      have hnth : nth (recsP b) k = recordP t := by
        rw [drop_cons_nth' hk1] at hst
        injection hst
      have hes : endP b (k + 1) = endP b k + (frameB k (recordP t)).length := by rw [endP_succ b k hk1, hnth]
      have hek1 := hend (k + 1)
      refine WX.region rfl ?_
      refine WXL.move Met.none rfl ?_
      refine WXL.move Met.none rfl ?_
      refine WXL.len Met.none rfl Try.underlying27 ?_
      refine WXL.move Met.none rfl ?_
      refine WXL.cl (O1 := _) Met.none rfl (fnOk_of Try.func13 (by decide +kernel)) rfl (fun _ h => h) (refFrame_ok _ (k : Int) (recordP t) ax cx (by unfold In64; omega) (f2 htB) (by omega) ((hrx.src kx).app)) (fun v O' hp => ?_)
      obtain ⟨a6, c6, G6, rfl, hG6, rfl⟩ := hp
      refine WXL.len Met.none rfl Try.underlying23 ?_
      refine WXL.bin Met.none rfl rfl (show _ = some (I (endP b (k + 1) : Nat)) from (binV_add (by omega) (by omega)).trans (congrArg (fun n => some (I n)) (by omega))) ?_
      refine WXL.assign Met.none rfl ?_
      refine WXL.nil ?_
      refine Fin.then_normal ?_
      refine WX.re (O' := G ++ O) ?_
      refine WX.region rfl ?_
      refine WXL.move Met.none rfl ?_
      refine WXL.move Met.none rfl ?_
      refine WXL.buildSlice (c := [_]) Met.none rfl elem27 sz23 zero23 (by decide) (by decide) rfl rfl rfl rfl (fun b32 => ?_)
      refine WXL.apG [_] Met.none rfl rfl isrow27 elem27 sz23 by23 zero23 (Src.lit (cs := [_])) (fun a33 c33 G33 hG33 => ?_)
      refine WXL.assign Met.none rfl ?_
      refine WXL.nil ?_
      refine Fin.block_normal ?_
      refine Fin.loop_next (k + 1, a33, c33, vs ++ [.slice ax (recordP t).length cx], G33) ⟨by simp only; omega, hG33, ?_⟩ (by simp only; omega) (fun s hs => hs.tl [] 1)
      rw [take_succ_nth hk1]
      exact hvs.snoc ⟨ax, cx, by rw [hnth], by rw [hnth]; exact hrx.src kx⟩
  · try simp only [cnd] at hc0
    refine WX.exit ?_
    refine Fin.then_exit ?_
    refine Fin.loop_exit ?_
    refine Fin.block_hit rfl ?_
    refine Fin.then_normal ?_
    refine WX.seq ?_
    refine WX.region rfl ?_
    refine WXL.move Met.none rfl ?_
    refine WXL.move Met.none rfl ?_
    refine WXL.assign Met.none rfl ?_
    refine WXL.assign Met.none rfl ?_
    refine WXL.nil ?_
    refine Fin.then_normal ?_
    refine WX.ret ?_
    first
    | (have hkk : k = (recsP b).length := by
         have hd : b.drop (endP b k) = [] := List.drop_eq_nil_of_le (by omega)
         rw [hd, scanP, dif_neg (fun q => q.1 rfl)] at hat
         have := congrArg List.length hat
         rw [List.length_drop, List.length_nil] at this
         omega
       subst hkk
       rw [List.take_length] at hvs
       exact Fin.result (O' := G ++ O) (.inr rfl) rfl rfl (fun _ h => h) ⟨ao, co, vs, G, rfl, hG, hvs, rfl⟩)
    | (have hkk : k = (recsP b).length := by
         have hnp := (hy.resolve_left (fun q => by rw [hc1] at q; exact nomatch q.1)).2
         rw [scanP, dif_neg (fun q => hnp q.2)] at hat
         have := congrArg List.length hat
         rw [List.length_drop, List.length_nil] at this
         omega
       subst hkk
       rw [List.take_length] at hvs
       exact Fin.result (O' := G ++ O) (.inr rfl) rfl rfl (fun _ h => h) ⟨ao, co, vs, G, rfl, hG, hvs, rfl⟩)

end Go.Proofs.Ythekokdpplobhaa.Eng

set_option linter.unusedVariables false
set_option linter.unusedSimpArgs false
namespace Go.Proofs.Ythekokdpplobhaa.Eng

theorem few_ok (O : Objs) (b : List Int) (a : Option Addr) (c : Nat) (most : Int) (hm : 0 ≤ most) (hlen : Short b) (hml : most ≤ 1000000000) (hr : Rowy O 1 a b.length (b.map B8)) (hc : a = none → c = 0) :
    Spec Try.prog false 10 #[.slice a b.length c, I most] O fun v O' => ∃ a' c' G, v = .slice a' (b.take most.toNat).length c' ∧ Grow 1 a' (b.take most.toNat).length c' ((b.take most.toNat).map B8) G ∧ O' = G ++ O := by
  unfold Short at hlen
  obtain ⟨m, hm2⟩ : ∃ m, m = (b.take most.toNat).length := ⟨_, rfl⟩
  have hml2 : m = min b.length most.toNat := by rw [hm2, List.length_take]; omega
  have htm : b.take m = b.take most.toNat := by
    rw [hml2]
    rcases Nat.le_total b.length most.toNat with q | q
    · rw [Nat.min_eq_left q, List.take_of_length_le (Nat.le_refl _), List.take_of_length_le q]
    · rw [Nat.min_eq_right q]
  have hr2 := hr.pre (m := m) (by omega)
  rw [Nat.mul_one, ← List.map_take, htm] at hr2
  refine Spec.enter (args := [_, _]) (m := 14) Try.func10 rfl rfl (by decide +kernel) fun h0 => ?_
  refine WX.seq ?_
  refine WX.region rfl ?_
  refine WXL.assign Met.none rfl ?_
  refine WXL.nil ?_
  refine Fin.then_normal ?_
  refine WX.seq ?_
  refine WX.region rfl ?_
  refine WXL.assign Met.none rfl ?_
  refine WXL.nil ?_
  refine Fin.then_normal ?_
  refine WX.seq ?_
  refine WX.region rfl ?_
  refine WXL.move Met.none rfl ?_
  refine WXL.move Met.none rfl ?_
  refine WXL.move Met.none rfl ?_
  refine WXL.len Met.none rfl Try.underlying23 ?_
  refine WXL.move Met.none rfl ?_
  refine WXL.min Met.none rfl rfl ?_
  refine WXL.pre (m := m) Met.none rfl rfl elem23 sz5 hr hc ?_
  refine WXL.apG ([]) Met.none rfl rfl isrow23 elem23 sz5 by5 zero5 (hr2.src (fun q => hr2.nil0 q)) (fun a13 c13 G13 hG13 => ?_) (hm := (by rw [List.length_map, ← hm2]; omega)) (hg := .nil)
  refine WXL.assign Met.none rfl ?_
  refine WXL.nil ?_
  refine Fin.then_normal ?_
  refine WX.ret ?_
  rw [← hm2]
  rw [Nat.zero_add] at hG13
  exact Fin.result (O' := G13 ++ O) (.inr rfl) rfl rfl (fun _ h => h) ⟨a13, c13, G13, by rw [Nat.zero_add]; rfl, hG13, rfl⟩

theorem sameLists_ok (O : Objs) (xs ys : List (List Int)) (vs ws : List Value) (a b : Option Addr) (c e : Nat) (hlen : xs.length ≤ 1000000000) (hsh : ∀ x ∈ xs, x.length ≤ 1000000000) (hv : Src O 1 (.slice a xs.length c) xs.length vs) (hw : Src O 1 (.slice b ys.length e) ys.length ws) (hx : AreB O vs xs) (hy : AreB O ws ys) :
    Spec Try.prog true 17 #[.slice a xs.length c, .slice b ys.length e] O fun v O' => ∃ x, v = .bool x ∧ x = decide (xs = ys) ∧ O' = O := by
  refine Spec.enter (args := [_, _]) (m := 27) Try.func17 rfl rfl (by decide +kernel) fun h0 => ?_
  refine WX.seq ?_
  refine WX.region rfl ?_
  refine WXL.assign Met.none rfl ?_
  refine WXL.nil ?_
  refine Fin.then_normal ?_
  refine WX.seq ?_
  refine WX.seq ?_
  refine WX.region rfl ?_
  refine WXL.move Met.none rfl ?_
  refine WXL.len Met.none rfl Try.underlying27 ?_
  refine WXL.move Met.none rfl ?_
  refine WXL.len Met.none rfl Try.underlying27 ?_
  refine WXL.bin Met.none rfl rfl rfl ?_
  refine WXL.nil ?_
  refine Fin.then_normal ?_
  refine WX.cond rfl (fun hc0 => ?_) (fun hc0 => ?_)
  · try simp only [cnd] at hc0
    refine WX.seq ?_
    refine WX.region rfl ?_
    refine WXL.assign Met.none rfl ?_
    refine WXL.nil ?_
    refine Fin.then_normal ?_
    refine WX.ret ?_
    refine Fin.then_ret ?_
    first
    | exact Fin.result (O' := O) (.inr rfl) rfl rfl drop_ ⟨_, rfl, (decide_eq_false (fun h => hc0 (by rw [h]))).symm, rfl⟩
    | exact Fin.result (O' := O) (.inr rfl) rfl rfl drop_ ⟨_, rfl, (decide_eq_false (fun h => hc2 (by rw [h]))).symm, rfl⟩
    | exact Fin.result (O' := O) (.inr rfl) rfl rfl drop_ ⟨_, rfl, (decide_eq_true (by
        have e1 : k = xs.length := by omega
        have e2 := hk.2
        rw [e1, List.take_length, List.take_of_length_le (by omega)] at e2
        exact e2)).symm, rfl⟩
  · try simp only [cnd] at hc0
    refine WX.skip ?_
    refine Fin.then_normal ?_
    refine WX.seq ?_
    refine WX.seq ?_
    refine WX.region rfl ?_
    refine WXL.assign Met.none rfl ?_
    refine WXL.nil ?_
    refine Fin.then_normal ?_
    refine WX.block ?_
    refine WX.loop (fun k : Nat => [(0, .slice a xs.length c), (1, .slice b ys.length e), (5, I k)]) (fun _ => O) (fun k => k ≤ xs.length ∧ xs.take k = ys.take k) (fun k => xs.length - k) 0 ⟨Nat.zero_le _, rfl⟩ (fun s hs => hs.tl [] 0) (fun k hk => ?_)
    refine WX.seq ?_
    refine WX.seq ?_
    refine WX.region rfl ?_
    refine WXL.move Met.none rfl ?_
    refine WXL.move Met.none rfl ?_
    refine WXL.len Met.none rfl Try.underlying27 ?_
    refine WXL.bin Met.none rfl rfl rfl ?_
    refine WXL.nil ?_
    refine Fin.then_normal ?_
    refine WX.cond rfl (fun hc1 => ?_) (fun hc1 => ?_)
    · try simp only [cnd] at hc1
      refine WX.skip ?_
      refine Fin.then_normal ?_
      refine WX.seq ?_
      refine WX.block ?_
      refine WX.seq ?_
      have hk1 : k < xs.length := by omega
      have hk2 : k < ys.length := by omega
      obtain ⟨a1, c1, e1, s1⟩ := hx.2 k hk1
      obtain ⟨a2, c2, e2, s2⟩ := hy.2 k hk2
      rw [e1] at s1
      rw [e2] at s2
      refine WX.draw rfl ?_
      refine WXL.move Met.none rfl ?_
      refine WXL.move Met.none rfl ?_
      first | refine WXL.ix Met.none rfl rfl elem27 sz23 ?_ | refine WXL.ixS Met.none rfl rfl elem27 sz23 ?_
      first | refine WXL.ld Met.none rfl agg23 ?_ (hv := (show vs[k]? = some (.slice a1 (nth xs k).length c1) from by rw [← e1]; exact nth_eq (by rw [hx.1]; exact hk1))) | refine WXL.ldS Met.none rfl agg23 ?_ (hv := (show vs[k]? = some (.slice a1 (nth xs k).length c1) from by rw [← e1]; exact nth_eq (by rw [hx.1]; exact hk1)))
      refine WXL.move Met.none rfl ?_
      refine WXL.move Met.none rfl ?_
      first | refine WXL.ix Met.none rfl rfl elem27 sz23 ?_ | refine WXL.ixS Met.none rfl rfl elem27 sz23 ?_
      first | refine WXL.ld Met.none rfl agg23 ?_ (hv := (show ws[k]? = some (.slice a2 (nth ys k).length c2) from by rw [← e2]; exact nth_eq (by rw [hy.1]; exact hk2))) | refine WXL.ldS Met.none rfl agg23 ?_ (hv := (show ws[k]? = some (.slice a2 (nth ys k).length c2) from by rw [← e2]; exact nth_eq (by rw [hy.1]; exact hk2)))
      refine WXL.cl (O1 := _) Met.none rfl (fnOk_of Try.func11 (by decide +kernel)) rfl (fun _ h => h) (sameB_ok O (nth xs k) (nth ys k) a1 a2 c1 c2 (by have := hsh _ (nth_mem hk1); unfold Short; omega) s1 s2) (fun v O' hp => ?_)
      obtain ⟨rfl, hO⟩ := hp
      subst O'
      refine WXL.not Met.none rfl ?_
      refine WXL.nil ?_
      refine Fin.then_normal ?_
      refine WX.cond rfl (fun hc2 => ?_) (fun hc2 => ?_)
      · try simp only [cnd] at hc2
        refine WX.seq ?_
        refine WX.region rfl ?_
        refine WXL.assign Met.none rfl ?_
        refine WXL.nil ?_
        refine Fin.then_normal ?_
        refine WX.ret ?_
        refine Fin.block_ret ?_
        refine Fin.then_ret ?_
        refine Fin.loop_ret ?_
        refine Fin.block_ret ?_
        refine Fin.then_ret ?_
        first
        | exact Fin.result (O' := O) (.inr rfl) rfl rfl drop_ ⟨_, rfl, (decide_eq_false (fun h => hc0 (by rw [h]))).symm, rfl⟩
        | exact Fin.result (O' := O) (.inr rfl) rfl rfl drop_ ⟨_, rfl, (decide_eq_false (fun h => hc2 (by rw [h]))).symm, rfl⟩
        | exact Fin.result (O' := O) (.inr rfl) rfl rfl drop_ ⟨_, rfl, (decide_eq_true (by
            have e1 : k = xs.length := by omega
            have e2 := hk.2
            rw [e1, List.take_length, List.take_of_length_le (by omega)] at e2
            exact e2)).symm, rfl⟩
      · try simp only [cnd] at hc2
        refine WX.skip ?_
        refine Fin.block_normal ?_
        refine Fin.then_normal ?_
        refine WX.region rfl ?_
        refine WXL.move Met.none rfl ?_
        refine WXL.bin Met.none rfl rfl bvA ?_
        refine WXL.assign Met.none rfl ?_
        refine WXL.nil ?_
        refine Fin.loop_next (k + 1) ⟨by omega, ?_⟩ (by omega) (fun s hs => hs.tl [] 0)
        rw [take_succ_nth hk1, take_succ_nth hk2, hk.2, hc2]
    · try simp only [cnd] at hc1
      refine WX.exit ?_
      refine Fin.then_exit ?_
      refine Fin.loop_exit ?_
      refine Fin.block_hit rfl ?_
      refine Fin.then_normal ?_
      refine WX.seq ?_
      refine WX.region rfl ?_
      refine WXL.assign Met.none rfl ?_
      refine WXL.nil ?_
      refine Fin.then_normal ?_
      refine WX.ret ?_
      first
      | exact Fin.result (O' := O) (.inr rfl) rfl rfl drop_ ⟨_, rfl, (decide_eq_false (fun h => hc0 (by rw [h]))).symm, rfl⟩
      | exact Fin.result (O' := O) (.inr rfl) rfl rfl drop_ ⟨_, rfl, (decide_eq_false (fun h => hc2 (by rw [h]))).symm, rfl⟩
      | exact Fin.result (O' := O) (.inr rfl) rfl rfl drop_ ⟨_, rfl, (decide_eq_true (by
          have e1 : k = xs.length := by omega
          have e2 := hk.2
          rw [e1, List.take_length, List.take_of_length_le (by omega)] at e2
          exact e2)).symm, rfl⟩

end Go.Proofs.Ythekokdpplobhaa.Eng

set_option linter.unusedVariables false
set_option linter.unusedSimpArgs false
namespace Go.Proofs.Ythekokdpplobhaa.Eng

theorem around_range {n m : Int} (hm : 0 < m) : 0 ≤ around n m ∧ around n m < m := by
  unfold around
  split
  · rw [Int.tmod_eq_emod_of_nonneg (by omega)]
    exact ⟨Int.emod_nonneg _ (by omega), Int.emod_lt_of_pos _ hm⟩
  · rw [Int.tmod_eq_emod_of_nonneg (by omega)]
    exact ⟨Int.emod_nonneg _ (by omega), Int.emod_lt_of_pos _ hm⟩

theorem wrap8_lt (n : Int) : 0 ≤ IntKind.wrap .u8 n ∧ IntKind.wrap .u8 n < 256 := by
  unfold IntKind.wrap
  have e1 : (2 : Int) ^ IntKind.bits .u8 = 256 := rfl
  have e3 : IntKind.signed .u8 = false := rfl
  simp only [e1, e3, Bool.false_and, Bool.false_eq_true, if_false]
  omega

structure RcQ where
  xs : List (List Int)
  a : Option Addr
  c : Nat
  vs : List Value
  G : Objs
  R : Objs

/-- Few short records. -/
def Recs (xs : List (List Int)) : Prop := xs.length ≤ 6 ∧ ∀ x ∈ xs, Bytes x ∧ x.length ≤ 10

theorem mkRecords_ok (O : Objs) (l : List Int) (a : Option Addr) (c : Nat) (hl64 : ∀ n ∈ l, In64 n) (hlen : Short l) (hl : Src O 1 (.slice a l.length c) l.length (l.map I)) :
    Spec Try.prog false 14 #[.slice a l.length c] O fun v O' => ∃ xs ao co vs G R, v = .slice ao xs.length co ∧ Grow 1 ao xs.length co vs G ∧ AreB (R ++ O) vs xs ∧ Recs xs ∧ O' = G ++ (R ++ O) := by
  unfold Short at hlen
  refine Spec.enter (args := [_]) (m := 44) Try.func14 rfl rfl (by decide +kernel) fun h0 => ?_
  refine WX.seq ?_
  refine WX.region rfl ?_
  refine WXL.assign Met.none rfl ?_
  refine WXL.nil ?_
  refine Fin.then_normal ?_
  refine WX.seq ?_
  refine WX.region rfl ?_
  refine WXL.assign Met.none rfl ?_
  refine WXL.nil ?_
  refine Fin.then_normal ?_
  refine WX.seq ?_
  refine WX.seq ?_
  refine WX.region rfl ?_
  refine WXL.assign Met.none rfl ?_
  refine WXL.nil ?_
  refine Fin.then_normal ?_
  refine WX.block ?_
  refine WX.loop (fun q : RcQ => [(0, .slice a l.length c), (3, .slice q.a q.xs.length q.c), (4, I (q.xs.length : Int))]) (fun q => q.G ++ (q.R ++ O)) (fun q => q.xs.length ≤ l.length ∧ Grow 1 q.a q.xs.length q.c q.vs q.G ∧ AreB (q.R ++ O) q.vs q.xs ∧ Recs q.xs) (fun q => 6 - q.xs.length) ⟨[], none, 0, [], [], []⟩ ⟨Nat.zero_le _, .nil, .nil, by decide, fun x hx => by simp at hx⟩ (fun s hs => hs.tl [] 0) (fun q hq => ?_)
  obtain ⟨xs, ao, co, vs, G, R⟩ := q
  obtain ⟨h1, hG, hvs, hR1, hR2⟩ := hq
  simp only at h1 hG hvs hR1 hR2
  dsimp only
  have hls : Src (G ++ (R ++ O)) 1 (.slice a l.length c) l.length (l.map I) := Src.app (Src.app hl)
  refine WX.seq ?_
  refine WX.seq ?_
  refine WX.region rfl ?_
  refine WXL.move Met.none rfl ?_
  refine WXL.move Met.none rfl ?_
  refine WXL.len Met.none rfl Try.underlying22 ?_
  refine WXL.bin Met.none rfl rfl rfl ?_
  refine WXL.move Met.none rfl ?_
  refine WXL.split (d := 12) rfl (fun hg12 => ?_) (fun hg12 => ?_)
  · try simp only [cnd] at hg12
    refine WXL.move (Met.some rfl rfl rfl) rfl ?_
    refine WXL.bin (Met.some rfl rfl rfl) rfl rfl rfl ?_
    refine WXL.pick_t Met.none rfl rfl ?_
    refine WXL.nil ?_
    refine Fin.then_normal ?_
    refine WX.cond rfl (fun hc0 => ?_) (fun hc0 => ?_)
    · try simp only [cnd] at hc0
      refine WX.skip ?_
      refine Fin.then_normal ?_
      refine WX.seq ?_
      refine WX.block ?_
      refine WX.seq ?_
      have hk1 : xs.length < l.length := by omega
      have hn64 := hl64 _ (nth_mem hk1)
      obtain ⟨n, hn⟩ : ∃ n, n = around (nth l xs.length) 1000 := ⟨_, rfl⟩
      have hnr := around_range (n := nth l xs.length) (m := 1000) (by decide)
      rw [← hn] at hnr
      refine WX.region rfl ?_
      refine WXL.move Met.none rfl ?_
      refine WXL.move Met.none rfl ?_
      first | refine WXL.ix Met.none rfl rfl elem22 sz3 ?_ | refine WXL.ixS Met.none rfl rfl elem22 sz3 ?_
      first | refine WXL.ld Met.none rfl agg3 ?_ | refine WXL.ldS Met.none rfl agg3 ?_
      refine WXL.cl (O1 := _) Met.none rfl (fnOk_of Try.func19 (by decide +kernel)) rfl (fun _ h => h) (around_ok _ (nth l xs.length) 1000 hn64 (by decide)) (fun v O' hp => ?_)
      obtain ⟨rfl, hO⟩ := hp
      subst O'
      rw [← hn]
      have hnm : 0 ≤ n.tmod 11 ∧ n.tmod 11 ≤ 10 := by rw [Int.tmod_eq_emod_of_nonneg hnr.1]; omega
      refine WXL.assign Met.none rfl ?_
      refine WXL.nil ?_
      refine Fin.then_normal ?_
      refine WX.seq ?_
      refine WX.region rfl ?_
      refine WXL.assign Met.none rfl ?_
      refine WXL.nil ?_
      refine Fin.then_normal ?_
      refine WX.seq ?_
      refine WX.seq ?_
      refine WX.region rfl ?_
      refine WXL.assign Met.none rfl ?_
      refine WXL.nil ?_
      refine Fin.then_normal ?_
      refine WX.block ?_
      refine WX.loop (fun q : List Int × Option Addr × Nat × Objs => [(0, .slice a l.length c), (3, .slice ao xs.length co), (4, I (xs.length : Int)), (5, I n), (6, .slice q.2.1 q.1.length q.2.2.1), (7, I (q.1.length : Int))]) (fun q => q.2.2.2 ++ (G ++ (R ++ O))) (fun q => (q.1.length : Int) ≤ n.tmod 11 ∧ Bytes q.1 ∧ Grow 1 q.2.1 q.1.length q.2.2.1 (q.1.map B8) q.2.2.2) (fun q => 10 - q.1.length) ([], none, 0, []) ⟨by simp only [List.length_nil]; omega, fun x hx => by simp at hx, .nil⟩ (fun s hs => hs.tl [] 0) (fun q hq => ?_)
      obtain ⟨y, ay, cy, Gy⟩ := q
      obtain ⟨hy1, hyB, hGy⟩ := hq
      simp only at hy1 hyB hGy
      dsimp only
      refine WX.seq ?_
      refine WX.seq ?_
      refine WX.region rfl ?_
      refine WXL.move Met.none rfl ?_
      refine WXL.move Met.none rfl ?_
      refine WXL.rem Met.none rfl rfl (by omega) ?_
      refine WXL.bin Met.none rfl rfl rfl ?_
      refine WXL.nil ?_
      refine Fin.then_normal ?_
      refine WX.cond rfl (fun hc1 => ?_) (fun hc1 => ?_)
      · try simp only [cnd] at hc1
        refine WX.skip ?_
        refine Fin.then_normal ?_
        refine WX.seq ?_
        refine WX.block ?_
        refine WX.region rfl ?_
        refine WXL.move Met.none rfl ?_
        refine WXL.move Met.none rfl ?_
        refine WXL.qu Met.none rfl rfl ?_
        refine WXL.move Met.none rfl ?_
        refine WXL.move Met.none rfl ?_
        refine WXL.bin Met.none rfl rfl rfl ?_
        refine WXL.bin Met.none rfl rfl rfl ?_
        refine WXL.conv Met.none rfl Try.underlying3 Try.underlying5 rfl ?_
        refine WXL.buildSlice (c := [_]) Met.none rfl elem23 sz5 zero5 (by decide) (by decide) rfl rfl rfl rfl (fun b37 => ?_)
        refine WXL.apG [_] Met.none rfl rfl isrow23 elem23 sz5 by5 zero5 (Src.lit (cs := [_])) (fun a38 c38 G38 hG38 => ?_)
        refine WXL.assign Met.none rfl ?_
        refine WXL.nil ?_
        refine Fin.block_normal ?_
        refine Fin.then_normal ?_
        refine WX.region rfl ?_
        refine WXL.move Met.none rfl ?_
        refine WXL.bin Met.none rfl rfl bvA ?_
        refine WXL.assign Met.none rfl ?_
        refine WXL.nil ?_
        refine Fin.loop_next (y ++ [IntKind.wrap .u8 (IntKind.wrap .i64 (n.tdiv 11 + IntKind.wrap .i64 ((y.length : Int) * n)))], a38, c38, G38) ⟨by simp only [List.length_append, List.length_singleton]; omega, ?_, ?_⟩ (by simp only [List.length_append, List.length_singleton]; omega) ?_
        · intro z hz
          rcases List.mem_append.1 hz with q | q
          · exact hyB z q
          · rw [List.mem_singleton] at q; subst q; exact wrap8_lt _
        · simp only [List.length_append, List.length_singleton, List.map_append]; exact hG38
        · simp only [List.length_append, List.length_singleton]
          exact (fun s hs => hs.tl [] 1)
      · try simp only [cnd] at hc1
        refine WX.exit ?_
        refine Fin.then_exit ?_
        refine Fin.loop_exit ?_
        refine Fin.block_hit rfl ?_
        refine Fin.then_normal ?_
        refine WX.re (O' := G ++ (Gy ++ (R ++ O))) ?_
        refine WX.region rfl ?_
        refine WXL.move Met.none rfl ?_
        refine WXL.move Met.none rfl ?_
        refine WXL.buildSlice (c := [_]) Met.none rfl elem27 sz23 zero23 (by decide) (by decide) rfl rfl rfl rfl (fun b41 => ?_)
        refine WXL.apG [_] Met.none rfl rfl isrow27 elem27 sz23 by23 zero23 (Src.lit (cs := [_])) (fun a42 c42 G42 hG42 => ?_)
        refine WXL.assign Met.none rfl ?_
        refine WXL.nil ?_
        refine Fin.block_normal ?_
        refine Fin.then_normal ?_
        refine WX.region rfl ?_
        refine WXL.move Met.none rfl ?_
        refine WXL.bin Met.none rfl rfl bvA ?_
        refine WXL.assign Met.none rfl ?_
        refine WXL.nil ?_
        refine Fin.loop_next (⟨xs ++ [y], a42, c42, vs ++ [.slice ay y.length cy], G42, Gy ++ R⟩ : RcQ) ⟨by simp only [List.length_append, List.length_singleton]; omega, ?_, ?_, ?_, ?_⟩ (by simp only [List.length_append, List.length_singleton]; omega) ?_
        · simp only [List.length_append, List.length_singleton]; exact hG42
        · simp only
          rw [List.append_assoc]
          exact hvs.app.snoc ⟨ay, cy, rfl, hGy.src⟩
        · simp only [List.length_append, List.length_singleton]; omega
        · intro x hx
          rcases List.mem_append.1 hx with q | q
          · exact hR2 x q
          · rw [List.mem_singleton] at q; subst q; exact ⟨hyB, by omega⟩
        · simp only [List.length_append, List.length_singleton, List.append_assoc]
          exact (fun s hs => hs.tl [] 1)
    · try simp only [cnd] at hc0
      refine WX.exit ?_
      refine Fin.then_exit ?_
      refine Fin.loop_exit ?_
      refine Fin.block_hit rfl ?_
      refine Fin.then_normal ?_
      refine WX.seq ?_
      refine WX.region rfl ?_
      refine WXL.move Met.none rfl ?_
      refine WXL.assign Met.none rfl ?_
      refine WXL.nil ?_
      refine Fin.then_normal ?_
      refine WX.ret ?_
      exact Fin.result (O' := G ++ (R ++ O)) (.inr rfl) rfl rfl sub_ ⟨xs, ao, co, vs, G, R, rfl, hG, hvs, ⟨hR1, hR2⟩, rfl⟩
  · try simp only [cnd] at hg12
    refine WXL.miss (j := 4) (d := 12) rfl rfl rfl ?_
    refine WXL.miss (j := 4) (d := 12) rfl rfl rfl ?_
    refine WXL.pick_f Met.none rfl rfl ?_
    refine WXL.nil ?_
    refine Fin.then_normal ?_
    refine WX.cond rfl (fun hc0 => nomatch hc0) (fun hc0 => ?_)
    refine WX.exit ?_
    refine Fin.then_exit ?_
    refine Fin.loop_exit ?_
    refine Fin.block_hit rfl ?_
    refine Fin.then_normal ?_
    refine WX.seq ?_
    refine WX.region rfl ?_
    refine WXL.move Met.none rfl ?_
    refine WXL.assign Met.none rfl ?_
    refine WXL.nil ?_
    refine Fin.then_normal ?_
    refine WX.ret ?_
    exact Fin.result (O' := G ++ (R ++ O)) (.inr rfl) rfl rfl sub_ ⟨xs, ao, co, vs, G, R, rfl, hG, hvs, ⟨hR1, hR2⟩, rfl⟩

end Go.Proofs.Ythekokdpplobhaa.Eng

set_option linter.unusedVariables false
set_option linter.unusedSimpArgs false
namespace Go.Proofs.Ythekokdpplobhaa.Eng

theorem Src.row1 {O : Objs} {b n c : Nat} {r : Bool} {cs : List Value} (hl : cs.length = n) : Src ((b, ⟨1, r, cs⟩) :: O) 1 (.slice (some ⟨b, 0, none⟩) n c) n cs :=
  Src.of (y := ⟨1, r, cs⟩) (Knows.at 0 rfl) (by show 0 + n * 1 ≤ cs.length; omega) (by show (cs.drop 0).take (n * 1) = cs; rw [Nat.mul_one, List.drop_zero, ← hl, List.take_length])

theorem byte_of {n : Int} (h : 0 ≤ n ∧ n ≤ 255) : 0 ≤ n ∧ n < 256 := ⟨h.1, by have := h.2; omega⟩

theorem bytes_of {l : List Int} (h : ∀ n ∈ l, 0 ≤ n ∧ n ≤ 255) : Bytes l := fun n hn => ⟨(h n hn).1, by have := (h n hn).2; omega⟩

theorem varU_pos (n : Nat) : 0 < (varU n).length := by
  rw [varU]; split <;> simp

theorem rawB_pos (x : List Int) : x.length < (rawB x).length := by
  unfold rawB
  have := varU_pos x.length
  rw [List.length_append]
  omega

theorem frameB_four (i : Int) (x : List Int) : x.length + 4 ≤ (frameB i x).length := by
  unfold frameB
  rw [List.length_append]
  have h1 := rawB_pos (coreB i x)
  have h2 := varU_pos (hashB lblF (coreB i x)).toNat
  have h3 := rawB_pos x
  have h4 := varU_pos (zigU i).toNat
  have h5 : (coreB i x).length = (varU (zigU i).toNat).length + (rawB x).length := by unfold coreB; rw [List.length_append]
  omega

theorem core07 : coreB 0 [7] = [0, 1, 7] := by
  unfold coreB rawB
  have h1 : (zigU 0).toNat = 0 := rfl
  rw [h1, varU_lt (by decide), varU_lt (by decide)]
  rfl

theorem scan_short (i : Nat) {b : List Int} (h : b.length < 4) : scanP i b = ([], 0) := by
  rw [scanP, dif_neg]
  rintro ⟨_, h2⟩
  have := h2.length_le
  have := frameB_four i (recordP b)
  omega

theorem recs07 : recsP (frameB 0 [7] ++ [3, 0, 1]) = [[7]] ∧ endP (frameB 0 [7] ++ [3, 0, 1]) 1 = (frameB 0 [7]).length := by
  have h := scanP_frames [3, 0, 1] [[7]] 0 (by decide) (by intro x hx; simp at hx; subst hx; decide)
  have e : framesB 0 [[7]] = frameB 0 [7] := by rw [framesB_cons]; show _ ++ [] = _; rw [List.append_nil]; rfl
  have h0 : scanP (0 + ([[7]] : List (List Int)).length) [3, 0, 1] = ([], 0) := scan_short _ (by decide)
  rw [e, h0] at h
  have h1 : recsP (frameB 0 [7] ++ [3, 0, 1]) = [[7]] := by unfold recsP; rw [h]; rfl
  refine ⟨h1, ?_⟩
  unfold endP
  rw [h1]
  show (framesB 0 [[7]]).length = _
  rw [e]

theorem frame07 : 4 < (frameB 0 [7]).length := frameB_four 0 [7]

theorem lives_ok (O : Objs) : Spec Try.prog false 18 #[] O fun v O' => v = .bool true ∧ O' = O := by
  have hf7 := frame07
  have hfl : (frameB 0 [7]).length ≤ 100 := by
    unfold frameB
    rw [List.length_append]
    have h1 := rawB_len (b := coreB 0 [7]) (by rw [core07]; decide)
    have h2 := hashB_range lblF (coreB 0 [7])
    have h3 := varU_len (k := 9) (n := (hashB lblF (coreB 0 [7])).toNat) (by unfold InU at h2; omega)
    rw [core07] at *
    simp only [List.length_cons, List.length_nil] at h1
    omega
  have hhr := hashB_range lblF [0, 1, 7]
  have hB7 : Bytes [7] := by intro x hx; simp at hx; omega
  have hB017 : Bytes [0, 1, 7] := by intro x hx; simp at hx; omega
  have hBl : Bytes lblF := by unfold lblF; intro x hx; simp at hx; omega
  have hrl := rawB_len (b := [0, 1, 7]) (by decide)
  have hfe : rawB [0, 1, 7] ++ varU (hashB lblF [0, 1, 7]).toNat = frameB 0 [7] := by unfold frameB; rw [core07]
  obtain ⟨hr1, hr2⟩ := recs07
  simp only [List.length_cons, List.length_nil] at hrl
  refine Spec.enter (args := []) (m := 40) Try.func18 rfl rfl (by decide +kernel) fun h0 => ?_
  refine WX.seq ?_
  refine WX.region rfl ?_
  refine WXL.assign Met.none rfl ?_
  refine WXL.nil ?_
  refine Fin.then_normal ?_
  refine WX.seq ?_
  refine WX.region rfl ?_
  refine WXL.buildSlice (c := [_]) Met.none rfl elem23 sz5 zero5 (by decide) (by decide) rfl rfl rfl rfl (fun b6 => ?_)
  refine WXL.cl (O1 := _) Met.none rfl (fnOk_of Try.func12 (by decide +kernel)) rfl (fun _ h => h) (frame_ok _ 0 [7] (some ⟨b6, 0, none⟩) 1 (by unfold In64; decide) hB7 (by decide) (Src.lit)) (fun v O' hp => ?_)
  obtain ⟨a1, c1, G1, rfl, hG1, rfl⟩ := hp
  refine WXL.assign Met.none rfl ?_
  refine WXL.nil ?_
  refine Fin.then_normal ?_
  refine WX.seq ?_
  refine WX.region rfl ?_
  refine WXL.alloc (c := [_]) Met.none zero37 rfl (fun b2 => ?_)
  refine WXL.nil ?_
  refine Fin.then_normal ?_
  refine WX.seq ?_
  refine WX.region rfl ?_
  refine WXL.buildSlice (c := [_, _, _]) Met.none rfl elem23 sz5 zero5 (by decide) (by decide) rfl rfl rfl rfl (fun b8 => ?_)
  refine WXL.cl (O1 := (b2, ⟨0, false, [.slice none 0 0]⟩) :: ([] ++ ((b8, ⟨1, false, [B8 0, B8 1, B8 7]⟩) :: (G1 ++ ((b6, ⟨1, false, [B8 7]⟩) :: O))))) Met.none rfl (fnOk_of Try.func21 (by decide +kernel)) rfl (fun _ hs => hs.tl [1, 0] 2) (wRaw_ok _ [] b2 [] [0, 1, 7] none (some ⟨b8, 0, none⟩) 0 3 hB017 (by decide) (by decide) .nil (Src.lit)) (fun v O' hp => ?_)
  obtain ⟨a2, c2, G2, hG2, rfl⟩ := hp
  rw [show [] ++ (varU ([0, 1, 7] : List Int).length ++ [0, 1, 7]) = rawB [0, 1, 7] from rfl] at hG2 ⊢
  refine WXL.nil ?_
  refine Fin.then_normal ?_
  refine WX.seq ?_
  refine WX.region rfl ?_
  refine WXL.buildSlice (c := [_, _, _]) Met.none rfl elem23 sz5 zero5 (by decide) (by decide) rfl rfl rfl rfl (fun b10 => ?_)
  refine WXL.cl (O1 := _) Met.none rfl (fnOk_of Try.func28 (by decide +kernel)) rfl (fun _ h => h) (hash_ok _ lblF [0, 1, 7] (some ⟨b10, 0, none⟩) 3 hBl hB017 (by decide) (by decide) (Src.lit)) (fun v O' hp => ?_)
  obtain ⟨rfl, hO⟩ := hp
  subst O'
  rw [show U (hashB lblF [0, 1, 7]) = U (((hashB lblF [0, 1, 7]).toNat : Nat) : Int) from by rw [Int.toNat_of_nonneg hhr.1]]
  refine WXL.cl (O1 := (b2, ⟨0, false, [.slice a2 (rawB [0, 1, 7]).length c2]⟩) :: (G2 ++ (G1 ++ O))) Met.none rfl (fnOk_of Try.func23 (by decide +kernel)) rfl sub_ (wUint_ok _ G2 b2 (rawB [0, 1, 7]) a2 c2 (hashB lblF [0, 1, 7]).toNat (by unfold InU at hhr; omega) (by omega) hG2) (fun v O' hp => ?_)
  obtain ⟨a3, c3, G3, hG3, rfl⟩ := hp
  rw [hfe] at hG3 ⊢
  refine WXL.nil ?_
  refine Fin.then_normal ?_
  refine WX.seq ?_
  refine WX.region rfl ?_
  refine WXL.move Met.none rfl ?_
  refine WXL.len Met.none rfl Try.underlying23 ?_
  refine WXL.assign Met.none rfl ?_
  refine WXL.nil ?_
  refine Fin.then_normal ?_
  refine WX.seq ?_
  refine WX.region rfl ?_
  refine WXL.move Met.none rfl ?_
  refine WXL.buildSlice (c := [_, _, _]) Met.none rfl elem23 sz5 zero5 (by decide) (by decide) rfl rfl rfl rfl (fun b17 => ?_)
  refine WXL.appendS (_ :: _ :: G3) Met.none rfl rfl isrow23 elem23 sz5 by5 zero5 (Src.lit (cs := [_, _, _])) (fun o18 b18 ha18 => ?_)
  have hsl : (frameB 0 [7]).length + 3 = (frameB 0 [7] ++ [3, 0, 1]).length := by rw [List.length_append]; rfl
  subst ha18
  rw [hsl]
  refine WXL.cl (O1 := _) Met.none rfl (fnOk_of Try.func15 (by decide +kernel)) rfl (fun _ h => h) (scan_ok _ (frameB 0 [7] ++ [3, 0, 1]) (some ⟨b18, 0, none⟩) _ (fun x hx => by
  rcases List.mem_append.1 hx with q | q
  · exact frameB_bytes hB7 x q
  · simp at q; omega) (by rw [← hsl]; omega) (.inr ⟨b18, 0, _, rfl, Knows.at 0 rfl, rfl, by rw [← hsl]; simp, by
    rw [← hsl]
    show (List.map B8 (frameB 0 [7]) ++ [B8 3, B8 0, B8 1]).take (((frameB 0 [7]).length + 3) * 1) = _
    rw [List.take_of_length_le (by simp), List.map_append]
    rfl⟩) (fun q => by cases q)) (fun v O' hp => ?_)
  obtain ⟨ao, co, ws, Go, Ro, rfl, hGo, hRo, rfl⟩ := hp
  rw [hr1] at hGo hRo ⊢
  refine WXL.move Met.none rfl ?_
  refine WXL.extract Met.none rfl rfl ?_
  refine WXL.extract Met.none rfl rfl ?_
  refine WXL.assign Met.none rfl ?_
  refine WXL.assign Met.none rfl ?_
  refine WXL.nil ?_
  refine Fin.then_normal ?_
  refine WX.seq ?_
  refine WX.region rfl ?_
  refine WXL.move Met.none rfl ?_
  refine WXL.cl (O1 := _) Met.none rfl (fnOk_of Try.func22 (by decide +kernel)) rfl (fun _ h => h) (done_ok _ G3 b2 (frameB 0 [7]) a3 c3 (by omega) hG3 (Src.app (Src.app (Src.cons (Src.cons (Src.cons hG3.src))))) (Knows.app (Knows.app (Knows.cons (Knows.cons (Knows.at 0 rfl)))))) (fun v O' hp => ?_)
  obtain ⟨a4, c4, G4, rfl, hG4, rfl⟩ := hp
  refine WXL.cl (O1 := _) Met.none rfl (fnOk_of Try.func11 (by decide +kernel)) rfl (fun _ h => h) (sameB_ok _ (frameB 0 [7]) (frameB 0 [7]) (some ⟨o18, 0, none⟩) a4 c1 c4 (by unfold Short; omega) (Src.app (Src.app (Src.app (Src.cons (Src.cons (Src.cons (Src.app (Src.row1 (by simp))))))))) hG4.src) (fun v O' hp => ?_)
  obtain ⟨rfl, hO⟩ := hp
  subst O'
  refine WXL.move Met.none rfl ?_
  refine WXL.split (d := 25) rfl (fun hg25 => ?_) (fun hg25 => ?_)
  · try simp only [cnd] at hg25
    refine WXL.move (Met.some rfl rfl rfl) rfl ?_
    refine WXL.bin (Met.some rfl rfl rfl) rfl rfl rfl ?_
    refine WXL.pick_t Met.none rfl rfl ?_
    refine WXL.move Met.none rfl ?_
    refine WXL.split (d := 29) rfl (fun hg29 => ?_) (fun hg29 => ?_)
    · try simp only [cnd] at hg29
      refine WXL.move (Met.some rfl rfl rfl) rfl ?_
      refine WXL.move (Met.some rfl rfl rfl) rfl ?_
      refine WXL.bin (Met.some rfl rfl rfl) rfl rfl rfl ?_
      refine WXL.pick_t Met.none rfl rfl ?_
      refine WXL.move Met.none rfl ?_
      refine WXL.split (d := 34) rfl (fun hg34 => ?_) (fun hg34 => ?_)
      · try simp only [cnd] at hg34
        refine WXL.move (Met.some rfl rfl rfl) rfl ?_
        refine WXL.buildSlice (c := [_]) (Met.some rfl rfl rfl) rfl elem23 sz5 zero5 (by decide) (by decide) rfl rfl rfl rfl (fun b36 => ?_)
        refine WXL.buildSlice (c := [_]) (Met.some rfl rfl rfl) rfl elem27 sz23 zero23 (by decide) (by decide) rfl rfl rfl rfl (fun b37 => ?_)
        refine WXL.cl (O1 := _) (Met.some rfl rfl rfl) rfl (fnOk_of Try.func17 (by decide +kernel)) rfl (fun _ h => h) (sameLists_ok _ [[7]] [[7]] ws [.slice (some ⟨b36, 0, none⟩) 1 1] ao (some ⟨b37, 0, none⟩) co 1 (by decide) (by intro x hx; simp at hx; subst hx; decide) (Src.cons (Src.cons (Src.app hGo.src))) (Src.lit) hRo.app.app.cons.cons ⟨rfl, fun k hk => by
        have : k = 0 := by simp at hk; omega
        subst this
        exact ⟨some ⟨b36, 0, none⟩, 1, rfl, Src.cons (Src.lit)⟩⟩) (fun v O' hp => ?_)
        obtain ⟨bx, rfl, hbx, rfl⟩ := hp
        rw [decide_eq_true rfl] at hbx
        subst hbx
        refine WXL.pick_t Met.none rfl rfl ?_
        refine WXL.assign Met.none rfl ?_
        refine WXL.nil ?_
        refine Fin.then_normal ?_
        refine WX.ret ?_
        exact Fin.result (O' := O) (.inr rfl) rfl rfl sub_ ⟨rfl, rfl⟩
      · try simp only [cnd] at hg34
        exact absurd hg34 (by have := hr2; simp only [List.length_cons, List.length_nil, Nat.zero_add]; omega) --end
    · try simp only [cnd] at hg29
      exact absurd hg29 (by omega) --end
  · try simp only [cnd] at hg25
    exact (by simp at hg25) --end

end Go.Proofs.Ythekokdpplobhaa.Eng

set_option linter.unusedVariables false
set_option linter.unusedSimpArgs false
namespace Go.Proofs.Ythekokdpplobhaa.Eng

/-- A mix, on bits. -/
def gB (s w : BitVec 64) : BitVec 64 := ((s ^^^ w) * 11400714819323198485#64) ^^^ (((s ^^^ w) * 11400714819323198485#64) >>> 32)

theorem shift_inj {x y : BitVec 64} (h : x ^^^ (x >>> 32) = y ^^^ (y >>> 32)) : x = y := by
  have key : ∀ z : BitVec 64, (z ^^^ (z >>> 32)) ^^^ ((z ^^^ (z >>> 32)) >>> 32) = z := by
    intro z
    have e1 : (z ^^^ (z >>> 32)) >>> 32 = z >>> 32 := by
      rw [BitVec.ushiftRight_xor_distrib, ← BitVec.shiftRight_add]
      have : z >>> (32 + 32) = 0#64 := BitVec.ushiftRight_eq_zero (by decide)
      rw [this, BitVec.xor_zero]
    rw [e1, BitVec.xor_assoc, BitVec.xor_self, BitVec.xor_zero]
  rw [← key x, ← key y, h]

theorem mul_inj {x y : BitVec 64} (h : x * 11400714819323198485#64 = y * 11400714819323198485#64) : x = y := by
  have e : (11400714819323198485#64) * 17428512612931826493#64 = 1#64 := by decide
  have : x * 11400714819323198485#64 * 17428512612931826493#64 = y * 11400714819323198485#64 * 17428512612931826493#64 := by rw [h]
  rwa [BitVec.mul_assoc, BitVec.mul_assoc, e, BitVec.mul_one, BitVec.mul_one] at this

theorem gB_left {s s' w : BitVec 64} (h : gB s w = gB s' w) : s = s' := by
  have h1 := mul_inj (shift_inj h)
  have : s ^^^ w ^^^ w = s' ^^^ w ^^^ w := by rw [h1]
  rwa [BitVec.xor_assoc, BitVec.xor_assoc, BitVec.xor_self, BitVec.xor_zero, BitVec.xor_zero] at this

theorem gB_right {s w w' : BitVec 64} (h : gB s w = gB s w') : w = w' := by
  unfold gB at h
  rw [BitVec.xor_comm s w, BitVec.xor_comm s w'] at h
  exact gB_left (s := w) (s' := w') (w := s) h

theorem bv_of {a : Int} (h : InU a) : ((BitVec.ofInt 64 a).toNat : Int) = a := by
  unfold InU at h
  rw [BitVec.toNat_ofInt]
  omega

theorem bv_inj {a b : Int} (ha : InU a) (hb : InU b) (h : BitVec.ofInt 64 a = BitVec.ofInt 64 b) : a = b := by
  rw [← bv_of ha, ← bv_of hb, h]

theorem xorU_bv (a b : Int) : xorU a b = (((BitVec.ofInt 64 a) ^^^ (BitVec.ofInt 64 b)).toNat : Int) := by
  unfold xorU
  have := ((BitVec.ofInt 64 a) ^^^ (BitVec.ofInt 64 b)).isLt
  exact wrap_u64 (by omega) (by omega)

theorem bv_nat (x : BitVec 64) : BitVec.ofInt 64 (x.toNat : Int) = x := by
  apply BitVec.eq_of_toNat_eq
  rw [BitVec.toNat_ofInt]
  have := x.isLt
  omega

theorem mixU_bv (s w : Int) : mixU s w = ((gB (BitVec.ofInt 64 s) (BitVec.ofInt 64 w)).toNat : Int) := by
  unfold mixU
  rw [xorU_bv s w]
  obtain ⟨x, hx⟩ : ∃ x, x = (BitVec.ofInt 64 s) ^^^ (BitVec.ofInt 64 w) := ⟨_, rfl⟩
  rw [← hx]
  obtain ⟨m, hm⟩ : ∃ m, m = x * 11400714819323198485#64 := ⟨_, rfl⟩
  have e1 : IntKind.wrap .u64 ((x.toNat : Int) * 11400714819323198485) = (m.toNat : Int) := by
    rw [wrap_mod, hm, BitVec.toNat_mul]
    show ((x.toNat : Int) * 11400714819323198485) % 18446744073709551616 = ((x.toNat * 11400714819323198485 % 18446744073709551616 : Nat) : Int)
    omega
  rw [e1, xorU_bv, bv_nat]
  have e2 : BitVec.ofInt 64 ((m.toNat : Int).fdiv 4294967296) = m >>> 32 := by
    apply BitVec.eq_of_toNat_eq
    rw [Int.fdiv_eq_ediv_of_nonneg _ (by decide), BitVec.toNat_ofInt, BitVec.toNat_ushiftRight, Nat.shiftRight_eq_div_pow]
    have := m.isLt
    omega
  rw [e2]
  unfold gB
  rw [← hx, ← hm]

theorem mixU_range (s w : Int) : InU (mixU s w) := by
  rw [mixU_bv]
  have := (gB (BitVec.ofInt 64 s) (BitVec.ofInt 64 w)).isLt
  unfold InU
  omega

theorem mixU_left {s s' w : Int} (hs : InU s) (hs' : InU s') (h : mixU s w = mixU s' w) : s = s' := by
  rw [mixU_bv, mixU_bv] at h
  exact bv_inj hs hs' (gB_left (w := BitVec.ofInt 64 w) (BitVec.eq_of_toNat_eq (Int.ofNat.inj h)))

theorem mixU_right {s w w' : Int} (hw : InU w) (hw' : InU w') (h : mixU s w = mixU s w') : w = w' := by
  rw [mixU_bv, mixU_bv] at h
  exact bv_inj hw hw' (gB_right (s := BitVec.ofInt 64 s) (BitVec.eq_of_toNat_eq (Int.ofNat.inj h)))

/-- What mixing words makes of a state. -/
def foldU (s : Int) (l : List Int) : Int := l.foldl (fun s n => mixU s (IntKind.wrap .u64 n)) s

theorem foldU_range {s : Int} (hs : InU s) : ∀ {l : List Int}, InU (foldU s l) := by
  intro l
  induction l generalizing s with
  | nil => exact hs
  | cons a l ih => exact ih (s := mixU s (IntKind.wrap .u64 a)) (mixU_range _ _)

theorem foldU_left {l : List Int} : ∀ {s s' : Int}, InU s → InU s' → foldU s l = foldU s' l → s = s' := by
  induction l with
  | nil => intro s s' _ _ h; exact h
  | cons a l ih =>
    intro s s' hs hs' h
    exact mixU_left hs hs' (ih (mixU_range _ _) (mixU_range _ _) h)

theorem foldU_one {p q : List Int} {a a' s : Int} (hs : InU s) (h : foldU s (p ++ a :: q) = foldU s (p ++ a' :: q)) : IntKind.wrap .u64 a = IntKind.wrap .u64 a' := by
  unfold foldU at h
  rw [List.foldl_append, List.foldl_append] at h
  have h2 := foldU_left (l := q) (mixU_range _ _) (mixU_range _ _) h
  exact mixU_right (wrapU_range _) (wrapU_range _) h2

theorem wrap_asI {w : Int} (h : InU w) : IntKind.wrap .u64 (asI w) = w := by
  unfold InU at h
  unfold asI
  rw [wrap_mod]
  unfold IntKind.wrap
  have e1 : (2 : Int) ^ IntKind.bits .i64 = 18446744073709551616 := rfl
  have e2 : (2 : Int) ^ (IntKind.bits .i64 - 1) = 9223372036854775808 := rfl
  have e3 : IntKind.signed .i64 = true := rfl
  simp only [e1, e2, e3, Bool.true_and, decide_eq_true_eq]
  split <;> omega

theorem leW_inj : ∀ {l m : List Int}, Bytes l → Bytes m → l.length = m.length → leW l = leW m → l = m
  | [], [], _, _, _, _ => rfl
  | [], _ :: _, _, _, h, _ => by simp at h
  | _ :: _, [], _, _, h, _ => by simp at h
  | a :: l, b :: m, hl, hm, h, he => by
    have ha := hl a (List.mem_cons_self ..)
    have hb := hm b (List.mem_cons_self ..)
    unfold leW at he
    have e1 : a = b := by omega
    have e2 : leW l = leW m := by omega
    rw [e1, leW_inj (fun x hx => hl x (List.mem_cons_of_mem _ hx)) (fun x hx => hm x (List.mem_cons_of_mem _ hx)) (by simpa using h) e2]

/-- One byte turned: one word turned. -/
theorem wordsOf_set (b : List Int) (j : Nat) (x : Int) (hB : Bytes b) (hx : 0 ≤ x ∧ x < 256) (hj : j < b.length) (hne : nth b j ≠ x) :
    ∃ p q w w', wordsOf b = p ++ w :: q ∧ wordsOf (b.set j x) = p ++ w' :: q ∧ w ≠ w' ∧ InU w ∧ InU w' := by
  have hbn : b ≠ [] := fun q => by rw [q] at hj; simp at hj
  have hsn : b.set j x ≠ [] := fun q => hbn (by have := congrArg List.length q; rw [List.length_set] at this; exact List.length_eq_zero_iff.1 this)
  have hsB : Bytes (b.set j x) := fun z hz => by
    rcases List.mem_or_eq_of_mem_set hz with q | q
    · exact hB z q
    · rw [q]; exact hx
  have r1 := wordsOf_range hB
  have r2 := wordsOf_range hsB
  rw [wordsOf_cons hbn] at r1 ⊢
  rw [wordsOf_cons hsn] at r2 ⊢
  by_cases h8 : j < 8
  · have e1 : (b.set j x).drop 8 = b.drop 8 := by rw [List.drop_set, if_pos h8]
    rw [e1] at r2 ⊢
    refine ⟨[], _, _, _, rfl, rfl, fun he => hne ?_, r1 _ (List.mem_cons_self ..), r2 _ (List.mem_cons_self ..)⟩
    have e2 := leW_inj (fun z hz => hB z (List.mem_of_mem_take hz)) (fun z hz => hsB z (List.mem_of_mem_take hz)) (by rw [List.length_take, List.length_take, List.length_set]) he
    have e3 : (b.take 8)[j]? = ((b.set j x).take 8)[j]? := by rw [e2]
    rw [List.getElem?_take, List.getElem?_take, if_pos h8, if_pos h8, List.getElem?_set_self hj, nth_eq hj] at e3
    exact Option.some.inj e3
  · have e1 : (b.set j x).take 8 = b.take 8 := by rw [List.take_set_of_le (by omega)]
    have e2 : (b.set j x).drop 8 = (b.drop 8).set (j - 8) x := by rw [List.drop_set, if_neg h8]
    rw [e1, e2]
    have hd : (b.drop 8).length = b.length - 8 := List.length_drop
    obtain ⟨p, q, w, w', h1, h2, h3, h4, h5⟩ := wordsOf_set (b.drop 8) (j - 8) x (fun z hz => hB z (List.mem_of_mem_drop hz)) hx (by omega) (by
      rw [nth_get (by omega), List.getElem_drop]
      rw [nth_get hj] at hne
      have : 8 + (j - 8) = j := by omega
      simpa only [this] using hne)
    exact ⟨leW (b.take 8) :: p, q, w, w', by rw [h1]; rfl, by rw [h2]; rfl, h3, h4, h5⟩
termination_by b.length
decreasing_by
  rw [List.length_drop]
  omega

theorem hash_set (label b : List Int) (j : Nat) (x : Int) (hB : Bytes b) (hx : 0 ≤ x ∧ x < 256) (hj : j < b.length) (hne : nth b j ≠ x) : hashB label b ≠ hashB label (b.set j x) := by
  intro h
  obtain ⟨p, q, w, w', h1, h2, h3, h4, h5⟩ := wordsOf_set b j x hB hx hj hne
  unfold hashB sumU at h
  rw [List.length_set] at h
  have hl : ((wordsOf b).map asI ++ [(b.length : Int)]).length = ((wordsOf (b.set j x)).map asI ++ [(b.length : Int)]).length := by
    rw [h1, h2]; simp
  rw [hl] at h
  have h6 := mixU_left (foldU_range (mixU_range _ _)) (foldU_range (mixU_range _ _)) h
  rw [h1, h2] at h6
  simp only [List.map_append, List.map_cons, List.append_assoc, List.cons_append] at h6
  have h7 := foldU_one (mixU_range _ _) h6
  rw [wrap_asI h4, wrap_asI h5] at h7
  exact h3 h7

end Go.Proofs.Ythekokdpplobhaa.Eng

set_option linter.unusedVariables false
set_option linter.unusedSimpArgs false
namespace Go.Proofs.Ythekokdpplobhaa.Eng

theorem set_ne {l : List Int} {k : Nat} {x : Int} (hk : k < l.length) (hne : nth l k ≠ x) : l.set k x ≠ l := fun h => by
  have e : (l.set k x)[k]? = l[k]? := by rw [h]
  rw [List.getElem?_set_self hk, nth_eq hk] at e
  exact hne (Option.some.inj e).symm

theorem varU_pre {m n : Nat} {s t : List Int} (hm : m < 18446744073709551616) (hn : n < 18446744073709551616) (h : varU m ++ s = varU n ++ t) : m = n ∧ s = t := by
  have h1 := uintP_varU m hm s
  have h2 := uintP_varU n hn t
  rw [h, h2] at h1
  injection h1 with e1 e2
  injection e2 with e2 e3
  exact ⟨by omega, e2.symm⟩

theorem hash_nat (label b : List Int) : ∃ n : Nat, hashB label b = (n : Int) ∧ n < 18446744073709551616 := by
  have h := hashB_range label b
  unfold InU at h
  generalize hashB label b = H at h
  exact ⟨H.toNat, by omega, by omega⟩

/-- A turned frame. -/
theorem turned_none {own : List Int} (hB : Bytes own) (hl : own.length ≤ 200) {j : Nat} {x : Int} (hx : 0 ≤ x ∧ x < 256) (hj : (varU (coreB 0 own).length).length ≤ j) (hj2 : j < (frameB 0 own).length) (hne : nth (frameB 0 own) j ≠ x) (y : List Int) (hyB : Bytes y) (hy : y.length ≤ 100000) :
    ¬ frameB 0 y <+: (frameB 0 own).set j x := by
  intro h
  obtain ⟨t, ht⟩ := h
  have h64 : In64 0 := by unfold In64; decide
  have hc := coreB_len h64 (b := own) (by omega)
  have hc' := coreB_len h64 (b := y) (by omega)
  obtain ⟨c, hce⟩ : ∃ c, c = coreB 0 own := ⟨_, rfl⟩
  obtain ⟨c', hce'⟩ : ∃ c', c' = coreB 0 y := ⟨_, rfl⟩
  obtain ⟨v, hv⟩ : ∃ v, v = varU (hashB lblF c).toNat := ⟨_, rfl⟩
  have ef : frameB 0 own = varU c.length ++ (c ++ v) := by unfold frameB rawB; rw [hv, hce, List.append_assoc]
  have ef' : frameB 0 y = varU c'.length ++ (c' ++ varU (hashB lblF c').toNat) := by unfold frameB rawB; rw [hce', List.append_assoc]
  rw [← hce] at hc hj
  rw [← hce'] at hc'
  obtain ⟨n, hn, hn2⟩ := hash_nat lblF c
  obtain ⟨n', hn', hn2'⟩ := hash_nat lblF c'
  rw [ef', ef, List.set_append_right _ _ hj, List.append_assoc] at ht
  obtain ⟨e1, e2⟩ := varU_pre (by omega) (by omega) ht
  rw [ef, List.length_append] at hj2
  have hcB : Bytes c := hce ▸ coreB_bytes hB
  have hnth : nth (frameB 0 own) j = nth (c ++ v) (j - (varU c.length).length) := by
    rw [ef]
    unfold nth
    rw [List.getD_eq_getElem?_getD, List.getD_eq_getElem?_getD, List.getElem?_append_right hj]
  rw [hnth] at hne
  obtain ⟨k, hk⟩ : ∃ k, k = j - (varU c.length).length := ⟨_, rfl⟩
  rw [← hk] at hne e2
  have hkl : k < (c ++ v).length := by omega
  rw [List.append_assoc] at e2
  by_cases hkc : k < c.length
  · rw [List.set_append_left _ _ hkc] at e2
    have e3 := List.append_inj e2 (by rw [List.length_set]; exact e1)
    have hne2 : nth c k ≠ x := by
      intro q
      apply hne
      unfold nth at q ⊢
      rw [List.getD_eq_getElem?_getD] at q ⊢
      rw [List.getElem?_append_left hkc]
      exact q
    have h3 := hash_set lblF c k x hcB hx hkc hne2
    have e4 := e3.2
    rw [hv] at e4
    rw [hn, hn', Int.toNat_natCast, Int.toNat_natCast] at e4
    have e5 := varU_pre (m := n') (n := n) (s := t) (t := []) hn2' hn2 (by rw [List.append_nil]; exact e4)
    apply h3
    rw [← e3.1, hn, hn', e5.1]
  · have hkv : k - c.length < v.length := by rw [List.length_append] at hkl; omega
    rw [List.set_append_right _ _ (by omega)] at e2
    have e3 := List.append_inj e2 e1
    have e4 := e3.2
    rw [e3.1, ← hv] at e4
    have e5 := congrArg List.length e4
    rw [List.length_append, List.length_set] at e5
    have e6 : t = [] := List.length_eq_zero_iff.1 (by omega)
    rw [e6, List.append_nil] at e4
    refine set_ne hkv (fun q => hne ?_) e4.symm
    unfold nth at q ⊢
    rw [List.getD_eq_getElem?_getD] at q ⊢
    rw [List.getElem?_append_right (by omega)]
    exact q

end Go.Proofs.Ythekokdpplobhaa.Eng

set_option linter.unusedVariables false
set_option linter.unusedSimpArgs false
namespace Go.Proofs.Ythekokdpplobhaa.Eng

theorem framesB_snoc (i : Nat) (l : List (List Int)) (x : List Int) : framesB i (l ++ [x]) = framesB i l ++ frameB ((i + l.length : Nat) : Int) x := by
  rw [framesB_append, framesB_cons]
  show _ ++ (_ ++ []) = _
  rw [List.append_nil]

theorem frameB_len {i : Int} {x : List Int} (hi : In64 i) (hx : x.length ≤ 1000) : (frameB i x).length ≤ x.length + 50 := by
  unfold frameB
  rw [List.length_append]
  have h0 := coreB_len hi (b := x) (by omega)
  have h1 := rawB_len (b := coreB i x) (by omega)
  have h2 := hashB_range lblF (coreB i x)
  have h3 := varU_len (k := 9) (n := (hashB lblF (coreB i x)).toNat) (by unfold InU at h2; omega)
  omega

theorem framesB_le : ∀ (l : List (List Int)) (i : Nat), i + l.length ≤ 1000000 → (∀ x ∈ l, x.length ≤ 200) → (framesB i l).length ≤ 250 * l.length
  | [], _, _, _ => Nat.zero_le _
  | x :: l, i, hi, hl => by
    simp only [List.length_cons] at hi
    have h1 := framesB_le l (i + 1) (by omega) fun y hy => hl y (List.mem_cons_of_mem _ hy)
    have h2 := hl x (List.mem_cons_self ..)
    have h3 := frameB_len (i := (i : Int)) (x := x) (by unfold In64; omega) (by omega)
    rw [framesB_cons, List.length_append, List.length_cons]
    omega

theorem framesB_bytes : ∀ (l : List (List Int)) (i : Nat), (∀ x ∈ l, Bytes x) → Bytes (framesB i l)
  | [], _, _ => fun x hx => by simp [framesB] at hx
  | y :: l, i, h => fun x hx => by
    rw [framesB_cons] at hx
    rcases List.mem_append.1 hx with q | q
    · exact frameB_bytes (h y (List.mem_cons_self ..)) x q
    · exact framesB_bytes l (i + 1) (fun z hz => h z (List.mem_cons_of_mem _ hz)) x q

theorem framesB_mem : ∀ (l : List (List Int)) (i : Nat) (x : List Int), x ∈ l → x.length ≤ (framesB i l).length
  | [], _, _, h => by simp at h
  | y :: l, i, x, h => by
    rw [framesB_cons, List.length_append]
    rcases List.mem_cons.1 h with rfl | h
    · have := frameB_four (i : Int) x
      omega
    · have := framesB_mem l (i + 1) x h
      omega

theorem recsP_mem {b x : List Int} (h : x ∈ recsP b) : x.length ≤ b.length := Nat.le_trans (framesB_mem _ 0 x h) (scanP_len b 0).2.length_le

theorem take_bytes {l : List Int} {k : Nat} (h : Bytes l) : Bytes (l.take k) := fun x hx => h x (List.mem_of_mem_take hx)

theorem AreB.take {O : Objs} {vs : List Value} {xs ys : List (List Int)} {n : Nat} (h : AreB O vs xs) (hn : n ≤ xs.length) (he : xs.take n = ys) : AreB O (vs.take n) ys := by
  obtain ⟨h1, h2⟩ := h
  subst he
  refine ⟨by rw [List.length_take, List.length_take, h1], fun k hk => ?_⟩
  rw [List.length_take] at hk
  have e1 : nth (vs.take n) k = nth vs k := by
    rw [nth_get (by rw [List.length_take, h1]; exact hk), nth_get (by omega), List.getElem_take]
  have e2 : nth (xs.take n) k = nth xs k := by
    rw [nth_get (by rw [List.length_take]; exact hk), nth_get (by omega), List.getElem_take]
  rw [e1, e2]
  exact h2 k (by omega)

theorem journalFrames_ok (O : Objs) (l : List Int) (number : Int) (b rest : List Int) (al ab ar : Option Addr) (cl cb cr : Nat) (h64 : ∀ n ∈ l, In64 n) (hll : Short l) (hn : In64 number) (hBb : Bytes b) (hbl : Short b) (hBr : Bytes rest) (hrl : Short rest)
    (hl : Src O 1 (.slice al l.length cl) l.length (l.map I)) (hb : Rowy O 1 ab b.length (b.map B8)) (kb : ab = none → cb = 0) (hr : Rowy O 1 ar rest.length (rest.map B8)) (kr : ar = none → cr = 0) :
    Spec Try.prog false 3 #[.slice al l.length cl, I number, .slice ab b.length cb, .slice ar rest.length cr] O fun v _ => v = .bool true := by
  obtain ⟨own, hown⟩ : ∃ own, own = b.take 200 := ⟨_, rfl⟩
  have hol : own.length ≤ 200 := by rw [hown, List.length_take]; omega
  have hoB : Bytes own := hown ▸ take_bytes hBb
  have hfl := frameB_len hn (x := own) (by omega)
  refine Spec.enter (args := [_, _, _, _]) (m := 94) Try.func3 rfl rfl (by decide +kernel) fun h0 => ?_
  refine WX.seq ?_
  refine WX.region rfl ?_
  refine WXL.assign Met.none rfl ?_
  refine WXL.nil ?_
  refine Fin.then_normal ?_
  refine WX.seq ?_
  refine WX.region rfl ?_
  refine WXL.move Met.none rfl ?_
  refine WXL.cl (O1 := _) Met.none rfl (fnOk_of Try.func10 (by decide +kernel)) rfl (fun _ h => h) (few_ok O b ab cb 200 (by decide) hbl (by decide) hb kb) (fun v O' hp => ?_)
  obtain ⟨a1, c1, G1, rfl, hG1, rfl⟩ := hp
  rw [show b.take (200 : Int).toNat = own from hown.symm] at hG1 ⊢
  refine WXL.assign Met.none rfl ?_
  refine WXL.nil ?_
  refine Fin.then_normal ?_
  refine WX.seq ?_
  refine WX.seq ?_
  refine WX.region rfl ?_
  refine WXL.move Met.none rfl ?_
  refine WXL.move Met.none rfl ?_
  refine WXL.cl (O1 := _) Met.none rfl (fnOk_of Try.func12 (by decide +kernel)) rfl (fun _ h => h) (frame_ok _ number own a1 c1 hn hoB (by omega) hG1.src) (fun v O' hp => ?_)
  obtain ⟨a2, c2, G2, rfl, hG2, rfl⟩ := hp
  refine WXL.move Met.none rfl ?_
  refine WXL.move Met.none rfl ?_
  refine WXL.cl (O1 := _) Met.none rfl (fnOk_of Try.func13 (by decide +kernel)) rfl (fun _ h => h) (refFrame_ok _ number own a1 c1 hn hoB (by omega) (Src.app hG1.src)) (fun v O' hp => ?_)
  obtain ⟨a3, c3, G3, rfl, hG3, rfl⟩ := hp
  refine WXL.cl (O1 := _) Met.none rfl (fnOk_of Try.func11 (by decide +kernel)) rfl (fun _ h => h) (sameB_ok _ (frameB number own) (frameB number own) a2 a3 c2 c3 (by unfold Short; omega) (Src.app hG2.src) hG3.src) (fun v O' hp => ?_)
  obtain ⟨rfl, hO⟩ := hp
  subst O'
  refine WXL.not Met.none rfl ?_
  refine WXL.nil ?_
  refine Fin.then_normal ?_
  refine WX.cond rfl (fun hc0 => ?_) (fun hc0 => ?_)
  · try simp only [cnd] at hc0
    exact (by simp at hc0) --end
  · try simp only [cnd] at hc0
    refine WX.skip ?_
    refine Fin.then_normal ?_
    refine WX.seq ?_
    refine WX.re (O' := G1 ++ O) ?_
    refine WX.region rfl ?_
    refine WXL.move Met.none rfl ?_
    refine WXL.cl (O1 := _) Met.none rfl (fnOk_of Try.func14 (by decide +kernel)) rfl (fun _ h => h) (mkRecords_ok _ l al cl h64 hll hl.app) (fun v O' hp => ?_)
    obtain ⟨xs, a4, c4, vs, G4, R4, rfl, hG4, hvs, ⟨hx1, hx2⟩, rfl⟩ := hp
    refine WXL.move Met.none rfl ?_
    refine WXL.buildSlice (c := [_]) Met.none rfl elem27 sz23 zero23 (by decide) (by decide) rfl rfl rfl rfl (fun b31 => ?_)
    refine WXL.apG [_] Met.none rfl rfl isrow27 elem27 sz23 by23 zero23 (Src.lit (cs := [_])) (fun a32 c32 G32 hG32 => ?_)
    refine WXL.assign Met.none rfl ?_
    refine WXL.nil ?_
    refine Fin.then_normal ?_
    refine WX.seq ?_
    obtain ⟨ys, hys⟩ : ∃ ys, ys = xs ++ [own] := ⟨_, rfl⟩
    obtain ⟨ws, hws⟩ : ∃ ws, ws = vs ++ [.slice a1 own.length c1] := ⟨_, rfl⟩
    obtain ⟨B, hB⟩ : ∃ B, B = R4 ++ (G1 ++ O) := ⟨_, rfl⟩
    have hyl : xs.length + 1 = ys.length := by rw [hys, List.length_append]; rfl
    have hG : Grow 1 a32 ys.length c32 ws G32 := by rw [← hyl, hws]; exact hG32
    have hW : AreB B ws ys := by rw [hB, hws, hys]; exact hvs.snoc ⟨a1, c1, rfl, Src.app hG1.src⟩
    have hrB : Rowy B 1 ar rest.length (rest.map B8) := by rw [hB]; exact hr.app.app
    have hy7 : ys.length ≤ 7 := by omega
    have hyx : ∀ x ∈ ys, Bytes x ∧ x.length ≤ 200 := by
      intro x hx
      rw [hys] at hx
      rcases List.mem_append.1 hx with q | q
      · exact ⟨(hx2 x q).1, by have := (hx2 x q).2; omega⟩
      · rw [List.mem_singleton] at q; subst q; exact ⟨hoB, hol⟩
    have hfle : ∀ k, (framesB 0 (ys.take k)).length ≤ 250 * 7 := fun k => by
      have h1 : (ys.take k).length ≤ 7 := by rw [List.length_take]; omega
      have := framesB_le (ys.take k) 0 (by omega) fun x hx => (hyx x (List.mem_of_mem_take hx)).2
      omega
    rw [hyl]
    refine WX.re (O' := G32 ++ B) (c := _) ?_ (by rw [hB]; exact sub_)
    clear hvs hG32
    refine WX.region rfl ?_
    refine WXL.assign Met.none rfl ?_
    refine WXL.nil ?_
    refine Fin.then_normal ?_
    refine WX.seq ?_
    refine WX.seq ?_
    refine WX.region rfl ?_
    refine WXL.assign Met.none rfl ?_
    refine WXL.nil ?_
    refine Fin.then_normal ?_
    refine WX.block ?_
    refine WX.loop (fun q : Nat × Option Addr × Nat × Objs => [(3, .slice ar rest.length cr), (10, .slice a32 ys.length c32), (11, .slice q.2.1 (framesB 0 (ys.take q.1)).length q.2.2.1), (12, I (q.1 : Int))]) (fun q => q.2.2.2 ++ (G32 ++ B)) (fun q => q.1 ≤ ys.length ∧ Grow 1 q.2.1 (framesB 0 (ys.take q.1)).length q.2.2.1 ((framesB 0 (ys.take q.1)).map B8) q.2.2.2) (fun q => ys.length - q.1) (0, none, 0, []) ⟨Nat.zero_le _, .nil⟩ (fun s hs => hs.tl [] 0) (fun q hq => ?_)
    obtain ⟨k, aa, ca, Ga⟩ := q
    obtain ⟨hk, hGa⟩ := hq
    simp only at hk hGa
    dsimp only
    refine WX.seq ?_
    refine WX.seq ?_
    refine WX.region rfl ?_
    refine WXL.move Met.none rfl ?_
    refine WXL.move Met.none rfl ?_
    refine WXL.len Met.none rfl Try.underlying27 ?_
    refine WXL.bin Met.none rfl rfl rfl ?_
    refine WXL.nil ?_
    refine Fin.then_normal ?_
    refine WX.cond rfl (fun hc1 => ?_) (fun hc1 => ?_)
    · try simp only [cnd] at hc1
      refine WX.skip ?_
      refine Fin.then_normal ?_
      refine WX.seq ?_
      refine WX.block ?_
      have hk1 : k < ys.length := by omega
      obtain ⟨ax, cx, ex, sx⟩ := hW.2 k hk1
      rw [ex] at sx
      obtain ⟨hxB, hxl⟩ := hyx _ (nth_mem hk1)
      have hk64 : In64 (k : Int) := by unfold In64; omega
      have hfx := frameB_len hk64 (x := nth ys k) (by omega)
      have hfk := hfle k
      have hsrcx : Src (Ga ++ (G32 ++ B)) 1 (.slice a32 ys.length c32) ys.length ws := Src.app hG.src
      have htk : framesB 0 (ys.take (k + 1)) = framesB 0 (ys.take k) ++ frameB (k : Int) (nth ys k) := by
        rw [take_succ_nth hk1, framesB_snoc, List.length_take, Nat.min_eq_left (by omega), Nat.zero_add]
      refine WX.region rfl ?_
      refine WXL.move Met.none rfl ?_
      refine WXL.move Met.none rfl ?_
      refine WXL.move Met.none rfl ?_
      refine WXL.move Met.none rfl ?_
      first | refine WXL.ix Met.none rfl rfl elem27 sz23 ?_ | refine WXL.ixS Met.none rfl rfl elem27 sz23 ?_
      first | refine WXL.ld Met.none rfl agg23 ?_ (hv := (show ws[k]? = some (.slice ax (nth ys k).length cx) from by rw [← ex]; exact nth_eq (by rw [hW.1]; exact hk1))) | refine WXL.ldS Met.none rfl agg23 ?_ (hv := (show ws[k]? = some (.slice ax (nth ys k).length cx) from by rw [← ex]; exact nth_eq (by rw [hW.1]; exact hk1)))
      refine WXL.cl (O1 := _) Met.none rfl (fnOk_of Try.func12 (by decide +kernel)) rfl (fun _ h => h) (frame_ok _ (k : Int) (nth ys k) ax cx hk64 hxB (by omega) (Src.app (Src.app sx))) (fun v O' hp => ?_)
      obtain ⟨a9, c9, G9, rfl, hG9, rfl⟩ := hp
      refine WXL.apG (G9) Met.none rfl rfl isrow23 elem23 sz5 by5 zero5 src_ (fun a46 c46 G46 hG46 => ?_) (hm := (by rw [List.length_map]; omega))
      refine WXL.assign Met.none rfl ?_
      refine WXL.nil ?_
      refine Fin.block_normal ?_
      refine Fin.then_normal ?_
      refine WX.re (O' := G46 ++ (G32 ++ B)) ?_
      have hG' : Grow 1 a46 (framesB 0 (ys.take (k + 1))).length c46 ((framesB 0 (ys.take (k + 1))).map B8) G46 := by
        rw [htk, List.length_append, List.map_append]; exact hG46
      rw [show (framesB 0 (ys.take k)).length + (frameB (k : Int) (nth ys k)).length = (framesB 0 (ys.take (k + 1))).length from by rw [htk, List.length_append]]
      refine WX.region rfl ?_
      refine WXL.move Met.none rfl ?_
      refine WXL.bin Met.none rfl rfl bvA ?_
      refine WXL.assign Met.none rfl ?_
      refine WXL.nil ?_
      exact Fin.loop_next (k + 1, a46, c46, G46) ⟨by simp only; omega, hG'⟩ (by simp only; omega) (fun s hs => hs.tl [] 0)
    · try simp only [cnd] at hc1
      refine WX.exit ?_
      refine Fin.then_exit ?_
      refine Fin.loop_exit ?_
      refine Fin.block_hit rfl ?_
      refine Fin.then_normal ?_
      refine WX.seq ?_
      have hkk : k = ys.length := by omega
      subst hkk
      have hfk := hfle ys.length
      rw [List.take_length] at hGa hfk
      rw [List.take_length]
      obtain ⟨F, hF⟩ : ∃ F, F = framesB 0 ys := ⟨_, rfl⟩
      rw [← hF] at hGa hfk
      rw [← hF]
      refine WX.region rfl ?_
      refine WXL.move Met.none rfl ?_
      refine WXL.len Met.none rfl Try.underlying23 ?_
      refine WXL.assign Met.none rfl ?_
      refine WXL.nil ?_
      refine Fin.then_normal ?_
      refine WX.seq ?_
      refine WX.region rfl ?_
      refine WXL.move Met.none rfl ?_
      refine WXL.move Met.none rfl ?_
      refine WXL.cl (O1 := _) Met.none rfl (fnOk_of Try.func10 (by decide +kernel)) rfl (fun _ h => h) (few_ok _ rest ar cr 30 (by decide) hrl (by decide) hrB.app.app kr) (fun v O' hp => ?_)
      obtain ⟨a5, c5, G5, rfl, hG5, rfl⟩ := hp
      obtain ⟨t, ht⟩ : ∃ t, t = rest.take (30 : Int).toNat := ⟨_, rfl⟩
      have htl : t.length ≤ 30 := by rw [ht, List.length_take]; show min 30 _ ≤ 30; omega
      have htB : Bytes t := ht ▸ take_bytes hBr
      rw [← ht] at hG5 ⊢
      refine WXL.apG (G5) Met.none rfl rfl isrow23 elem23 sz5 by5 zero5 src_ (fun a52 c52 G52 hG52 => ?_) (hm := (by rw [List.length_map]; omega))
      refine WXL.assign Met.none rfl ?_
      refine WXL.nil ?_
      refine Fin.then_normal ?_
      refine WX.seq ?_
      obtain ⟨T, hT⟩ : ∃ T, T = F ++ t := ⟨_, rfl⟩
      have hTl : F.length + t.length = T.length := by rw [hT, List.length_append]
      have hTB : Bytes T := by
        rw [hT, hF]
        intro x hx
        rcases List.mem_append.1 hx with q | q
        · exact framesB_bytes ys 0 (fun z hz => (hyx z hz).1) x q
        · exact htB x q
      have hGT : Grow 1 a52 T.length c52 (T.map B8) G52 := by rw [← hTl, hT, List.map_append]; exact hG52
      have hsc := scanP_frames t ys 0 (by omega) (fun x hx => by have := (hyx x hx).2; omega)
      rw [← hF, ← hT] at hsc
      have hrec : recsP T = ys ++ (scanP (0 + ys.length) t).1 := by unfold recsP; rw [hsc]
      have hend : F.length ≤ endP T (recsP T).length := by
        rw [← scan2, hsc]
        simp only
        omega
      have hrl2 : ys.length ≤ (recsP T).length := by rw [hrec, List.length_append]; omega
      have hrt : (recsP T).take ys.length = ys := by rw [hrec, List.take_left]
      have hrm : ∀ x ∈ recsP T, x.length ≤ 1000000000 := fun x hx => by have := recsP_mem hx; omega
      have hrlen := recsP_len T
      rw [hTl]
      refine WX.re (O' := G52 ++ (G32 ++ B)) ?_
      refine WX.region rfl ?_
      refine WXL.move Met.none rfl ?_
      refine WXL.cl (O1 := _) Met.none rfl (fnOk_of Try.func15 (by decide +kernel)) rfl (fun _ h => h) (scan_ok _ T a52 c52 hTB (by omega) hGT.rowy (fun q => (hGT.nil0 q).1)) (fun v O' hp => ?_)
      obtain ⟨ag, cg, gs, Gg, Rg, rfl, hGg, hgs, rfl⟩ := hp
      refine WXL.move Met.none rfl ?_
      refine WXL.extract Met.none rfl rfl ?_
      refine WXL.extract Met.none rfl rfl ?_
      refine WXL.assign Met.none rfl ?_
      refine WXL.assign Met.none rfl ?_
      refine WXL.nil ?_
      refine Fin.then_normal ?_
      refine WX.seq ?_
      refine WX.region rfl ?_
      refine WXL.move Met.none rfl ?_
      refine WXL.cl (O1 := _) Met.none rfl (fnOk_of Try.func16 (by decide +kernel)) rfl (fun _ h => h) (refScan_ok _ T a52 c52 hTB (by omega) (Rowy.app (Rowy.app hGT.rowy)) (fun q => (hGT.nil0 q).1)) (fun v O' hp => ?_)
      obtain ⟨aw, cw, us, Gw, rfl, hGw, hus, rfl⟩ := hp
      refine WXL.move Met.none rfl ?_
      refine WXL.extract Met.none rfl rfl ?_
      refine WXL.extract Met.none rfl rfl ?_
      refine WXL.assign Met.none rfl ?_
      refine WXL.assign Met.none rfl ?_
      refine WXL.nil ?_
      refine Fin.then_normal ?_
      refine WX.seq ?_
      refine WX.region rfl ?_
      refine WXL.move Met.none rfl ?_
      refine WXL.move Met.none rfl ?_
      refine WXL.bin Met.none rfl rfl rfl ?_
      refine WXL.move Met.none rfl ?_
      refine WXL.split (d := 66) rfl (fun hg66 => ?_) (fun hg66 => ?_)
      · try simp only [cnd] at hg66
        refine WXL.move (Met.some rfl rfl rfl) rfl ?_
        refine WXL.move (Met.some rfl rfl rfl) rfl ?_
        refine WXL.cl (O1 := _) (Met.some rfl rfl rfl) rfl (fnOk_of Try.func17 (by decide +kernel)) rfl (fun _ h => h) (sameLists_ok _ (recsP T) (recsP T) gs us ag aw cg cw (by omega) hrm (Src.app hGg.src) hGw.src (AreB.app (AreB.app hgs)) (AreB.app hus)) (fun v O' hp => ?_)
        obtain ⟨x1, rfl, hx1', rfl⟩ := hp
        refine WXL.pick_t Met.none rfl rfl ?_
        refine WXL.move Met.none rfl ?_
        refine WXL.split (d := 71) rfl (fun hg71 => ?_) (fun hg71 => ?_)
        · try simp only [cnd] at hg71
          refine WXL.move (Met.some rfl rfl rfl) rfl ?_
          refine WXL.move (Met.some rfl rfl rfl) rfl ?_
          refine WXL.bin (Met.some rfl rfl rfl) rfl rfl rfl ?_
          refine WXL.pick_t Met.none rfl rfl ?_
          refine WXL.move Met.none rfl ?_
          refine WXL.split (d := 76) rfl (fun hg76 => ?_) (fun hg76 => ?_)
          · try simp only [cnd] at hg76
            refine WXL.move (Met.some rfl rfl rfl) rfl ?_
            refine WXL.len (Met.some rfl rfl rfl) rfl Try.underlying27 ?_
            refine WXL.move (Met.some rfl rfl rfl) rfl ?_
            refine WXL.len (Met.some rfl rfl rfl) rfl Try.underlying27 ?_
            refine WXL.bin (Met.some rfl rfl rfl) rfl rfl rfl ?_
            refine WXL.pick_t Met.none rfl rfl ?_
            refine WXL.move Met.none rfl ?_
            refine WXL.split (d := 83) rfl (fun hg83 => ?_) (fun hg83 => ?_)
            · try simp only [cnd] at hg83
              refine WXL.move (Met.some rfl rfl rfl) rfl ?_
              refine WXL.move (Met.some rfl rfl rfl) rfl ?_
              refine WXL.len (Met.some rfl rfl rfl) rfl Try.underlying27 ?_
              refine WXL.pre (m := ys.length) (Met.some rfl rfl rfl) rfl rfl elem27 sz23 (Rowy.app hGg.rowy) (fun q => (hGg.nil0 q).1) ?_
              refine WXL.move (Met.some rfl rfl rfl) rfl ?_
              refine WXL.cl (O1 := _) (Met.some rfl rfl rfl) rfl (fnOk_of Try.func17 (by decide +kernel)) rfl (fun _ h => h) ((by
              have hpre := (Rowy.app (N := Gw) (hGg.rowy (R := Rg ++ (G52 ++ (G32 ++ B))))).pre (m := ys.length) hrl2
              rw [Nat.mul_one] at hpre
              exact sameLists_ok _ ys ys (gs.take ys.length) ws ag a32 ys.length c32 (by omega) (fun x hx => by have := (hyx x hx).2; omega) (hpre.src (fun q => hpre.nil0 q)) (Src.app (Src.app (Src.app (Src.app hG.src)))) (AreB.take (AreB.app (AreB.app hgs)) hrl2 hrt) (AreB.app (AreB.app (AreB.app (AreB.app (AreB.app hW))))))) (fun v O' hp => ?_)
              obtain ⟨x2, rfl, hx2', rfl⟩ := hp
              refine WXL.pick_t Met.none rfl rfl ?_
              refine WXL.move Met.none rfl ?_
              refine WXL.split (d := 91) rfl (fun hg91 => ?_) (fun hg91 => ?_)
              · try simp only [cnd] at hg91
                refine WXL.cl (O1 := _) (Met.some rfl rfl rfl) rfl (fnOk_of Try.func18 (by decide +kernel)) rfl (fun _ h => h) (lives_ok _) (fun v O' hp => ?_)
                obtain ⟨rfl, hO⟩ := hp
                subst O'
                refine WXL.pick_t Met.none rfl rfl ?_
                refine WXL.assign Met.none rfl ?_
                refine WXL.nil ?_
                refine Fin.then_normal ?_
                refine WX.ret ?_
                exact Fin.result (O' := []) (.inr rfl) rfl rfl (fun _ hs => ⟨by simp, fun p hp => by simp at hp, hs.wf⟩) rfl
              · try simp only [cnd] at hg91
                exact (by rw [hg91] at hx2'; simp at hx2') --end
            · try simp only [cnd] at hg83
              exact absurd hg83 (by omega) --end
          · try simp only [cnd] at hg76
            exact absurd hg76 (by omega) --end
        · try simp only [cnd] at hg71
          exact (by rw [hg71] at hx1'; simp at hx1') --end
      · try simp only [cnd] at hg66
        exact (by simp at hg66) --end

end Go.Proofs.Ythekokdpplobhaa.Eng

set_option linter.unusedVariables false
set_option linter.unusedSimpArgs false
namespace Go.Proofs.Ythekokdpplobhaa.Eng

theorem Rowy.row1 {O : Objs} {b n : Nat} {r : Bool} {cs : List Value} (hl : cs.length = n) : Rowy ((b, ⟨1, r, cs⟩) :: O) 1 (.some ⟨b, 0, none⟩) n cs :=
  .inr ⟨b, 0, ⟨1, r, cs⟩, rfl, Knows.at 0 rfl, rfl, by show 0 + n * 1 ≤ cs.length; omega, by show (cs.drop 0).take (n * 1) = cs; rw [Nat.mul_one, List.drop_zero, ← hl, List.take_length]⟩

theorem end_ok (O : Objs) (r : Nat) (l : List Int) (e : Int) (a : Option Addr) (c : Nat) :
    Spec Try.prog true 27 #[Ptr r 0] ((r, ⟨0, false, [.slice a l.length c, I e]⟩) :: O) fun v O' => v = I (if e = 0 ∧ 0 < l.length then 2 else e) ∧ O' = (r, ⟨0, false, [.slice a l.length c, I e]⟩) :: O := by
  refine Spec.enter (args := [_]) (m := 20) Try.func27 rfl rfl (by decide +kernel) fun h0 => ?_
  refine WX.seq ?_
  refine WX.region rfl ?_
  refine WXL.assign Met.none rfl ?_
  refine WXL.nil ?_
  refine Fin.then_normal ?_
  refine WX.seq ?_
  refine WX.seq ?_
  refine WX.region rfl ?_
  refine WXL.move Met.none rfl ?_
  refine WXL.nilCheck Met.none rfl ?_
  first | refine WXL.fieldAddr Met.none rfl Try.underlying75 rfl sz47 rfl ?_ | refine WXL.faS Met.none rfl Try.underlying75 rfl sz47 ?_
  first | refine WXL.ld Met.none rfl agg47 ?_ | refine WXL.ldS Met.none rfl agg47 ?_
  refine WXL.bin Met.none rfl rfl rfl ?_
  refine WXL.move Met.none rfl ?_
  refine WXL.split (d := 8) rfl (fun hg8 => ?_) (fun hg8 => ?_)
  · try simp only [cnd] at hg8
    refine WXL.move (Met.some rfl rfl rfl) rfl ?_
    refine WXL.nilCheck (Met.some rfl rfl rfl) rfl ?_
    first | refine WXL.fieldAddr (Met.some rfl rfl rfl) rfl Try.underlying75 rfl sz23 rfl ?_ | refine WXL.faS (Met.some rfl rfl rfl) rfl Try.underlying75 rfl sz23 ?_
    first | refine WXL.ld (Met.some rfl rfl rfl) rfl agg23 ?_ | refine WXL.ldS (Met.some rfl rfl rfl) rfl agg23 ?_
    refine WXL.len (Met.some rfl rfl rfl) rfl Try.underlying23 ?_
    refine WXL.bin (Met.some rfl rfl rfl) rfl rfl rfl ?_
    refine WXL.pick_t Met.none rfl rfl ?_
    refine WXL.nil ?_
    refine Fin.then_normal ?_
    refine WX.cond rfl (fun hc0 => ?_) (fun hc0 => ?_)
    · try simp only [cnd] at hc0
      refine WX.seq ?_
      refine WX.region rfl ?_
      refine WXL.assign Met.none rfl ?_
      refine WXL.nil ?_
      refine Fin.then_normal ?_
      refine WX.ret ?_
      refine Fin.then_ret ?_
      first
      | exact Fin.result (O' := (r, ⟨0, false, [.slice a l.length c, I e]⟩) :: O) (.inr rfl) rfl rfl (fun _ h => h) ⟨by rw [if_pos (by omega)]; rfl, rfl⟩
      | exact Fin.result (O' := (r, ⟨0, false, [.slice a l.length c, I e]⟩) :: O) (.inr rfl) rfl rfl (fun _ h => h) ⟨by rw [if_neg (by omega)]; rfl, rfl⟩
    · try simp only [cnd] at hc0
      refine WX.skip ?_
      refine Fin.then_normal ?_
      refine WX.seq ?_
      refine WX.region rfl ?_
      refine WXL.move Met.none rfl ?_
      refine WXL.nilCheck Met.none rfl ?_
      first | refine WXL.fieldAddr Met.none rfl Try.underlying75 rfl sz47 rfl ?_ | refine WXL.faS Met.none rfl Try.underlying75 rfl sz47 ?_
      first | refine WXL.ld Met.none rfl agg47 ?_ | refine WXL.ldS Met.none rfl agg47 ?_
      refine WXL.assign Met.none rfl ?_
      refine WXL.nil ?_
      refine Fin.then_normal ?_
      refine WX.ret ?_
      first
      | exact Fin.result (O' := (r, ⟨0, false, [.slice a l.length c, I e]⟩) :: O) (.inr rfl) rfl rfl (fun _ h => h) ⟨by rw [if_pos (by omega)]; rfl, rfl⟩
      | exact Fin.result (O' := (r, ⟨0, false, [.slice a l.length c, I e]⟩) :: O) (.inr rfl) rfl rfl (fun _ h => h) ⟨by rw [if_neg (by omega)]; rfl, rfl⟩
  · try simp only [cnd] at hg8
    refine WXL.miss (j := 5) (d := 8) rfl rfl rfl ?_
    refine WXL.miss (j := 5) (d := 8) rfl rfl rfl ?_
    refine WXL.miss (j := 5) (d := 8) rfl rfl rfl ?_
    refine WXL.miss (j := 5) (d := 8) rfl rfl rfl ?_
    refine WXL.miss (j := 5) (d := 8) rfl rfl rfl ?_
    refine WXL.miss (j := 5) (d := 8) rfl rfl rfl ?_
    refine WXL.pick_f Met.none rfl rfl ?_
    refine WXL.nil ?_
    refine Fin.then_normal ?_
    refine WX.cond rfl (fun hc0 => nomatch hc0) (fun hc0 => ?_)
    refine WX.skip ?_
    refine Fin.then_normal ?_
    refine WX.seq ?_
    refine WX.region rfl ?_
    refine WXL.move Met.none rfl ?_
    refine WXL.nilCheck Met.none rfl ?_
    first | refine WXL.fieldAddr Met.none rfl Try.underlying75 rfl sz47 rfl ?_ | refine WXL.faS Met.none rfl Try.underlying75 rfl sz47 ?_
    first | refine WXL.ld Met.none rfl agg47 ?_ | refine WXL.ldS Met.none rfl agg47 ?_
    refine WXL.assign Met.none rfl ?_
    refine WXL.nil ?_
    refine Fin.then_normal ?_
    refine WX.ret ?_
    first
    | exact Fin.result (O' := (r, ⟨0, false, [.slice a l.length c, I e]⟩) :: O) (.inr rfl) rfl rfl (fun _ h => h) ⟨by rw [if_pos (by omega)]; rfl, rfl⟩
    | exact Fin.result (O' := (r, ⟨0, false, [.slice a l.length c, I e]⟩) :: O) (.inr rfl) rfl rfl (fun _ h => h) ⟨by rw [if_neg (by omega)]; rfl, rfl⟩

/-- A byte with a bit turned. -/
def turnB (a : Int) (k : Nat) : Int := IntKind.wrap .u8 (((BitVec.ofInt (IntKind.bits .u8) a) ^^^ (BitVec.ofInt (IntKind.bits .u8) (IntKind.wrap .u8 (1 * 2 ^ (min (k : Int).toNat (IntKind.bits .u8)))))).toNat : Int)

theorem bit8 : ∀ x : BitVec 8, ∀ k : _root_.Fin 8, (x ^^^ BitVec.ofNat 8 (2 ^ k.val)) ≠ x := by decide +kernel

theorem turnB_ne {a : Int} {k : Nat} (ha : 0 ≤ a ∧ a < 256) (hk : k < 8) : a ≠ turnB a k ∧ 0 ≤ turnB a k ∧ turnB a k < 256 := by
  have e1 : BitVec.ofInt 8 (IntKind.wrap .u8 (1 * 2 ^ (min (k : Int).toNat (IntKind.bits .u8)))) = BitVec.ofNat 8 (2 ^ k) := by
    rcases k with _ | _ | _ | _ | _ | _ | _ | _ | k <;> first | rfl | omega
  have e2 : turnB a k = (((BitVec.ofInt 8 a) ^^^ BitVec.ofNat 8 (2 ^ k)).toNat : Int) := by
    show IntKind.wrap .u8 (((BitVec.ofInt 8 a) ^^^ (BitVec.ofInt 8 (IntKind.wrap .u8 (1 * 2 ^ (min (k : Int).toNat (IntKind.bits .u8)))))).toNat : Int) = _
    rw [e1]
    have := ((BitVec.ofInt 8 a) ^^^ BitVec.ofNat 8 (2 ^ k)).isLt
    exact wrap_u8 (by omega) (by omega)
  have h1 := bit8 (BitVec.ofInt 8 a) ⟨k, hk⟩
  have h2 := ((BitVec.ofInt 8 a) ^^^ BitVec.ofNat 8 (2 ^ k)).isLt
  refine ⟨fun h => h1 ?_, by rw [e2]; omega, by rw [e2]; omega⟩
  rw [e2] at h
  apply BitVec.eq_of_toNat_eq
  have h3 : (BitVec.ofInt 8 a).toNat = a.toNat := by rw [BitVec.toNat_ofInt]; omega
  rw [h3]
  show ((BitVec.ofInt 8 a) ^^^ BitVec.ofNat 8 (2 ^ k)).toNat = a.toNat
  omega

theorem journalDetects_ok (O : Objs) (b : List Int) (bit : Int) (ab : Option Addr) (cb : Nat) (hBb : Bytes b) (hbl : Short b) (hbit : In64 bit) (hb : Rowy O 1 ab b.length (b.map B8)) (kb : ab = none → cb = 0) :
    Spec Try.prog false 5 #[.slice ab b.length cb, I bit] O fun v _ => v = .bool true := by
  obtain ⟨own, hown⟩ : ∃ own, own = b.take 200 := ⟨_, rfl⟩
  have hol : own.length ≤ 200 := by rw [hown, List.length_take]; omega
  have hoB : Bytes own := hown ▸ take_bytes hBb
  have h064 : In64 0 := by unfold In64; decide
  have hfl := frameB_len h064 (x := own) (by omega)
  obtain ⟨c, hc⟩ : ∃ c, c = coreB 0 own := ⟨_, rfl⟩
  obtain ⟨f, hf⟩ : ∃ f, f = frameB 0 own := ⟨_, rfl⟩
  have hcl : c.length ≤ own.length + 20 := hc ▸ coreB_len h064 (b := own) (by omega)
  have hcB : Bytes c := hc ▸ coreB_bytes hoB
  have hfB : Bytes f := hf ▸ frameB_bytes hoB
  have hz0 : (zigU 0).toNat = 0 := rfl
  have hcz : varU 0 ++ rawB own = c := by rw [hc]; unfold coreB; rw [hz0]
  have hvl : (varU c.length).length ≤ 10 := varU_len (k := 9) (by omega)
  have hff : f = varU c.length ++ (c ++ varU (hashB lblF c).toNat) := by rw [hf, hc]; unfold frameB rawB; rw [List.append_assoc]
  have hhr := hashB_range lblF c
  have hvp := varU_pos (hashB lblF c).toNat
  have hfll : f.length = (varU c.length).length + (c.length + (varU (hashB lblF c).toNat).length) := by rw [hff, List.length_append, List.length_append]
  have hflen : f.length ≤ 250 := by rw [hf]; omega
  have hrlo := rawB_len (b := own) (by omega)
  have hrlc := rawB_len (b := c) (by omega)
  have hBl : Bytes lblF := by unfold lblF; intro x hx; simp at hx; omega
  refine Spec.enter (args := [_, _]) (m := 124) Try.func5 rfl rfl (by decide +kernel) fun h0 => ?_
  refine WX.seq ?_
  refine WX.region rfl ?_
  refine WXL.assign Met.none rfl ?_
  refine WXL.nil ?_
  refine Fin.then_normal ?_
  refine WX.seq ?_
  refine WX.region rfl ?_
  refine WXL.move Met.none rfl ?_
  refine WXL.cl (O1 := _) Met.none rfl (fnOk_of Try.func10 (by decide +kernel)) rfl (fun _ h => h) (few_ok O b ab cb 200 (by decide) hbl (by decide) hb kb) (fun v O' hp => ?_)
  obtain ⟨a1, c1, G1, rfl, hG1, rfl⟩ := hp
  rw [show b.take (200 : Int).toNat = own from hown.symm] at hG1 ⊢
  refine WXL.assign Met.none rfl ?_
  refine WXL.nil ?_
  refine Fin.then_normal ?_
  refine WX.seq ?_
  refine WX.region rfl ?_
  refine WXL.move Met.none rfl ?_
  refine WXL.cl (O1 := _) Met.none rfl (fnOk_of Try.func12 (by decide +kernel)) rfl (fun _ h => h) (frame_ok _ 0 own a1 c1 h064 hoB (by omega) hG1.src) (fun v O' hp => ?_)
  obtain ⟨a2, c2, G2, rfl, hG2, rfl⟩ := hp
  rw [← hf] at hG2 ⊢
  refine WXL.assign Met.none rfl ?_
  refine WXL.nil ?_
  refine Fin.then_normal ?_
  refine WX.seq ?_
  refine WX.region rfl ?_
  refine WXL.alloc (c := [_]) Met.none zero37 rfl (fun b7 => ?_)
  refine WXL.nil ?_
  refine Fin.then_normal ?_
  refine WX.seq ?_
  refine WX.region rfl ?_
  refine WXL.cl (O1 := (b7, ⟨0, false, [.slice none 0 0]⟩) :: ([] ++ (G2 ++ (G1 ++ O)))) Met.none rfl (fnOk_of Try.func20 (by decide +kernel)) rfl (fun _ hs => hs) (wInt_ok _ [] b7 [] none 0 0 h064 (by decide) .nil) (fun v O' hp => ?_)
  obtain ⟨a3, c3, G3, hG3, rfl⟩ := hp
  refine WXL.nil ?_
  refine Fin.then_normal ?_
  refine WX.seq ?_
  refine WX.region rfl ?_
  refine WXL.move Met.none rfl ?_
  refine WXL.cl (O1 := _) Met.none rfl (fnOk_of Try.func21 (by decide +kernel)) rfl (fun _ h => h) (wRaw_ok _ G3 b7 ([] ++ varU (zigU 0).toNat) own a3 a1 c3 c1 hoB (by omega) (by rw [hz0, varU_lt (by decide)]; decide) hG3 (Src.cons (Src.app (Src.app hG1.src)))) (fun v O' hp => ?_)
  obtain ⟨a4, c4, G4, hG4, rfl⟩ := hp
  rw [show [] ++ varU (zigU 0).toNat ++ (varU own.length ++ own) = c from hcz] at hG4 ⊢
  refine WXL.nil ?_
  refine Fin.then_normal ?_
  refine WX.seq ?_
  refine WX.region rfl ?_
  refine WXL.cl (O1 := _) Met.none rfl (fnOk_of Try.func22 (by decide +kernel)) rfl (fun _ h => h) (done_ok _ G4 b7 c a4 c4 (by omega) hG4 (Src.cons hG4.src) (Knows.at 0 rfl)) (fun v O' hp => ?_)
  obtain ⟨a5, c5, G5, rfl, hG5, rfl⟩ := hp
  refine WXL.assign Met.none rfl ?_
  refine WXL.nil ?_
  refine Fin.then_normal ?_
  refine WX.seq ?_
  refine WX.re (O' := G5 ++ (G2 ++ O)) ?_
  refine WX.region rfl ?_
  refine WXL.alloc (c := [_]) Met.none zero37 rfl (fun b9 => ?_)
  refine WXL.nil ?_
  refine Fin.then_normal ?_
  refine WX.seq ?_
  refine WX.region rfl ?_
  refine WXL.move Met.none rfl ?_
  refine WXL.len Met.none rfl Try.underlying23 ?_
  refine WXL.conv Met.none rfl Try.underlying3 Try.underlying42 (wrap_u64 (by omega) (by omega)) ?_
  refine WXL.cl (O1 := (b9, ⟨0, false, [.slice none 0 0]⟩) :: ([] ++ (G5 ++ (G2 ++ O)))) Met.none rfl (fnOk_of Try.func23 (by decide +kernel)) rfl (fun _ hs => hs) (wUint_ok _ [] b9 [] none 0 c.length (by omega) (by decide) .nil) (fun v O' hp => ?_)
  obtain ⟨a6, c6, G6, hG6, rfl⟩ := hp
  rw [List.nil_append] at hG6 ⊢
  refine WXL.nil ?_
  refine Fin.then_normal ?_
  refine WX.seq ?_
  refine WX.region rfl ?_
  refine WXL.cl (O1 := _) Met.none rfl (fnOk_of Try.func22 (by decide +kernel)) rfl (fun _ h => h) (done_ok _ G6 b9 (varU c.length) a6 c6 (by omega) hG6 (Src.cons hG6.src) (Knows.at 0 rfl)) (fun v O' hp => ?_)
  obtain ⟨a7, c7, G7, rfl, hG7, rfl⟩ := hp
  refine WXL.len Met.none rfl Try.underlying23 ?_
  refine WXL.assign Met.none rfl ?_
  refine WXL.nil ?_
  refine Fin.then_normal ?_
  refine WX.seq ?_
  refine WX.region rfl ?_
  refine WXL.move Met.none rfl ?_
  refine WXL.cl (O1 := (b9, ⟨0, false, [.slice a6 (varU c.length).length c6]⟩) :: (G6 ++ (G5 ++ (G2 ++ O)))) Met.none rfl (fnOk_of Try.func21 (by decide +kernel)) rfl sub_ (wRaw_ok _ G6 b9 (varU c.length) c a6 a5 c6 c5 hcB (by omega) (by omega) hG6 (Src.cons (Src.app hG5.src))) (fun v O' hp => ?_)
  obtain ⟨a8, c8, G8, hG8, rfl⟩ := hp
  refine WXL.nil ?_
  refine Fin.then_normal ?_
  refine WX.seq ?_
  refine WX.seq ?_
  refine WX.re (O' := G5 ++ (G2 ++ O)) ?_
  refine WX.region rfl ?_
  refine WXL.move Met.none rfl ?_
  refine WXL.len Met.none rfl Try.underlying23 ?_
  refine WXL.move Met.none rfl ?_
  refine WXL.bin Met.none rfl rfl rfl ?_
  refine WXL.nil ?_
  refine Fin.then_normal ?_
  refine WX.cond rfl (fun hc0 => ?_) (fun hc0 => ?_)
  · try simp only [cnd] at hc0
    exact absurd hc0 (by omega) --end
  · try simp only [cnd] at hc0
    refine WX.skip ?_
    refine Fin.then_normal ?_
    refine WX.seq ?_
    refine WX.region rfl ?_
    refine WXL.move Met.none rfl ?_
    refine WXL.move Met.none rfl ?_
    refine WXL.len Met.none rfl Try.underlying23 ?_
    refine WXL.move Met.none rfl ?_
    refine WXL.bin Met.none rfl rfl bvS ?_
    refine WXL.bin Met.none rfl rfl bvM ?_
    refine WXL.cl (O1 := _) Met.none rfl (fnOk_of Try.func19 (by decide +kernel)) rfl (fun _ h => h) (around_ok _ bit _ hbit (by omega)) (fun v O' hp => ?_)
    obtain ⟨rfl, hO⟩ := hp
    subst O'
    obtain ⟨vl, hvle⟩ : ∃ vl, vl = (varU c.length).length := ⟨_, rfl⟩
    rw [← hvle] at hfll hc0 ⊢
    have hcr := around_range (n := bit) (m := 8 * ((f.length : Int) - (vl : Int))) (by omega)
    obtain ⟨q, hq⟩ : ∃ q : Nat, around bit (8 * ((f.length : Int) - (vl : Int))) = q := ⟨(around bit (8 * ((f.length : Int) - (vl : Int)))).toNat, by omega⟩
    rw [hq] at hcr ⊢
    have hjl : vl + q / 8 < f.length := by omega
    have hq8 : (q : Int).tdiv 8 = ((q / 8 : Nat) : Int) := by rw [Int.tdiv_eq_ediv_of_nonneg (by omega)]; omega
    have hq8m : (q : Int).tmod 8 = ((q % 8 : Nat) : Int) := by rw [Int.tmod_eq_emod_of_nonneg (by omega)]; omega
    refine WXL.assign Met.none rfl ?_
    refine WXL.nil ?_
    refine Fin.then_normal ?_
    refine WX.seq ?_
    refine WX.region rfl ?_
    refine WXL.move Met.none rfl ?_
    refine WXL.move Met.none rfl ?_
    refine WXL.len Met.none rfl Try.underlying23 ?_
    refine WXL.cl (O1 := _) Met.none rfl (fnOk_of Try.func10 (by decide +kernel)) rfl (fun _ h => h) (few_ok _ f a2 c2 (f.length : Int) (by omega) (by unfold Short; omega) (by omega) (Rowy.app hG2.rowy) (fun p => (hG2.nil0 p).1)) (fun v O' hp => ?_)
    obtain ⟨aT, cT, GT, rfl, hGT, rfl⟩ := hp
    rw [show f.take (f.length : Int).toNat = f from by rw [Int.toNat_natCast, List.take_length]] at hGT ⊢
    rcases hGT with ⟨_, h0, _⟩ | ⟨bT, rfl, rfl, hTc⟩
    · omega
    refine WXL.assign Met.none rfl ?_
    refine WXL.nil ?_
    refine Fin.then_normal ?_
    refine WX.seq ?_
    refine WX.region rfl ?_
    refine WXL.move Met.none rfl ?_
    refine WXL.move Met.none rfl ?_
    refine WXL.move Met.none rfl ?_
    refine WXL.qu Met.none rfl rfl ?_ (hr := (show IntKind.wrap .i64 ((q : Int).tdiv 8) = ((q / 8 : Nat) : Int) from by rw [hq8]; exact wrap_i64 (by omega) (by omega)))
    refine WXL.bin Met.none rfl rfl bvA ?_
    refine WXL.move Met.none rfl ?_
    refine WXL.move Met.none rfl ?_
    refine WXL.move Met.none rfl ?_
    refine WXL.qu Met.none rfl rfl ?_ (hr := (show IntKind.wrap .i64 ((q : Int).tdiv 8) = ((q / 8 : Nat) : Int) from by rw [hq8]; exact wrap_i64 (by omega) (by omega)))
    refine WXL.bin Met.none rfl rfl bvA ?_
    first | refine WXL.ix Met.none rfl rfl elem23 sz5 ?_ | refine WXL.ixS Met.none rfl rfl elem23 sz5 ?_
    first | refine WXL.ld Met.none rfl agg5 ?_ | refine WXL.ldS Met.none rfl agg5 ?_
    refine WXL.move Met.none rfl ?_
    refine WXL.rem Met.none rfl rfl (by decide) ?_
    rw [hq8m]
    refine WXL.conv Met.none rfl Try.underlying3 Try.underlying43 (wrap_u64 (by omega) (by omega)) ?_
    refine WXL.shl Met.none rfl rfl (by omega) ?_
    refine WXL.bin Met.none rfl rfl (show _ = some (B8 (turnB (nth f ((vl : Int) + ((q / 8 : Nat) : Int)).toNat) (q % 8))) from rfl) ?_
    first | refine WXL.ix Met.none rfl rfl elem23 sz5 ?_ | refine WXL.ixS Met.none rfl rfl elem23 sz5 ?_
    rw [show ((vl : Int) + ((q / 8 : Nat) : Int)).toNat = vl + q / 8 from by omega]
    obtain ⟨hne, hx1, hx2⟩ := turnB_ne (a := nth f (vl + q / 8)) (k := q % 8) (hfB _ (nth_mem hjl)) (by omega)
    obtain ⟨x', hx'⟩ : ∃ x', x' = turnB (nth f (vl + q / 8)) (q % 8) := ⟨_, rfl⟩
    rw [← hx'] at hne hx1 hx2 ⊢
    refine WXL.st (vs := [_]) Met.none rfl rfl rfl sz5 ?_
    refine WXL.nil ?_
    refine Fin.then_normal ?_
    refine WX.seq ?_
    obtain ⟨T, hT⟩ : ∃ T, T = f.set (vl + q / 8) x' := ⟨_, rfl⟩
    have hTl : f.length = T.length := by rw [hT, List.length_set]
    have hTB : Bytes T := by
      intro x hx
      rw [hT] at hx
      rcases List.mem_or_eq_of_mem_set hx with p | p
      · exact hfB x p
      · rw [p]; exact ⟨hx1, hx2⟩
    obtain ⟨rt1, rt2⟩ := recordP_facts T
    have hrT : recsP T = [] := by
      unfold recsP
      rw [scanP, dif_neg]
      intro h
      have h2 := h.2
      refine turned_none hoB hol ⟨hx1, hx2⟩ (j := vl + q / 8) (by rw [← hc, ← hvle]; omega) (by rw [← hf]; exact hjl) (by rw [← hf]; exact hne) (recordP T) (rt2 hTB) (by omega) ?_
      rw [← hf, ← hT]
      exact h2
    have heT : endP T 0 = 0 := rfl
    have hrf : recsP f = [own] ∧ endP f 1 = f.length := by
      have h := scanP_frames [] [own] 0 (by show 0 + 1 ≤ 1000000000; decide) (by intro x hx; rw [List.mem_singleton] at hx; subst hx; omega)
      have e : framesB 0 [own] = f := by rw [framesB_cons, hf]; show _ ++ [] = _; rw [List.append_nil]; rfl
      have h0 : scanP (0 + ([own] : List (List Int)).length) [] = ([], 0) := scan_short _ (by decide)
      rw [e, h0, List.append_nil] at h
      have h1 : recsP f = [own] := by unfold recsP; rw [h]; rfl
      refine ⟨h1, ?_⟩
      unfold endP
      rw [h1]
      show (framesB 0 [own]).length = _
      rw [e]
    rw [← hT, hTl]
    refine WX.region rfl ?_
    refine WXL.move Met.none rfl ?_
    refine WXL.cl (O1 := _) Met.none rfl (fnOk_of Try.func15 (by decide +kernel)) rfl (fun _ h => h) (scan_ok _ T (some ⟨bT, 0, none⟩) cT hTB (by omega) (Rowy.row1 (by simp)) (fun q => by cases q)) (fun v O' hp => ?_)
    obtain ⟨ag, cg, gs, Gg, Rg, rfl, hGg, hgs, rfl⟩ := hp
    rw [hrT] at hGg hgs ⊢
    refine WXL.move Met.none rfl ?_
    refine WXL.extract Met.none rfl rfl ?_
    refine WXL.extract Met.none rfl rfl ?_
    refine WXL.assign Met.none rfl ?_
    refine WXL.assign Met.none rfl ?_
    refine WXL.nil ?_
    refine Fin.then_normal ?_
    refine WX.seq ?_
    rw [← hTl]
    refine WX.region rfl ?_
    refine WXL.move Met.none rfl ?_
    refine WXL.cl (O1 := _) Met.none rfl (fnOk_of Try.func15 (by decide +kernel)) rfl (fun _ h => h) (scan_ok _ f a2 c2 hfB (by omega) (Rowy.app (Rowy.app (Rowy.cons (Rowy.app hG2.rowy)))) (fun p => (hG2.nil0 p).1)) (fun v O' hp => ?_)
    obtain ⟨ah, ch, hs, Gh, Rh, rfl, hGh, hhs, rfl⟩ := hp
    rw [hrf.1] at hGh hhs ⊢
    refine WXL.move Met.none rfl ?_
    refine WXL.extract Met.none rfl rfl ?_
    refine WXL.extract Met.none rfl rfl ?_
    refine WXL.assign Met.none rfl ?_
    refine WXL.assign Met.none rfl ?_
    refine WXL.nil ?_
    refine Fin.then_normal ?_
    refine WX.seq ?_
    refine WX.re (O' := G5 ++ (G2 ++ O)) ?_
    refine WX.region rfl ?_
    refine WXL.move Met.none rfl ?_
    refine WXL.cl (O1 := _) Met.none rfl (fnOk_of Try.func24 (by decide +kernel)) rfl (fun _ h => h) (read_ok _ f a2 c2 (by omega) (fun p => List.length_eq_zero_iff.1 (hG2.nil0 p).2) (Src.app hG2.src)) (fun v O' hp => ?_)
    obtain ⟨rd, ai, ci, Gi, rfl, hGi, rfl⟩ := hp
    refine WXL.assign Met.none rfl ?_
    refine WXL.nil ?_
    refine Fin.then_normal ?_
    refine WX.seq ?_
    refine WX.seq ?_
    refine WX.region rfl ?_
    refine WXL.move Met.none rfl ?_
    refine WXL.eqNilP Met.none rfl rfl Try.underlying44 ?_
    refine WXL.nil ?_
    refine Fin.then_normal ?_
    refine WX.cond rfl (fun hc1 => ?_) (fun hc1 => ?_)
    · try simp only [cnd] at hc1
      exact (by simp at hc1) --end
    · try simp only [cnd] at hc1
      refine WX.skip ?_
      refine Fin.then_normal ?_
      refine WX.seq ?_
      obtain ⟨n, hn, hn2⟩ := hash_nat lblF c
      have hfr : f = rawB c ++ varU n := by
        rw [hff, hn, Int.toNat_natCast]
        unfold rawB
        rw [List.append_assoc]
      have hraw : rawP (f, 0) = (c, (varU n, 0)) := by rw [hfr]; exact rawP_rawB c _ (by omega)
      have huu : uintP 0 0 (varU n, 0) = ((n : Int), ([], 0)) := by
        have := uintP_varU n hn2 []
        rwa [List.append_nil] at this
      refine WX.region rfl ?_
      refine WXL.move Met.none rfl ?_
      refine WXL.cl (O1 := _) Met.none rfl (fnOk_of Try.func25 (by decide +kernel)) rfl (fun _ h => h) (raw_ok _ rd (f, 0) ai ci hfB (by show f.length ≤ _; omega) hGi.rowy (fun p => (hGi.nil0 p).1)) (fun v O' hp => ?_)
      obtain ⟨aj, cj, Gj, rfl, hGj, ak, ck, rfl, hrk, kk⟩ := hp
      rw [hraw] at hGj hrk ⊢
      refine WXL.assign Met.none rfl ?_
      refine WXL.nil ?_
      refine Fin.then_normal ?_
      refine WX.seq ?_
      refine WX.region rfl ?_
      refine WXL.move Met.none rfl ?_
      refine WXL.cl (O1 := _) Met.none rfl (fnOk_of Try.func26 (by decide +kernel)) rfl (fun _ h => h) (uint_ok _ rd (varU n, 0) ak ck (varU_bytes n) (by have := varU_len (k := 9) (n := n) (by omega); show (varU n).length ≤ _; omega) hrk.app kk) (fun v O' hp => ?_)
      obtain ⟨rfl, ⟨am, cm, rfl, hrm, km⟩⟩ := hp
      rw [huu]
      refine WXL.assign Met.none rfl ?_
      refine WXL.nil ?_
      refine Fin.then_normal ?_
      refine WX.seq ?_
      refine WX.region rfl ?_
      refine WXL.move Met.none rfl ?_
      refine WXL.len Met.none rfl Try.underlying27 ?_
      refine WXL.bin Met.none rfl rfl rfl ?_
      refine WXL.move Met.none rfl ?_
      refine WXL.split (d := 90) rfl (fun hg90 => ?_) (fun hg90 => ?_)
      · try simp only [cnd] at hg90
        refine WXL.move (Met.some rfl rfl rfl) rfl ?_
        refine WXL.bin (Met.some rfl rfl rfl) rfl rfl rfl ?_
        refine WXL.pick_t Met.none rfl rfl ?_
        refine WXL.move Met.none rfl ?_
        refine WXL.split (d := 94) rfl (fun hg94 => ?_) (fun hg94 => ?_)
        · try simp only [cnd] at hg94
          refine WXL.move (Met.some rfl rfl rfl) rfl ?_
          refine WXL.len (Met.some rfl rfl rfl) rfl Try.underlying27 ?_
          refine WXL.bin (Met.some rfl rfl rfl) rfl rfl rfl ?_
          refine WXL.pick_t Met.none rfl rfl ?_
          refine WXL.move Met.none rfl ?_
          refine WXL.split (d := 99) rfl (fun hg99 => ?_) (fun hg99 => ?_)
          · try simp only [cnd] at hg99
            refine WXL.move (Met.some rfl rfl rfl) rfl ?_
            refine WXL.move (Met.some rfl rfl rfl) rfl ?_
            refine WXL.len (Met.some rfl rfl rfl) rfl Try.underlying23 ?_
            refine WXL.bin (Met.some rfl rfl rfl) rfl rfl rfl ?_
            refine WXL.pick_t Met.none rfl rfl ?_
            refine WXL.move Met.none rfl ?_
            refine WXL.split (d := 105) rfl (fun hg105 => ?_) (fun hg105 => ?_)
            · try simp only [cnd] at hg105
              refine WXL.move (Met.some rfl rfl rfl) rfl ?_
              refine WXL.cl (O1 := _) (Met.some rfl rfl rfl) rfl (fnOk_of Try.func27 (by decide +kernel)) rfl (fun _ h => h) (end_ok _ rd [] 0 am cm) (fun v O' hp => ?_)
              obtain ⟨rfl, hO⟩ := hp
              subst O'
              refine WXL.bin (Met.some rfl rfl rfl) rfl rfl rfl ?_
              refine WXL.pick_t Met.none rfl rfl ?_
              refine WXL.move Met.none rfl ?_
              refine WXL.split (d := 110) rfl (fun hg110 => ?_) (fun hg110 => ?_)
              · try simp only [cnd] at hg110
                refine WXL.move (Met.some rfl rfl rfl) rfl ?_
                refine WXL.move (Met.some rfl rfl rfl) rfl ?_
                refine WXL.cl (O1 := _) (Met.some rfl rfl rfl) rfl (fnOk_of Try.func11 (by decide +kernel)) rfl (fun _ h => h) (sameB_ok _ c c aj a5 cj c5 (by unfold Short; omega) (Src.cons hGj.src) (Src.cons (Src.app (Src.app hG5.src)))) (fun v O' hp => ?_)
                obtain ⟨rfl, hO⟩ := hp
                subst O'
                refine WXL.pick_t Met.none rfl rfl ?_
                refine WXL.move Met.none rfl ?_
                refine WXL.split (d := 115) rfl (fun hg115 => ?_) (fun hg115 => ?_)
                · try simp only [cnd] at hg115
                  refine WXL.move (Met.some rfl rfl rfl) rfl ?_
                  refine WXL.move (Met.some rfl rfl rfl) rfl ?_
                  refine WXL.cl (O1 := _) (Met.some rfl rfl rfl) rfl (fnOk_of Try.func28 (by decide +kernel)) rfl (fun _ h => h) (hash_ok _ lblF c a5 c5 hBl hcB (by decide) (by omega) (Src.cons (Src.app (Src.app hG5.src)))) (fun v O' hp => ?_)
                  obtain ⟨rfl, hO⟩ := hp
                  subst O'
                  refine WXL.bin (Met.some rfl rfl rfl) rfl rfl rfl ?_
                  refine WXL.pick_t Met.none rfl rfl ?_
                  refine WXL.move Met.none rfl ?_
                  refine WXL.split (d := 121) rfl (fun hg121 => ?_) (fun hg121 => ?_)
                  · try simp only [cnd] at hg121
                    refine WXL.cl (O1 := _) (Met.some rfl rfl rfl) rfl (fnOk_of Try.func18 (by decide +kernel)) rfl (fun _ h => h) (lives_ok _) (fun v O' hp => ?_)
                    obtain ⟨rfl, hO⟩ := hp
                    subst O'
                    refine WXL.pick_t Met.none rfl rfl ?_
                    refine WXL.assign Met.none rfl ?_
                    refine WXL.nil ?_
                    refine Fin.then_normal ?_
                    refine WX.ret ?_
                    exact Fin.result (O' := []) (.inr rfl) rfl rfl (fun _ hs => ⟨by simp, fun p hp => by simp at hp, hs.wf⟩) rfl
                  · try simp only [cnd] at hg121
                    exact (hg121 hn.symm).elim --end
                · try simp only [cnd] at hg115
                  exact (by simp at hg115) --end
              · try simp only [cnd] at hg110
                exact (by simp at hg110) --end
            · try simp only [cnd] at hg105
              exact (hg105 (by show ((endP f 1 : Nat) : Int) = _; rw [hrf.2])).elim --end
          · try simp only [cnd] at hg99
            exact (by simp at hg99) --end
        · try simp only [cnd] at hg94
          exact (hg94 (by show ((endP T 0 : Nat) : Int) = 0; rw [heT]; rfl)).elim --end
      · try simp only [cnd] at hg90
        exact (by simp at hg90) --end

end Go.Proofs.Ythekokdpplobhaa.Eng

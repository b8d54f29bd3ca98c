/- A varint is read as its number. Own work; no condition. | The reader's numbers, walked. Own work; no condition. | Records, read in plain lists. Own work; no condition. | The reader's byte slices, walked. Own work; no condition. | Records, read by the program. Own work; no condition. | Prefixes; the iterator of records. Own work; no condition. | The iterator of records. Own work; no condition. | The iterator of records, walked. Own work; no condition. | The program's Scan. Own work; no condition. | The reference's hash. Own work; no condition. | The reference's hash and frames. Own work; no condition. | The reference's frames. Own work; no condition. | The reference's reader: numbers. Own work; no condition. | The reference's reader: byte slices. Own work; no condition. | The reference's first record. Own work; no condition. | The reference's Scan. Own work; no condition. -/
import Derived.Test.YthekokdpplobhaaJournalFullM1
import Derived.Test.YthekokdpplobhaaJournalFullM2
import Derived.Test.YthekokdpplobhaaJournalFullM3
set_option linter.unusedVariables false
set_option linter.unusedSimpArgs false
namespace Go.Proofs.Ythekokdpplobhaa.Eng

theorem and127 : ∀ x : BitVec 8, (x &&& ~~~(128#8)).toNat = x.toNat % 128 := by decide +kernel

theorem bitsU_eq {acc c i : Nat} (hc : c < 256) (hi : i ≤ 9) (hacc : acc < 2 ^ (7 * i)) (h : acc + (c % 128) * 2 ^ (7 * i) < 18446744073709551616) : bitsU acc c i = ((acc + (c % 128) * 2 ^ (7 * i) : Nat) : Int) := by
  have e0 : (BitVec.ofInt 8 128) = 128#8 := rfl
  have e1 : ((BitVec.ofInt 8 (c : Int)) &&& ~~~(BitVec.ofInt 8 128)).toNat = c % 128 := by
    rw [e0, and127, BitVec.toNat_ofInt]
    omega
  have e2 : min (7 * (i : Int)).toNat 64 = 7 * i := by omega
  have e4 : (((c % 128 : Nat) : Int) * 2 ^ (7 * i)) = (((c % 128) * 2 ^ (7 * i) : Nat) : Int) := by rw [Int.natCast_mul, Int.natCast_pow]; rfl
  have hb : (c % 128) * 2 ^ (7 * i) < 18446744073709551616 := by omega
  have ha : acc < 18446744073709551616 := by omega
  unfold bitsU
  rw [e1, e2, wrap_u8 (n := ((c % 128 : Nat) : Int)) (by omega) (by omega), e4, wrap_u64 (n := (((c % 128) * 2 ^ (7 * i) : Nat) : Int)) (by omega) (by omega)]
  have e5 : ((BitVec.ofInt 64 (acc : Int)) ||| (BitVec.ofInt 64 (((c % 128) * 2 ^ (7 * i) : Nat) : Int))).toNat = acc + (c % 128) * 2 ^ (7 * i) := by
    rw [BitVec.toNat_or, BitVec.toNat_ofInt, BitVec.toNat_ofInt, ← or_above hacc]
    congr 1 <;> omega
  rw [e5, wrap_u64 (by omega) (by omega)]

theorem uintP_var (rest : List Int) : ∀ (m i acc : Nat), i ≤ 9 → acc < 2 ^ (7 * i) → acc + m * 2 ^ (7 * i) < 18446744073709551616 → (0 < i → 0 < m) →
    uintP i acc (varU m ++ rest, 0) = (((acc + m * 2 ^ (7 * i) : Nat) : Int), (rest, 0)) := by
  intro m
  induction m using Nat.strongRecOn with
  | _ m ih =>
    intro i acc hi hacc hsum hpos
    by_cases hm : m < 128
    · have e1 : nextP (varU m ++ rest, 0) = ((m : Int), (rest, 0)) := by rw [varU_lt hm]; rfl
      have hnb : ¬ badB i (m : Int) := by
        unfold badB
        rintro (⟨h9, h1⟩ | ⟨h1, h2⟩)
        · subst h9
          have : m * 2 ^ 63 < 18446744073709551616 := by omega
          have : m < 2 := by omega
          omega
        · have := hpos h1; omega
      have e2 : roundP i (varU m ++ rest, 0) = (rest, 0) := by unfold roundP; rw [e1, if_neg hnb]
      rw [uintP, dif_pos rfl, e1, e2, if_pos ⟨by show (m : Int) < 128; omega, rfl⟩]
      have := bitsU_eq (acc := acc) (c := m) (i := i) (by omega) hi hacc (by rw [Nat.mod_eq_of_lt hm]; exact hsum)
      rw [Nat.mod_eq_of_lt hm] at this
      rw [this]
    · have hm1 : m % 128 + 128 * (m / 128) = m := by omega
      have e1 : nextP (varU m ++ rest, 0) = (((128 + m % 128 : Nat) : Int), (varU (m / 128) ++ rest, 0)) := by rw [varU_ge hm]; rfl
      have hi9 : i < 9 := by
        rcases Nat.lt_or_ge i 9 with q | q
        · exact q
        · have : i = 9 := by omega
          subst this
          have : m * 2 ^ 63 < 18446744073709551616 := by omega
          omega
      have hnb : ¬ badB i ((128 + m % 128 : Nat) : Int) := by
        unfold badB
        rintro (⟨h9, h1⟩ | ⟨h1, h2⟩) <;> omega
      have e2 : roundP i (varU m ++ rest, 0) = (varU (m / 128) ++ rest, 0) := by unfold roundP; rw [e1, if_neg hnb]
      have hp : 2 ^ (7 * (i + 1)) = 128 * 2 ^ (7 * i) := by rw [Nat.mul_add, Nat.pow_add, Nat.mul_comm]
      have hms : m * 2 ^ (7 * i) = (m % 128) * 2 ^ (7 * i) + (m / 128) * 2 ^ (7 * (i + 1)) := by
        rw [hp, ← Nat.mul_assoc, ← Nat.add_mul]
        congr 1
        omega
      have hb := bitsU_eq (acc := acc) (c := 128 + m % 128) (i := i) (by omega) (by omega) hacc (by
        have : (128 + m % 128) % 128 = m % 128 := by omega
        rw [this]; omega)
      rw [show (128 + m % 128) % 128 = m % 128 from by omega] at hb
      rw [uintP, dif_pos rfl, e1, e2, if_neg (fun q => by have := q.1; simp only at this; omega), dif_pos rfl, hb]
      have hlt : (m % 128) * 2 ^ (7 * i) ≤ 127 * 2 ^ (7 * i) := Nat.mul_le_mul_right _ (by omega)
      rw [ih (m / 128) (by omega) (i + 1) (acc + (m % 128) * 2 ^ (7 * i)) (by omega) (by rw [hp]; omega) (by omega) (fun _ => by omega)]
      congr 2
      omega

end Go.Proofs.Ythekokdpplobhaa.Eng

set_option linter.unusedVariables false
set_option linter.unusedSimpArgs false
namespace Go.Proofs.Ythekokdpplobhaa.Eng

/-- A byte is taken, whatever is left. -/
theorem next_ok (O : Objs) (r : Nat) (q : RdP) (a : Option Addr) (c : Nat) (hlen : q.1.length ≤ 1000000000000) (hr : Rowy O 1 a q.1.length (q.1.map B8)) (hc : a = none → c = 0) :
    Spec Try.prog false 48 #[Ptr r 0] ((r, ⟨0, false, [.slice a q.1.length c, I q.2]⟩) :: O) fun v O' => v = B8 (nextP q).1 ∧ RdT O r a q (nextP q).2 O' := by
  obtain ⟨l, e⟩ := q
  cases l with
  | nil => exact next_nil O r e a c hr hc
  | cons x l => exact next_cons O r x l e a c (by simp only [List.length_cons] at hlen; omega) hr hc

theorem nextP_le (q : RdP) : (nextP q).2.1.length ≤ q.1.length := by
  obtain ⟨l, e⟩ := q
  unfold nextP
  split <;> simp_all

theorem uintP_step {i : Nat} {n : Int} {q : RdP} (h : q.2 = 0) : uintP i n q = if (nextP q).1 < 128 ∧ (roundP i q).2 = 0 then (bitsU n (nextP q).1 i, roundP i q) else uintP (i + 1) (bitsU n (nextP q).1 i) (roundP i q) := by
  rw [uintP, dif_pos h]
  split
  · rfl
  · split
    · rfl
    · rename_i h2
      rw [uintP, dif_neg h2]

theorem failP_ne (q : RdP) : (failP q 2).2 ≠ 0 := by
  unfold failP
  simp only
  split <;> omega

theorem wrap8_range (n : Int) : 0 ≤ IntKind.wrap .u8 n ∧ IntKind.wrap .u8 n < 18446744073709551616 := by
  unfold IntKind.wrap
  have e1 : (2 : Int) ^ IntKind.bits .u8 = 256 := rfl
  have e3 : IntKind.signed .u8 = false := rfl
  simp only [e1, e3, Bool.false_and, Bool.false_eq_true, if_false]
  omega

theorem nextP_err {l : List Int} {e : Int} (h : e ≠ 0) : nextP (l, e) = (0, (l, e)) := by
  unfold nextP
  split <;> simp_all

theorem nextP_range {q : RdP} (h : Bytes q.1) : 0 ≤ (nextP q).1 ∧ (nextP q).1 < 256 ∧ Bytes (nextP q).2.1 := by
  obtain ⟨l, e⟩ := q
  by_cases he : e = 0
  · subst he
    cases l with
    | nil => exact ⟨by decide, by decide, fun x hx => by simp [nextP] at hx⟩
    | cons b l => exact ⟨(h b (List.mem_cons_self ..)).1, (h b (List.mem_cons_self ..)).2, fun x hx => h x (List.mem_cons_of_mem _ hx)⟩
  · rw [nextP_err he]
    exact ⟨Int.le_refl 0, by show (0 : Int) < 256; decide, h⟩

theorem uint_ok (O : Objs) (r : Nat) (q0 : RdP) (a0 : Option Addr) (c0 : Nat) (hB : Bytes q0.1) (hlen : q0.1.length ≤ 1000000000000) (hr : Rowy O 1 a0 q0.1.length (q0.1.map B8)) (hc : a0 = none → c0 = 0) :
    Spec Try.prog false 26 #[Ptr r 0] ((r, ⟨0, false, [.slice a0 q0.1.length c0, I q0.2]⟩) :: O) fun v O' => v = U (uintP 0 0 q0).1 ∧ RdO O r (uintP 0 0 q0).2 O' := by
  refine Spec.enter (args := [_]) (m := 49) Try.func26 rfl rfl (by decide +kernel) fun h0 => ?_
  refine WX.seq ?_
  refine WX.region rfl ?_
  refine WXL.assign Met.none rfl ?_
  refine WXL.nil ?_
  refine Fin.then_normal ?_
  refine WX.seq ?_
  refine WX.region rfl ?_
  refine WXL.assign Met.none rfl ?_
  refine WXL.nil ?_
  refine Fin.then_normal ?_
  refine WX.seq ?_
  refine WX.seq ?_
  refine WX.region rfl ?_
  refine WXL.assign Met.none rfl ?_
  refine WXL.nil ?_
  refine Fin.then_normal ?_
  refine WX.block ?_
  refine WX.loop (fun s : Nat × Int × RdP × Option Addr × Nat => [(0, Ptr r 0), (3, U s.2.1), (4, I (s.1 : Int))]) (fun s => (r, ⟨0, false, [.slice s.2.2.2.1 s.2.2.1.1.length s.2.2.2.2, I s.2.2.1.2]⟩) :: O) (fun s => uintP s.1 s.2.1 s.2.2.1 = uintP 0 0 q0 ∧ Bytes s.2.2.1.1 ∧ s.2.2.1.1.length ≤ q0.1.length ∧ (s.2.2.1.2 = 0 → s.1 + s.2.2.1.1.length ≤ q0.1.length) ∧ Rowy O 1 s.2.2.2.1 s.2.2.1.1.length (s.2.2.1.1.map B8) ∧ (s.2.2.2.1 = none → s.2.2.2.2 = 0)) (fun s => if s.2.2.1.2 = 0 then s.2.2.1.1.length + 1 else 0) (0, 0, q0, a0, c0) ⟨rfl, hB, Nat.le_refl _, fun _ => by simp, hr, hc⟩ (fun s hs => hs.tl [0] 1) (fun s hs => ?_)
  obtain ⟨i, n, q, a, c⟩ := s
  obtain ⟨g1, g2, g3, g4, g5, g6⟩ := hs
  simp only at g1 g2 g3 g4 g5 g6
  dsimp only
  refine WX.seq ?_
  refine WX.seq ?_
  refine WX.region rfl ?_
  refine WXL.move Met.none rfl ?_
  refine WXL.nilCheck Met.none rfl ?_
  first | refine WXL.fieldAddr Met.none rfl Try.underlying75 rfl sz47 rfl ?_ | refine WXL.faS Met.none rfl Try.underlying75 rfl sz47 ?_
  first | refine WXL.ld Met.none rfl agg47 ?_ | refine WXL.ldS Met.none rfl agg47 ?_
  refine WXL.bin Met.none rfl rfl rfl ?_
  refine WXL.nil ?_
  refine Fin.then_normal ?_
  refine WX.cond rfl (fun hc0 => ?_) (fun hc0 => ?_)
  · try simp only [cnd] at hc0
    refine WX.skip ?_
    refine Fin.then_normal ?_
    refine WX.seq ?_
    refine WX.block ?_
    refine WX.seq ?_
    refine WX.region rfl ?_
    refine WXL.move Met.none rfl ?_
    refine WXL.cl (O1 := _) Met.none rfl (fnOk_of Try.func48 (by decide +kernel)) rfl (fun _ h => h) (next_ok O r q a c (by omega) g5 g6) (fun v O' hp => ?_)
    obtain ⟨rfl, ⟨a2, c2, rfl, g7, g8⟩⟩ := hp
    have g7 := g7 O g5
    obtain ⟨hb1, hb2, hb3⟩ := nextP_range g2
    refine WXL.assign Met.none rfl ?_
    refine WXL.nil ?_
    refine Fin.then_normal ?_
    refine WX.seq ?_
    refine WX.seq ?_
    refine WX.region rfl ?_
    refine WXL.move Met.none rfl ?_
    refine WXL.bin Met.none rfl rfl rfl ?_
    refine WXL.move Met.none rfl ?_
    refine WXL.split (d := 17) rfl (fun hg17 => ?_) (fun hg17 => ?_)
    · try simp only [cnd] at hg17
      refine WXL.move (Met.some rfl rfl rfl) rfl ?_
      refine WXL.bin (Met.some rfl rfl rfl) rfl rfl rfl ?_
      refine WXL.pick_t Met.none rfl rfl ?_
      refine WXL.move Met.none rfl ?_
      refine WXL.split (d := 21) rfl (fun hg21 => ?_) (fun hg21 => ?_)
      · try simp only [cnd] at hg21
        refine WXL.miss (j := 6) (d := 21) rfl rfl rfl ?_
        refine WXL.miss (j := 6) (d := 21) rfl rfl rfl ?_
        refine WXL.miss (j := 6) (d := 21) rfl rfl rfl ?_
        refine WXL.missU (j := 9) (e := 24) rfl rfl ?_
        refine WXL.missU (j := 9) (e := 24) rfl rfl ?_
        refine WXL.miss (j := 6) (d := 21) rfl rfl rfl ?_
        refine WXL.pick_t Met.none rfl rfl ?_
        refine WXL.nil ?_
        refine Fin.then_normal ?_
        refine WX.cond rfl (fun hc1 => ?_) (fun hc1 => nomatch hc1)
        refine WX.region rfl ?_
        refine WXL.move Met.none rfl ?_
        refine WXL.cl (O1 := _) Met.none rfl (fnOk_of Try.func49 (by decide +kernel)) rfl (fun _ h => h) (fail_ok _ r _ 2 _) (fun v O' hp => ?_)
        obtain rfl := hp
        refine WXL.nil ?_
        refine Fin.then_normal ?_
        refine WX.seq ?_
        refine WX.region rfl ?_
        refine WXL.move Met.none rfl ?_
        refine WXL.move Met.none rfl ?_
        refine WXL.bin Met.none rfl rfl rfl ?_
        refine WXL.conv Met.none rfl Try.underlying5 Try.underlying42 (wrap_u64 (wrap8_range _).1 (wrap8_range _).2) ?_
        refine WXL.move Met.none rfl ?_
        refine WXL.bin Met.none rfl rfl bvM ?_
        refine WXL.shl Met.none rfl rfl (by omega) ?_
        refine WXL.bin Met.none rfl rfl rfl ?_
        refine WXL.assign Met.none rfl ?_
        refine WXL.nil ?_
        refine Fin.then_normal ?_
        refine WX.seq ?_
        refine WX.region rfl ?_
        refine WXL.move Met.none rfl ?_
        refine WXL.bin Met.none rfl rfl rfl ?_
        refine WXL.move Met.none rfl ?_
        refine WXL.split (d := 41) rfl (fun hg41 => ?_) (fun hg41 => ?_)
        · try simp only [cnd] at hg41
          refine WXL.move (Met.some rfl rfl rfl) rfl ?_
          refine WXL.nilCheck (Met.some rfl rfl rfl) rfl ?_
          first | refine WXL.fieldAddr (Met.some rfl rfl rfl) rfl Try.underlying75 rfl sz47 rfl ?_ | refine WXL.faS (Met.some rfl rfl rfl) rfl Try.underlying75 rfl sz47 ?_
          first | refine WXL.ld (Met.some rfl rfl rfl) rfl agg47 ?_ | refine WXL.ldS (Met.some rfl rfl rfl) rfl agg47 ?_
          refine WXL.bin (Met.some rfl rfl rfl) rfl rfl rfl ?_
          refine WXL.pick_t Met.none rfl rfl ?_
          refine WXL.nil ?_
          refine Fin.then_normal ?_
          refine WX.cond rfl (fun hc2 => ?_) (fun hc2 => ?_)
          · try simp only [cnd] at hc2
            refine WX.seq ?_
            refine WX.region rfl ?_
            refine WXL.move Met.none rfl ?_
            refine WXL.assign Met.none rfl ?_
            refine WXL.nil ?_
            refine Fin.then_normal ?_
            refine WX.ret ?_
            refine Fin.block_ret ?_
            refine Fin.then_ret ?_
            refine Fin.loop_ret ?_
            refine Fin.block_ret ?_
            refine Fin.then_ret ?_
            first
            | (have hz : uintP i n q = (0, q) := by rw [uintP, dif_neg hc0]
               refine Fin.result (O' := (r, ⟨0, false, [.slice a q.1.length c, I q.2]⟩) :: O) (.inr rfl) rfl rfl (fun _ hs => hs) ?_
               rw [← g1, hz]
               exact ⟨rfl, a, c, rfl, g5, g6⟩)
            | (exfalso; revert hc2; split <;> omega)
            | (have hrp : roundP i q = (nextP q).2 := if_neg (by unfold badB; omega)
               have hst := uintP_step (i := i) (n := n) hc0
               rw [if_pos (by rw [hrp]; omega), hrp] at hst
               refine Fin.result (O' := (r, ⟨0, false, [.slice a2 (nextP q).2.1.length c2, I (nextP q).2.2]⟩) :: O) (.inr rfl) rfl rfl (fun _ hs => hs) ?_
               rw [← g1, hst]
               exact ⟨rfl, a2, c2, rfl, g7, g8⟩)
          · try simp only [cnd] at hc2
            refine WX.skip ?_
            refine Fin.block_normal ?_
            refine Fin.then_normal ?_
            refine WX.region rfl ?_
            refine WXL.move Met.none rfl ?_
            refine WXL.bin Met.none rfl rfl bvA ?_
            refine WXL.assign Met.none rfl ?_
            refine WXL.nil ?_
            first
            | (have hrp : roundP i q = failP (nextP q).2 2 := if_pos (by unfold badB; omega)
               have hle := nextP_le q
               have hst := uintP_step (i := i) (n := n) hc0
               rw [if_neg (by rw [hrp]; exact fun w => failP_ne _ w.2), hrp] at hst
               refine Fin.loop_next (i + 1, bitsU n (nextP q).1 i, failP (nextP q).2 2, a2, c2) ⟨hst.symm.trans g1, hb3, by show (nextP q).2.1.length ≤ _; omega, fun w => ?_, g7, g8⟩ ?_ (fun s hs => hs.tl [0] 1)
               · exact absurd w (failP_ne _)
               · simp only; rw [if_neg (failP_ne _), if_pos hc0]; omega)
            | (have hrp : roundP i q = (nextP q).2 := if_neg (by unfold badB; omega)
               have hle := nextP_le q
               have hlt := nextP_len q hc0
               have hst := uintP_step (i := i) (n := n) hc0
               rw [if_neg (by rw [hrp]; omega), hrp] at hst
               refine Fin.loop_next (i + 1, bitsU n (nextP q).1 i, (nextP q).2, a2, c2) ⟨hst.symm.trans g1, hb3, by show (nextP q).2.1.length ≤ _; omega, fun w => ?_, g7, g8⟩ ?_ (fun s hs => hs.tl [0] 1)
               · simp only at w ⊢; have := g4 hc0; omega
               · simp only; rw [if_pos hc0]; split <;> omega)
        · try simp only [cnd] at hg41
          refine WXL.miss (j := 2) (d := 41) rfl rfl rfl ?_
          refine WXL.miss (j := 2) (d := 41) rfl rfl rfl ?_
          refine WXL.miss (j := 2) (d := 41) rfl rfl rfl ?_
          refine WXL.miss (j := 2) (d := 41) rfl rfl rfl ?_
          refine WXL.miss (j := 2) (d := 41) rfl rfl rfl ?_
          refine WXL.pick_f Met.none rfl rfl ?_
          refine WXL.nil ?_
          refine Fin.then_normal ?_
          refine WX.cond rfl (fun hc2 => nomatch hc2) (fun hc2 => ?_)
          refine WX.skip ?_
          refine Fin.block_normal ?_
          refine Fin.then_normal ?_
          refine WX.region rfl ?_
          refine WXL.move Met.none rfl ?_
          refine WXL.bin Met.none rfl rfl bvA ?_
          refine WXL.assign Met.none rfl ?_
          refine WXL.nil ?_
          first
          | (have hrp : roundP i q = failP (nextP q).2 2 := if_pos (by unfold badB; omega)
             have hle := nextP_le q
             have hst := uintP_step (i := i) (n := n) hc0
             rw [if_neg (by rw [hrp]; exact fun w => failP_ne _ w.2), hrp] at hst
             refine Fin.loop_next (i + 1, bitsU n (nextP q).1 i, failP (nextP q).2 2, a2, c2) ⟨hst.symm.trans g1, hb3, by show (nextP q).2.1.length ≤ _; omega, fun w => ?_, g7, g8⟩ ?_ (fun s hs => hs.tl [0] 1)
             · exact absurd w (failP_ne _)
             · simp only; rw [if_neg (failP_ne _), if_pos hc0]; omega)
          | (have hrp : roundP i q = (nextP q).2 := if_neg (by unfold badB; omega)
             have hle := nextP_le q
             have hlt := nextP_len q hc0
             have hst := uintP_step (i := i) (n := n) hc0
             rw [if_neg (by rw [hrp]; omega), hrp] at hst
             refine Fin.loop_next (i + 1, bitsU n (nextP q).1 i, (nextP q).2, a2, c2) ⟨hst.symm.trans g1, hb3, by show (nextP q).2.1.length ≤ _; omega, fun w => ?_, g7, g8⟩ ?_ (fun s hs => hs.tl [0] 1)
             · simp only at w ⊢; have := g4 hc0; omega
             · simp only; rw [if_pos hc0]; split <;> omega)
      · try simp only [cnd] at hg21
        refine WXL.move (Met.some rfl rfl rfl) rfl ?_
        refine WXL.bin (Met.some rfl rfl rfl) rfl rfl rfl ?_
        refine WXL.move (Met.some rfl rfl rfl) rfl ?_
        refine WXL.split (d := 24) rfl (fun hg24 => ?_) (fun hg24 => ?_)
        · try simp only [cnd] at hg24
          refine WXL.move (Met.some rfl rfl rfl) rfl ?_
          refine WXL.bin (Met.some rfl rfl rfl) rfl rfl rfl ?_
          refine WXL.pick_t (Met.some rfl rfl rfl) rfl rfl ?_
          refine WXL.pick_f Met.none rfl rfl ?_
          refine WXL.nil ?_
          refine Fin.then_normal ?_
          refine WX.cond rfl (fun hc1 => ?_) (fun hc1 => ?_)
          · try simp only [cnd] at hc1
            refine WX.region rfl ?_
            refine WXL.move Met.none rfl ?_
            refine WXL.cl (O1 := _) Met.none rfl (fnOk_of Try.func49 (by decide +kernel)) rfl (fun _ h => h) (fail_ok _ r _ 2 _) (fun v O' hp => ?_)
            obtain rfl := hp
            refine WXL.nil ?_
            refine Fin.then_normal ?_
            refine WX.seq ?_
            refine WX.region rfl ?_
            refine WXL.move Met.none rfl ?_
            refine WXL.move Met.none rfl ?_
            refine WXL.bin Met.none rfl rfl rfl ?_
            refine WXL.conv Met.none rfl Try.underlying5 Try.underlying42 (wrap_u64 (wrap8_range _).1 (wrap8_range _).2) ?_
            refine WXL.move Met.none rfl ?_
            refine WXL.bin Met.none rfl rfl bvM ?_
            refine WXL.shl Met.none rfl rfl (by omega) ?_
            refine WXL.bin Met.none rfl rfl rfl ?_
            refine WXL.assign Met.none rfl ?_
            refine WXL.nil ?_
            refine Fin.then_normal ?_
            refine WX.seq ?_
            refine WX.region rfl ?_
            refine WXL.move Met.none rfl ?_
            refine WXL.bin Met.none rfl rfl rfl ?_
            refine WXL.move Met.none rfl ?_
            refine WXL.split (d := 41) rfl (fun hg41 => ?_) (fun hg41 => ?_)
            · try simp only [cnd] at hg41
              refine WXL.move (Met.some rfl rfl rfl) rfl ?_
              refine WXL.nilCheck (Met.some rfl rfl rfl) rfl ?_
              first | refine WXL.fieldAddr (Met.some rfl rfl rfl) rfl Try.underlying75 rfl sz47 rfl ?_ | refine WXL.faS (Met.some rfl rfl rfl) rfl Try.underlying75 rfl sz47 ?_
              first | refine WXL.ld (Met.some rfl rfl rfl) rfl agg47 ?_ | refine WXL.ldS (Met.some rfl rfl rfl) rfl agg47 ?_
              refine WXL.bin (Met.some rfl rfl rfl) rfl rfl rfl ?_
              refine WXL.pick_t Met.none rfl rfl ?_
              refine WXL.nil ?_
              refine Fin.then_normal ?_
              refine WX.cond rfl (fun hc2 => ?_) (fun hc2 => ?_)
              · try simp only [cnd] at hc2
                refine WX.seq ?_
                refine WX.region rfl ?_
                refine WXL.move Met.none rfl ?_
                refine WXL.assign Met.none rfl ?_
                refine WXL.nil ?_
                refine Fin.then_normal ?_
                refine WX.ret ?_
                refine Fin.block_ret ?_
                refine Fin.then_ret ?_
                refine Fin.loop_ret ?_
                refine Fin.block_ret ?_
                refine Fin.then_ret ?_
                first
                | (have hz : uintP i n q = (0, q) := by rw [uintP, dif_neg hc0]
                   refine Fin.result (O' := (r, ⟨0, false, [.slice a q.1.length c, I q.2]⟩) :: O) (.inr rfl) rfl rfl (fun _ hs => hs) ?_
                   rw [← g1, hz]
                   exact ⟨rfl, a, c, rfl, g5, g6⟩)
                | (exfalso; revert hc2; split <;> omega)
                | (have hrp : roundP i q = (nextP q).2 := if_neg (by unfold badB; omega)
                   have hst := uintP_step (i := i) (n := n) hc0
                   rw [if_pos (by rw [hrp]; omega), hrp] at hst
                   refine Fin.result (O' := (r, ⟨0, false, [.slice a2 (nextP q).2.1.length c2, I (nextP q).2.2]⟩) :: O) (.inr rfl) rfl rfl (fun _ hs => hs) ?_
                   rw [← g1, hst]
                   exact ⟨rfl, a2, c2, rfl, g7, g8⟩)
              · try simp only [cnd] at hc2
                refine WX.skip ?_
                refine Fin.block_normal ?_
                refine Fin.then_normal ?_
                refine WX.region rfl ?_
                refine WXL.move Met.none rfl ?_
                refine WXL.bin Met.none rfl rfl bvA ?_
                refine WXL.assign Met.none rfl ?_
                refine WXL.nil ?_
                first
                | (have hrp : roundP i q = failP (nextP q).2 2 := if_pos (by unfold badB; omega)
                   have hle := nextP_le q
                   have hst := uintP_step (i := i) (n := n) hc0
                   rw [if_neg (by rw [hrp]; exact fun w => failP_ne _ w.2), hrp] at hst
                   refine Fin.loop_next (i + 1, bitsU n (nextP q).1 i, failP (nextP q).2 2, a2, c2) ⟨hst.symm.trans g1, hb3, by show (nextP q).2.1.length ≤ _; omega, fun w => ?_, g7, g8⟩ ?_ (fun s hs => hs.tl [0] 1)
                   · exact absurd w (failP_ne _)
                   · simp only; rw [if_neg (failP_ne _), if_pos hc0]; omega)
                | (have hrp : roundP i q = (nextP q).2 := if_neg (by unfold badB; omega)
                   have hle := nextP_le q
                   have hlt := nextP_len q hc0
                   have hst := uintP_step (i := i) (n := n) hc0
                   rw [if_neg (by rw [hrp]; omega), hrp] at hst
                   refine Fin.loop_next (i + 1, bitsU n (nextP q).1 i, (nextP q).2, a2, c2) ⟨hst.symm.trans g1, hb3, by show (nextP q).2.1.length ≤ _; omega, fun w => ?_, g7, g8⟩ ?_ (fun s hs => hs.tl [0] 1)
                   · simp only at w ⊢; have := g4 hc0; omega
                   · simp only; rw [if_pos hc0]; split <;> omega)
            · try simp only [cnd] at hg41
              refine WXL.miss (j := 2) (d := 41) rfl rfl rfl ?_
              refine WXL.miss (j := 2) (d := 41) rfl rfl rfl ?_
              refine WXL.miss (j := 2) (d := 41) rfl rfl rfl ?_
              refine WXL.miss (j := 2) (d := 41) rfl rfl rfl ?_
              refine WXL.miss (j := 2) (d := 41) rfl rfl rfl ?_
              refine WXL.pick_f Met.none rfl rfl ?_
              refine WXL.nil ?_
              refine Fin.then_normal ?_
              refine WX.cond rfl (fun hc2 => nomatch hc2) (fun hc2 => ?_)
              refine WX.skip ?_
              refine Fin.block_normal ?_
              refine Fin.then_normal ?_
              refine WX.region rfl ?_
              refine WXL.move Met.none rfl ?_
              refine WXL.bin Met.none rfl rfl bvA ?_
              refine WXL.assign Met.none rfl ?_
              refine WXL.nil ?_
              first
              | (have hrp : roundP i q = failP (nextP q).2 2 := if_pos (by unfold badB; omega)
                 have hle := nextP_le q
                 have hst := uintP_step (i := i) (n := n) hc0
                 rw [if_neg (by rw [hrp]; exact fun w => failP_ne _ w.2), hrp] at hst
                 refine Fin.loop_next (i + 1, bitsU n (nextP q).1 i, failP (nextP q).2 2, a2, c2) ⟨hst.symm.trans g1, hb3, by show (nextP q).2.1.length ≤ _; omega, fun w => ?_, g7, g8⟩ ?_ (fun s hs => hs.tl [0] 1)
                 · exact absurd w (failP_ne _)
                 · simp only; rw [if_neg (failP_ne _), if_pos hc0]; omega)
              | (have hrp : roundP i q = (nextP q).2 := if_neg (by unfold badB; omega)
                 have hle := nextP_le q
                 have hlt := nextP_len q hc0
                 have hst := uintP_step (i := i) (n := n) hc0
                 rw [if_neg (by rw [hrp]; omega), hrp] at hst
                 refine Fin.loop_next (i + 1, bitsU n (nextP q).1 i, (nextP q).2, a2, c2) ⟨hst.symm.trans g1, hb3, by show (nextP q).2.1.length ≤ _; omega, fun w => ?_, g7, g8⟩ ?_ (fun s hs => hs.tl [0] 1)
                 · simp only at w ⊢; have := g4 hc0; omega
                 · simp only; rw [if_pos hc0]; split <;> omega)
          · try simp only [cnd] at hc1
            refine WX.skip ?_
            refine Fin.then_normal ?_
            refine WX.seq ?_
            refine WX.region rfl ?_
            refine WXL.move Met.none rfl ?_
            refine WXL.move Met.none rfl ?_
            refine WXL.bin Met.none rfl rfl rfl ?_
            refine WXL.conv Met.none rfl Try.underlying5 Try.underlying42 (wrap_u64 (wrap8_range _).1 (wrap8_range _).2) ?_
            refine WXL.move Met.none rfl ?_
            refine WXL.bin Met.none rfl rfl bvM ?_
            refine WXL.shl Met.none rfl rfl (by omega) ?_
            refine WXL.bin Met.none rfl rfl rfl ?_
            refine WXL.assign Met.none rfl ?_
            refine WXL.nil ?_
            refine Fin.then_normal ?_
            refine WX.seq ?_
            refine WX.region rfl ?_
            refine WXL.move Met.none rfl ?_
            refine WXL.bin Met.none rfl rfl rfl ?_
            refine WXL.move Met.none rfl ?_
            refine WXL.split (d := 41) rfl (fun hg41 => ?_) (fun hg41 => ?_)
            · try simp only [cnd] at hg41
              refine WXL.move (Met.some rfl rfl rfl) rfl ?_
              refine WXL.nilCheck (Met.some rfl rfl rfl) rfl ?_
              first | refine WXL.fieldAddr (Met.some rfl rfl rfl) rfl Try.underlying75 rfl sz47 rfl ?_ | refine WXL.faS (Met.some rfl rfl rfl) rfl Try.underlying75 rfl sz47 ?_
              first | refine WXL.ld (Met.some rfl rfl rfl) rfl agg47 ?_ | refine WXL.ldS (Met.some rfl rfl rfl) rfl agg47 ?_
              refine WXL.bin (Met.some rfl rfl rfl) rfl rfl rfl ?_
              refine WXL.pick_t Met.none rfl rfl ?_
              refine WXL.nil ?_
              refine Fin.then_normal ?_
              refine WX.cond rfl (fun hc2 => ?_) (fun hc2 => ?_)
              · try simp only [cnd] at hc2
                refine WX.seq ?_
                refine WX.region rfl ?_
                refine WXL.move Met.none rfl ?_
                refine WXL.assign Met.none rfl ?_
                refine WXL.nil ?_
                refine Fin.then_normal ?_
                refine WX.ret ?_
                refine Fin.block_ret ?_
                refine Fin.then_ret ?_
                refine Fin.loop_ret ?_
                refine Fin.block_ret ?_
                refine Fin.then_ret ?_
                first
                | (have hz : uintP i n q = (0, q) := by rw [uintP, dif_neg hc0]
                   refine Fin.result (O' := (r, ⟨0, false, [.slice a q.1.length c, I q.2]⟩) :: O) (.inr rfl) rfl rfl (fun _ hs => hs) ?_
                   rw [← g1, hz]
                   exact ⟨rfl, a, c, rfl, g5, g6⟩)
                | (exfalso; revert hc2; split <;> omega)
                | (have hrp : roundP i q = (nextP q).2 := if_neg (by unfold badB; omega)
                   have hst := uintP_step (i := i) (n := n) hc0
                   rw [if_pos (by rw [hrp]; omega), hrp] at hst
                   refine Fin.result (O' := (r, ⟨0, false, [.slice a2 (nextP q).2.1.length c2, I (nextP q).2.2]⟩) :: O) (.inr rfl) rfl rfl (fun _ hs => hs) ?_
                   rw [← g1, hst]
                   exact ⟨rfl, a2, c2, rfl, g7, g8⟩)
              · try simp only [cnd] at hc2
                refine WX.skip ?_
                refine Fin.block_normal ?_
                refine Fin.then_normal ?_
                refine WX.region rfl ?_
                refine WXL.move Met.none rfl ?_
                refine WXL.bin Met.none rfl rfl bvA ?_
                refine WXL.assign Met.none rfl ?_
                refine WXL.nil ?_
                first
                | (have hrp : roundP i q = failP (nextP q).2 2 := if_pos (by unfold badB; omega)
                   have hle := nextP_le q
                   have hst := uintP_step (i := i) (n := n) hc0
                   rw [if_neg (by rw [hrp]; exact fun w => failP_ne _ w.2), hrp] at hst
                   refine Fin.loop_next (i + 1, bitsU n (nextP q).1 i, failP (nextP q).2 2, a2, c2) ⟨hst.symm.trans g1, hb3, by show (nextP q).2.1.length ≤ _; omega, fun w => ?_, g7, g8⟩ ?_ (fun s hs => hs.tl [0] 1)
                   · exact absurd w (failP_ne _)
                   · simp only; rw [if_neg (failP_ne _), if_pos hc0]; omega)
                | (have hrp : roundP i q = (nextP q).2 := if_neg (by unfold badB; omega)
                   have hle := nextP_le q
                   have hlt := nextP_len q hc0
                   have hst := uintP_step (i := i) (n := n) hc0
                   rw [if_neg (by rw [hrp]; omega), hrp] at hst
                   refine Fin.loop_next (i + 1, bitsU n (nextP q).1 i, (nextP q).2, a2, c2) ⟨hst.symm.trans g1, hb3, by show (nextP q).2.1.length ≤ _; omega, fun w => ?_, g7, g8⟩ ?_ (fun s hs => hs.tl [0] 1)
                   · simp only at w ⊢; have := g4 hc0; omega
                   · simp only; rw [if_pos hc0]; split <;> omega)
            · try simp only [cnd] at hg41
              refine WXL.miss (j := 2) (d := 41) rfl rfl rfl ?_
              refine WXL.miss (j := 2) (d := 41) rfl rfl rfl ?_
              refine WXL.miss (j := 2) (d := 41) rfl rfl rfl ?_
              refine WXL.miss (j := 2) (d := 41) rfl rfl rfl ?_
              refine WXL.miss (j := 2) (d := 41) rfl rfl rfl ?_
              refine WXL.pick_f Met.none rfl rfl ?_
              refine WXL.nil ?_
              refine Fin.then_normal ?_
              refine WX.cond rfl (fun hc2 => nomatch hc2) (fun hc2 => ?_)
              refine WX.skip ?_
              refine Fin.block_normal ?_
              refine Fin.then_normal ?_
              refine WX.region rfl ?_
              refine WXL.move Met.none rfl ?_
              refine WXL.bin Met.none rfl rfl bvA ?_
              refine WXL.assign Met.none rfl ?_
              refine WXL.nil ?_
              first
              | (have hrp : roundP i q = failP (nextP q).2 2 := if_pos (by unfold badB; omega)
                 have hle := nextP_le q
                 have hst := uintP_step (i := i) (n := n) hc0
                 rw [if_neg (by rw [hrp]; exact fun w => failP_ne _ w.2), hrp] at hst
                 refine Fin.loop_next (i + 1, bitsU n (nextP q).1 i, failP (nextP q).2 2, a2, c2) ⟨hst.symm.trans g1, hb3, by show (nextP q).2.1.length ≤ _; omega, fun w => ?_, g7, g8⟩ ?_ (fun s hs => hs.tl [0] 1)
                 · exact absurd w (failP_ne _)
                 · simp only; rw [if_neg (failP_ne _), if_pos hc0]; omega)
              | (have hrp : roundP i q = (nextP q).2 := if_neg (by unfold badB; omega)
                 have hle := nextP_le q
                 have hlt := nextP_len q hc0
                 have hst := uintP_step (i := i) (n := n) hc0
                 rw [if_neg (by rw [hrp]; omega), hrp] at hst
                 refine Fin.loop_next (i + 1, bitsU n (nextP q).1 i, (nextP q).2, a2, c2) ⟨hst.symm.trans g1, hb3, by show (nextP q).2.1.length ≤ _; omega, fun w => ?_, g7, g8⟩ ?_ (fun s hs => hs.tl [0] 1)
                 · simp only at w ⊢; have := g4 hc0; omega
                 · simp only; rw [if_pos hc0]; split <;> omega)
        · try simp only [cnd] at hg24
          refine WXL.miss (j := 9) (d := 24) rfl rfl rfl ?_
          refine WXL.miss (j := 9) (d := 24) rfl rfl rfl ?_
          refine WXL.pick_f (Met.some rfl rfl rfl) rfl rfl ?_
          refine WXL.pick_f Met.none rfl rfl ?_
          refine WXL.nil ?_
          refine Fin.then_normal ?_
          refine WX.cond rfl (fun hc1 => nomatch hc1) (fun hc1 => ?_)
          refine WX.skip ?_
          refine Fin.then_normal ?_
          refine WX.seq ?_
          refine WX.region rfl ?_
          refine WXL.move Met.none rfl ?_
          refine WXL.move Met.none rfl ?_
          refine WXL.bin Met.none rfl rfl rfl ?_
          refine WXL.conv Met.none rfl Try.underlying5 Try.underlying42 (wrap_u64 (wrap8_range _).1 (wrap8_range _).2) ?_
          refine WXL.move Met.none rfl ?_
          refine WXL.bin Met.none rfl rfl bvM ?_
          refine WXL.shl Met.none rfl rfl (by omega) ?_
          refine WXL.bin Met.none rfl rfl rfl ?_
          refine WXL.assign Met.none rfl ?_
          refine WXL.nil ?_
          refine Fin.then_normal ?_
          refine WX.seq ?_
          refine WX.region rfl ?_
          refine WXL.move Met.none rfl ?_
          refine WXL.bin Met.none rfl rfl rfl ?_
          refine WXL.move Met.none rfl ?_
          refine WXL.split (d := 41) rfl (fun hg41 => ?_) (fun hg41 => ?_)
          · try simp only [cnd] at hg41
            refine WXL.move (Met.some rfl rfl rfl) rfl ?_
            refine WXL.nilCheck (Met.some rfl rfl rfl) rfl ?_
            first | refine WXL.fieldAddr (Met.some rfl rfl rfl) rfl Try.underlying75 rfl sz47 rfl ?_ | refine WXL.faS (Met.some rfl rfl rfl) rfl Try.underlying75 rfl sz47 ?_
            first | refine WXL.ld (Met.some rfl rfl rfl) rfl agg47 ?_ | refine WXL.ldS (Met.some rfl rfl rfl) rfl agg47 ?_
            refine WXL.bin (Met.some rfl rfl rfl) rfl rfl rfl ?_
            refine WXL.pick_t Met.none rfl rfl ?_
            refine WXL.nil ?_
            refine Fin.then_normal ?_
            refine WX.cond rfl (fun hc2 => ?_) (fun hc2 => ?_)
            · try simp only [cnd] at hc2
              refine WX.seq ?_
              refine WX.region rfl ?_
              refine WXL.move Met.none rfl ?_
              refine WXL.assign Met.none rfl ?_
              refine WXL.nil ?_
              refine Fin.then_normal ?_
              refine WX.ret ?_
              refine Fin.block_ret ?_
              refine Fin.then_ret ?_
              refine Fin.loop_ret ?_
              refine Fin.block_ret ?_
              refine Fin.then_ret ?_
              first
              | (have hz : uintP i n q = (0, q) := by rw [uintP, dif_neg hc0]
                 refine Fin.result (O' := (r, ⟨0, false, [.slice a q.1.length c, I q.2]⟩) :: O) (.inr rfl) rfl rfl (fun _ hs => hs) ?_
                 rw [← g1, hz]
                 exact ⟨rfl, a, c, rfl, g5, g6⟩)
              | (exfalso; revert hc2; split <;> omega)
              | (have hrp : roundP i q = (nextP q).2 := if_neg (by unfold badB; omega)
                 have hst := uintP_step (i := i) (n := n) hc0
                 rw [if_pos (by rw [hrp]; omega), hrp] at hst
                 refine Fin.result (O' := (r, ⟨0, false, [.slice a2 (nextP q).2.1.length c2, I (nextP q).2.2]⟩) :: O) (.inr rfl) rfl rfl (fun _ hs => hs) ?_
                 rw [← g1, hst]
                 exact ⟨rfl, a2, c2, rfl, g7, g8⟩)
            · try simp only [cnd] at hc2
              refine WX.skip ?_
              refine Fin.block_normal ?_
              refine Fin.then_normal ?_
              refine WX.region rfl ?_
              refine WXL.move Met.none rfl ?_
              refine WXL.bin Met.none rfl rfl bvA ?_
              refine WXL.assign Met.none rfl ?_
              refine WXL.nil ?_
              first
              | (have hrp : roundP i q = failP (nextP q).2 2 := if_pos (by unfold badB; omega)
                 have hle := nextP_le q
                 have hst := uintP_step (i := i) (n := n) hc0
                 rw [if_neg (by rw [hrp]; exact fun w => failP_ne _ w.2), hrp] at hst
                 refine Fin.loop_next (i + 1, bitsU n (nextP q).1 i, failP (nextP q).2 2, a2, c2) ⟨hst.symm.trans g1, hb3, by show (nextP q).2.1.length ≤ _; omega, fun w => ?_, g7, g8⟩ ?_ (fun s hs => hs.tl [0] 1)
                 · exact absurd w (failP_ne _)
                 · simp only; rw [if_neg (failP_ne _), if_pos hc0]; omega)
              | (have hrp : roundP i q = (nextP q).2 := if_neg (by unfold badB; omega)
                 have hle := nextP_le q
                 have hlt := nextP_len q hc0
                 have hst := uintP_step (i := i) (n := n) hc0
                 rw [if_neg (by rw [hrp]; omega), hrp] at hst
                 refine Fin.loop_next (i + 1, bitsU n (nextP q).1 i, (nextP q).2, a2, c2) ⟨hst.symm.trans g1, hb3, by show (nextP q).2.1.length ≤ _; omega, fun w => ?_, g7, g8⟩ ?_ (fun s hs => hs.tl [0] 1)
                 · simp only at w ⊢; have := g4 hc0; omega
                 · simp only; rw [if_pos hc0]; split <;> omega)
          · try simp only [cnd] at hg41
            refine WXL.miss (j := 2) (d := 41) rfl rfl rfl ?_
            refine WXL.miss (j := 2) (d := 41) rfl rfl rfl ?_
            refine WXL.miss (j := 2) (d := 41) rfl rfl rfl ?_
            refine WXL.miss (j := 2) (d := 41) rfl rfl rfl ?_
            refine WXL.miss (j := 2) (d := 41) rfl rfl rfl ?_
            refine WXL.pick_f Met.none rfl rfl ?_
            refine WXL.nil ?_
            refine Fin.then_normal ?_
            refine WX.cond rfl (fun hc2 => nomatch hc2) (fun hc2 => ?_)
            refine WX.skip ?_
            refine Fin.block_normal ?_
            refine Fin.then_normal ?_
            refine WX.region rfl ?_
            refine WXL.move Met.none rfl ?_
            refine WXL.bin Met.none rfl rfl bvA ?_
            refine WXL.assign Met.none rfl ?_
            refine WXL.nil ?_
            first
            | (have hrp : roundP i q = failP (nextP q).2 2 := if_pos (by unfold badB; omega)
               have hle := nextP_le q
               have hst := uintP_step (i := i) (n := n) hc0
               rw [if_neg (by rw [hrp]; exact fun w => failP_ne _ w.2), hrp] at hst
               refine Fin.loop_next (i + 1, bitsU n (nextP q).1 i, failP (nextP q).2 2, a2, c2) ⟨hst.symm.trans g1, hb3, by show (nextP q).2.1.length ≤ _; omega, fun w => ?_, g7, g8⟩ ?_ (fun s hs => hs.tl [0] 1)
               · exact absurd w (failP_ne _)
               · simp only; rw [if_neg (failP_ne _), if_pos hc0]; omega)
            | (have hrp : roundP i q = (nextP q).2 := if_neg (by unfold badB; omega)
               have hle := nextP_le q
               have hlt := nextP_len q hc0
               have hst := uintP_step (i := i) (n := n) hc0
               rw [if_neg (by rw [hrp]; omega), hrp] at hst
               refine Fin.loop_next (i + 1, bitsU n (nextP q).1 i, (nextP q).2, a2, c2) ⟨hst.symm.trans g1, hb3, by show (nextP q).2.1.length ≤ _; omega, fun w => ?_, g7, g8⟩ ?_ (fun s hs => hs.tl [0] 1)
               · simp only at w ⊢; have := g4 hc0; omega
               · simp only; rw [if_pos hc0]; split <;> omega)
    · try simp only [cnd] at hg17
      refine WXL.miss (j := 2) (d := 17) rfl rfl rfl ?_
      refine WXL.miss (j := 2) (d := 17) rfl rfl rfl ?_
      refine WXL.pick_f Met.none rfl rfl ?_
      refine WXL.move Met.none rfl ?_
      refine WXL.move (Met.some rfl rfl rfl) rfl ?_
      refine WXL.bin (Met.some rfl rfl rfl) rfl rfl rfl ?_
      refine WXL.move (Met.some rfl rfl rfl) rfl ?_
      refine WXL.split (d := 24) rfl (fun hg24 => ?_) (fun hg24 => ?_)
      · try simp only [cnd] at hg24
        refine WXL.move (Met.some rfl rfl rfl) rfl ?_
        refine WXL.bin (Met.some rfl rfl rfl) rfl rfl rfl ?_
        refine WXL.pick_t (Met.some rfl rfl rfl) rfl rfl ?_
        refine WXL.pick_f Met.none rfl rfl ?_
        refine WXL.nil ?_
        refine Fin.then_normal ?_
        refine WX.cond rfl (fun hc1 => ?_) (fun hc1 => ?_)
        · try simp only [cnd] at hc1
          refine WX.region rfl ?_
          refine WXL.move Met.none rfl ?_
          refine WXL.cl (O1 := _) Met.none rfl (fnOk_of Try.func49 (by decide +kernel)) rfl (fun _ h => h) (fail_ok _ r _ 2 _) (fun v O' hp => ?_)
          obtain rfl := hp
          refine WXL.nil ?_
          refine Fin.then_normal ?_
          refine WX.seq ?_
          refine WX.region rfl ?_
          refine WXL.move Met.none rfl ?_
          refine WXL.move Met.none rfl ?_
          refine WXL.bin Met.none rfl rfl rfl ?_
          refine WXL.conv Met.none rfl Try.underlying5 Try.underlying42 (wrap_u64 (wrap8_range _).1 (wrap8_range _).2) ?_
          refine WXL.move Met.none rfl ?_
          refine WXL.bin Met.none rfl rfl bvM ?_
          refine WXL.shl Met.none rfl rfl (by omega) ?_
          refine WXL.bin Met.none rfl rfl rfl ?_
          refine WXL.assign Met.none rfl ?_
          refine WXL.nil ?_
          refine Fin.then_normal ?_
          refine WX.seq ?_
          refine WX.region rfl ?_
          refine WXL.move Met.none rfl ?_
          refine WXL.bin Met.none rfl rfl rfl ?_
          refine WXL.move Met.none rfl ?_
          refine WXL.split (d := 41) rfl (fun hg41 => ?_) (fun hg41 => ?_)
          · try simp only [cnd] at hg41
            refine WXL.move (Met.some rfl rfl rfl) rfl ?_
            refine WXL.nilCheck (Met.some rfl rfl rfl) rfl ?_
            first | refine WXL.fieldAddr (Met.some rfl rfl rfl) rfl Try.underlying75 rfl sz47 rfl ?_ | refine WXL.faS (Met.some rfl rfl rfl) rfl Try.underlying75 rfl sz47 ?_
            first | refine WXL.ld (Met.some rfl rfl rfl) rfl agg47 ?_ | refine WXL.ldS (Met.some rfl rfl rfl) rfl agg47 ?_
            refine WXL.bin (Met.some rfl rfl rfl) rfl rfl rfl ?_
            refine WXL.pick_t Met.none rfl rfl ?_
            refine WXL.nil ?_
            refine Fin.then_normal ?_
            refine WX.cond rfl (fun hc2 => ?_) (fun hc2 => ?_)
            · try simp only [cnd] at hc2
              refine WX.seq ?_
              refine WX.region rfl ?_
              refine WXL.move Met.none rfl ?_
              refine WXL.assign Met.none rfl ?_
              refine WXL.nil ?_
              refine Fin.then_normal ?_
              refine WX.ret ?_
              refine Fin.block_ret ?_
              refine Fin.then_ret ?_
              refine Fin.loop_ret ?_
              refine Fin.block_ret ?_
              refine Fin.then_ret ?_
              first
              | (have hz : uintP i n q = (0, q) := by rw [uintP, dif_neg hc0]
                 refine Fin.result (O' := (r, ⟨0, false, [.slice a q.1.length c, I q.2]⟩) :: O) (.inr rfl) rfl rfl (fun _ hs => hs) ?_
                 rw [← g1, hz]
                 exact ⟨rfl, a, c, rfl, g5, g6⟩)
              | (exfalso; revert hc2; split <;> omega)
              | (have hrp : roundP i q = (nextP q).2 := if_neg (by unfold badB; omega)
                 have hst := uintP_step (i := i) (n := n) hc0
                 rw [if_pos (by rw [hrp]; omega), hrp] at hst
                 refine Fin.result (O' := (r, ⟨0, false, [.slice a2 (nextP q).2.1.length c2, I (nextP q).2.2]⟩) :: O) (.inr rfl) rfl rfl (fun _ hs => hs) ?_
                 rw [← g1, hst]
                 exact ⟨rfl, a2, c2, rfl, g7, g8⟩)
            · try simp only [cnd] at hc2
              refine WX.skip ?_
              refine Fin.block_normal ?_
              refine Fin.then_normal ?_
              refine WX.region rfl ?_
              refine WXL.move Met.none rfl ?_
              refine WXL.bin Met.none rfl rfl bvA ?_
              refine WXL.assign Met.none rfl ?_
              refine WXL.nil ?_
              first
              | (have hrp : roundP i q = failP (nextP q).2 2 := if_pos (by unfold badB; omega)
                 have hle := nextP_le q
                 have hst := uintP_step (i := i) (n := n) hc0
                 rw [if_neg (by rw [hrp]; exact fun w => failP_ne _ w.2), hrp] at hst
                 refine Fin.loop_next (i + 1, bitsU n (nextP q).1 i, failP (nextP q).2 2, a2, c2) ⟨hst.symm.trans g1, hb3, by show (nextP q).2.1.length ≤ _; omega, fun w => ?_, g7, g8⟩ ?_ (fun s hs => hs.tl [0] 1)
                 · exact absurd w (failP_ne _)
                 · simp only; rw [if_neg (failP_ne _), if_pos hc0]; omega)
              | (have hrp : roundP i q = (nextP q).2 := if_neg (by unfold badB; omega)
                 have hle := nextP_le q
                 have hlt := nextP_len q hc0
                 have hst := uintP_step (i := i) (n := n) hc0
                 rw [if_neg (by rw [hrp]; omega), hrp] at hst
                 refine Fin.loop_next (i + 1, bitsU n (nextP q).1 i, (nextP q).2, a2, c2) ⟨hst.symm.trans g1, hb3, by show (nextP q).2.1.length ≤ _; omega, fun w => ?_, g7, g8⟩ ?_ (fun s hs => hs.tl [0] 1)
                 · simp only at w ⊢; have := g4 hc0; omega
                 · simp only; rw [if_pos hc0]; split <;> omega)
          · try simp only [cnd] at hg41
            refine WXL.miss (j := 2) (d := 41) rfl rfl rfl ?_
            refine WXL.miss (j := 2) (d := 41) rfl rfl rfl ?_
            refine WXL.miss (j := 2) (d := 41) rfl rfl rfl ?_
            refine WXL.miss (j := 2) (d := 41) rfl rfl rfl ?_
            refine WXL.miss (j := 2) (d := 41) rfl rfl rfl ?_
            refine WXL.pick_f Met.none rfl rfl ?_
            refine WXL.nil ?_
            refine Fin.then_normal ?_
            refine WX.cond rfl (fun hc2 => nomatch hc2) (fun hc2 => ?_)
            refine WX.skip ?_
            refine Fin.block_normal ?_
            refine Fin.then_normal ?_
            refine WX.region rfl ?_
            refine WXL.move Met.none rfl ?_
            refine WXL.bin Met.none rfl rfl bvA ?_
            refine WXL.assign Met.none rfl ?_
            refine WXL.nil ?_
            first
            | (have hrp : roundP i q = failP (nextP q).2 2 := if_pos (by unfold badB; omega)
               have hle := nextP_le q
               have hst := uintP_step (i := i) (n := n) hc0
               rw [if_neg (by rw [hrp]; exact fun w => failP_ne _ w.2), hrp] at hst
               refine Fin.loop_next (i + 1, bitsU n (nextP q).1 i, failP (nextP q).2 2, a2, c2) ⟨hst.symm.trans g1, hb3, by show (nextP q).2.1.length ≤ _; omega, fun w => ?_, g7, g8⟩ ?_ (fun s hs => hs.tl [0] 1)
               · exact absurd w (failP_ne _)
               · simp only; rw [if_neg (failP_ne _), if_pos hc0]; omega)
            | (have hrp : roundP i q = (nextP q).2 := if_neg (by unfold badB; omega)
               have hle := nextP_le q
               have hlt := nextP_len q hc0
               have hst := uintP_step (i := i) (n := n) hc0
               rw [if_neg (by rw [hrp]; omega), hrp] at hst
               refine Fin.loop_next (i + 1, bitsU n (nextP q).1 i, (nextP q).2, a2, c2) ⟨hst.symm.trans g1, hb3, by show (nextP q).2.1.length ≤ _; omega, fun w => ?_, g7, g8⟩ ?_ (fun s hs => hs.tl [0] 1)
               · simp only at w ⊢; have := g4 hc0; omega
               · simp only; rw [if_pos hc0]; split <;> omega)
        · try simp only [cnd] at hc1
          refine WX.skip ?_
          refine Fin.then_normal ?_
          refine WX.seq ?_
          refine WX.region rfl ?_
          refine WXL.move Met.none rfl ?_
          refine WXL.move Met.none rfl ?_
          refine WXL.bin Met.none rfl rfl rfl ?_
          refine WXL.conv Met.none rfl Try.underlying5 Try.underlying42 (wrap_u64 (wrap8_range _).1 (wrap8_range _).2) ?_
          refine WXL.move Met.none rfl ?_
          refine WXL.bin Met.none rfl rfl bvM ?_
          refine WXL.shl Met.none rfl rfl (by omega) ?_
          refine WXL.bin Met.none rfl rfl rfl ?_
          refine WXL.assign Met.none rfl ?_
          refine WXL.nil ?_
          refine Fin.then_normal ?_
          refine WX.seq ?_
          refine WX.region rfl ?_
          refine WXL.move Met.none rfl ?_
          refine WXL.bin Met.none rfl rfl rfl ?_
          refine WXL.move Met.none rfl ?_
          refine WXL.split (d := 41) rfl (fun hg41 => ?_) (fun hg41 => ?_)
          · try simp only [cnd] at hg41
            refine WXL.move (Met.some rfl rfl rfl) rfl ?_
            refine WXL.nilCheck (Met.some rfl rfl rfl) rfl ?_
            first | refine WXL.fieldAddr (Met.some rfl rfl rfl) rfl Try.underlying75 rfl sz47 rfl ?_ | refine WXL.faS (Met.some rfl rfl rfl) rfl Try.underlying75 rfl sz47 ?_
            first | refine WXL.ld (Met.some rfl rfl rfl) rfl agg47 ?_ | refine WXL.ldS (Met.some rfl rfl rfl) rfl agg47 ?_
            refine WXL.bin (Met.some rfl rfl rfl) rfl rfl rfl ?_
            refine WXL.pick_t Met.none rfl rfl ?_
            refine WXL.nil ?_
            refine Fin.then_normal ?_
            refine WX.cond rfl (fun hc2 => ?_) (fun hc2 => ?_)
            · try simp only [cnd] at hc2
              refine WX.seq ?_
              refine WX.region rfl ?_
              refine WXL.move Met.none rfl ?_
              refine WXL.assign Met.none rfl ?_
              refine WXL.nil ?_
              refine Fin.then_normal ?_
              refine WX.ret ?_
              refine Fin.block_ret ?_
              refine Fin.then_ret ?_
              refine Fin.loop_ret ?_
              refine Fin.block_ret ?_
              refine Fin.then_ret ?_
              first
              | (have hz : uintP i n q = (0, q) := by rw [uintP, dif_neg hc0]
                 refine Fin.result (O' := (r, ⟨0, false, [.slice a q.1.length c, I q.2]⟩) :: O) (.inr rfl) rfl rfl (fun _ hs => hs) ?_
                 rw [← g1, hz]
                 exact ⟨rfl, a, c, rfl, g5, g6⟩)
              | (exfalso; revert hc2; split <;> omega)
              | (have hrp : roundP i q = (nextP q).2 := if_neg (by unfold badB; omega)
                 have hst := uintP_step (i := i) (n := n) hc0
                 rw [if_pos (by rw [hrp]; omega), hrp] at hst
                 refine Fin.result (O' := (r, ⟨0, false, [.slice a2 (nextP q).2.1.length c2, I (nextP q).2.2]⟩) :: O) (.inr rfl) rfl rfl (fun _ hs => hs) ?_
                 rw [← g1, hst]
                 exact ⟨rfl, a2, c2, rfl, g7, g8⟩)
            · try simp only [cnd] at hc2
              refine WX.skip ?_
              refine Fin.block_normal ?_
              refine Fin.then_normal ?_
              refine WX.region rfl ?_
              refine WXL.move Met.none rfl ?_
              refine WXL.bin Met.none rfl rfl bvA ?_
              refine WXL.assign Met.none rfl ?_
              refine WXL.nil ?_
              first
              | (have hrp : roundP i q = failP (nextP q).2 2 := if_pos (by unfold badB; omega)
                 have hle := nextP_le q
                 have hst := uintP_step (i := i) (n := n) hc0
                 rw [if_neg (by rw [hrp]; exact fun w => failP_ne _ w.2), hrp] at hst
                 refine Fin.loop_next (i + 1, bitsU n (nextP q).1 i, failP (nextP q).2 2, a2, c2) ⟨hst.symm.trans g1, hb3, by show (nextP q).2.1.length ≤ _; omega, fun w => ?_, g7, g8⟩ ?_ (fun s hs => hs.tl [0] 1)
                 · exact absurd w (failP_ne _)
                 · simp only; rw [if_neg (failP_ne _), if_pos hc0]; omega)
              | (have hrp : roundP i q = (nextP q).2 := if_neg (by unfold badB; omega)
                 have hle := nextP_le q
                 have hlt := nextP_len q hc0
                 have hst := uintP_step (i := i) (n := n) hc0
                 rw [if_neg (by rw [hrp]; omega), hrp] at hst
                 refine Fin.loop_next (i + 1, bitsU n (nextP q).1 i, (nextP q).2, a2, c2) ⟨hst.symm.trans g1, hb3, by show (nextP q).2.1.length ≤ _; omega, fun w => ?_, g7, g8⟩ ?_ (fun s hs => hs.tl [0] 1)
                 · simp only at w ⊢; have := g4 hc0; omega
                 · simp only; rw [if_pos hc0]; split <;> omega)
          · try simp only [cnd] at hg41
            refine WXL.miss (j := 2) (d := 41) rfl rfl rfl ?_
            refine WXL.miss (j := 2) (d := 41) rfl rfl rfl ?_
            refine WXL.miss (j := 2) (d := 41) rfl rfl rfl ?_
            refine WXL.miss (j := 2) (d := 41) rfl rfl rfl ?_
            refine WXL.miss (j := 2) (d := 41) rfl rfl rfl ?_
            refine WXL.pick_f Met.none rfl rfl ?_
            refine WXL.nil ?_
            refine Fin.then_normal ?_
            refine WX.cond rfl (fun hc2 => nomatch hc2) (fun hc2 => ?_)
            refine WX.skip ?_
            refine Fin.block_normal ?_
            refine Fin.then_normal ?_
            refine WX.region rfl ?_
            refine WXL.move Met.none rfl ?_
            refine WXL.bin Met.none rfl rfl bvA ?_
            refine WXL.assign Met.none rfl ?_
            refine WXL.nil ?_
            first
            | (have hrp : roundP i q = failP (nextP q).2 2 := if_pos (by unfold badB; omega)
               have hle := nextP_le q
               have hst := uintP_step (i := i) (n := n) hc0
               rw [if_neg (by rw [hrp]; exact fun w => failP_ne _ w.2), hrp] at hst
               refine Fin.loop_next (i + 1, bitsU n (nextP q).1 i, failP (nextP q).2 2, a2, c2) ⟨hst.symm.trans g1, hb3, by show (nextP q).2.1.length ≤ _; omega, fun w => ?_, g7, g8⟩ ?_ (fun s hs => hs.tl [0] 1)
               · exact absurd w (failP_ne _)
               · simp only; rw [if_neg (failP_ne _), if_pos hc0]; omega)
            | (have hrp : roundP i q = (nextP q).2 := if_neg (by unfold badB; omega)
               have hle := nextP_le q
               have hlt := nextP_len q hc0
               have hst := uintP_step (i := i) (n := n) hc0
               rw [if_neg (by rw [hrp]; omega), hrp] at hst
               refine Fin.loop_next (i + 1, bitsU n (nextP q).1 i, (nextP q).2, a2, c2) ⟨hst.symm.trans g1, hb3, by show (nextP q).2.1.length ≤ _; omega, fun w => ?_, g7, g8⟩ ?_ (fun s hs => hs.tl [0] 1)
               · simp only at w ⊢; have := g4 hc0; omega
               · simp only; rw [if_pos hc0]; split <;> omega)
      · try simp only [cnd] at hg24
        refine WXL.miss (j := 9) (d := 24) rfl rfl rfl ?_
        refine WXL.miss (j := 9) (d := 24) rfl rfl rfl ?_
        refine WXL.pick_f (Met.some rfl rfl rfl) rfl rfl ?_
        refine WXL.pick_f Met.none rfl rfl ?_
        refine WXL.nil ?_
        refine Fin.then_normal ?_
        refine WX.cond rfl (fun hc1 => nomatch hc1) (fun hc1 => ?_)
        refine WX.skip ?_
        refine Fin.then_normal ?_
        refine WX.seq ?_
        refine WX.region rfl ?_
        refine WXL.move Met.none rfl ?_
        refine WXL.move Met.none rfl ?_
        refine WXL.bin Met.none rfl rfl rfl ?_
        refine WXL.conv Met.none rfl Try.underlying5 Try.underlying42 (wrap_u64 (wrap8_range _).1 (wrap8_range _).2) ?_
        refine WXL.move Met.none rfl ?_
        refine WXL.bin Met.none rfl rfl bvM ?_
        refine WXL.shl Met.none rfl rfl (by omega) ?_
        refine WXL.bin Met.none rfl rfl rfl ?_
        refine WXL.assign Met.none rfl ?_
        refine WXL.nil ?_
        refine Fin.then_normal ?_
        refine WX.seq ?_
        refine WX.region rfl ?_
        refine WXL.move Met.none rfl ?_
        refine WXL.bin Met.none rfl rfl rfl ?_
        refine WXL.move Met.none rfl ?_
        refine WXL.split (d := 41) rfl (fun hg41 => ?_) (fun hg41 => ?_)
        · try simp only [cnd] at hg41
          refine WXL.move (Met.some rfl rfl rfl) rfl ?_
          refine WXL.nilCheck (Met.some rfl rfl rfl) rfl ?_
          first | refine WXL.fieldAddr (Met.some rfl rfl rfl) rfl Try.underlying75 rfl sz47 rfl ?_ | refine WXL.faS (Met.some rfl rfl rfl) rfl Try.underlying75 rfl sz47 ?_
          first | refine WXL.ld (Met.some rfl rfl rfl) rfl agg47 ?_ | refine WXL.ldS (Met.some rfl rfl rfl) rfl agg47 ?_
          refine WXL.bin (Met.some rfl rfl rfl) rfl rfl rfl ?_
          refine WXL.pick_t Met.none rfl rfl ?_
          refine WXL.nil ?_
          refine Fin.then_normal ?_
          refine WX.cond rfl (fun hc2 => ?_) (fun hc2 => ?_)
          · try simp only [cnd] at hc2
            refine WX.seq ?_
            refine WX.region rfl ?_
            refine WXL.move Met.none rfl ?_
            refine WXL.assign Met.none rfl ?_
            refine WXL.nil ?_
            refine Fin.then_normal ?_
            refine WX.ret ?_
            refine Fin.block_ret ?_
            refine Fin.then_ret ?_
            refine Fin.loop_ret ?_
            refine Fin.block_ret ?_
            refine Fin.then_ret ?_
            first
            | (have hz : uintP i n q = (0, q) := by rw [uintP, dif_neg hc0]
               refine Fin.result (O' := (r, ⟨0, false, [.slice a q.1.length c, I q.2]⟩) :: O) (.inr rfl) rfl rfl (fun _ hs => hs) ?_
               rw [← g1, hz]
               exact ⟨rfl, a, c, rfl, g5, g6⟩)
            | (exfalso; revert hc2; split <;> omega)
            | (have hrp : roundP i q = (nextP q).2 := if_neg (by unfold badB; omega)
               have hst := uintP_step (i := i) (n := n) hc0
               rw [if_pos (by rw [hrp]; omega), hrp] at hst
               refine Fin.result (O' := (r, ⟨0, false, [.slice a2 (nextP q).2.1.length c2, I (nextP q).2.2]⟩) :: O) (.inr rfl) rfl rfl (fun _ hs => hs) ?_
               rw [← g1, hst]
               exact ⟨rfl, a2, c2, rfl, g7, g8⟩)
          · try simp only [cnd] at hc2
            refine WX.skip ?_
            refine Fin.block_normal ?_
            refine Fin.then_normal ?_
            refine WX.region rfl ?_
            refine WXL.move Met.none rfl ?_
            refine WXL.bin Met.none rfl rfl bvA ?_
            refine WXL.assign Met.none rfl ?_
            refine WXL.nil ?_
            first
            | (have hrp : roundP i q = failP (nextP q).2 2 := if_pos (by unfold badB; omega)
               have hle := nextP_le q
               have hst := uintP_step (i := i) (n := n) hc0
               rw [if_neg (by rw [hrp]; exact fun w => failP_ne _ w.2), hrp] at hst
               refine Fin.loop_next (i + 1, bitsU n (nextP q).1 i, failP (nextP q).2 2, a2, c2) ⟨hst.symm.trans g1, hb3, by show (nextP q).2.1.length ≤ _; omega, fun w => ?_, g7, g8⟩ ?_ (fun s hs => hs.tl [0] 1)
               · exact absurd w (failP_ne _)
               · simp only; rw [if_neg (failP_ne _), if_pos hc0]; omega)
            | (have hrp : roundP i q = (nextP q).2 := if_neg (by unfold badB; omega)
               have hle := nextP_le q
               have hlt := nextP_len q hc0
               have hst := uintP_step (i := i) (n := n) hc0
               rw [if_neg (by rw [hrp]; omega), hrp] at hst
               refine Fin.loop_next (i + 1, bitsU n (nextP q).1 i, (nextP q).2, a2, c2) ⟨hst.symm.trans g1, hb3, by show (nextP q).2.1.length ≤ _; omega, fun w => ?_, g7, g8⟩ ?_ (fun s hs => hs.tl [0] 1)
               · simp only at w ⊢; have := g4 hc0; omega
               · simp only; rw [if_pos hc0]; split <;> omega)
        · try simp only [cnd] at hg41
          refine WXL.miss (j := 2) (d := 41) rfl rfl rfl ?_
          refine WXL.miss (j := 2) (d := 41) rfl rfl rfl ?_
          refine WXL.miss (j := 2) (d := 41) rfl rfl rfl ?_
          refine WXL.miss (j := 2) (d := 41) rfl rfl rfl ?_
          refine WXL.miss (j := 2) (d := 41) rfl rfl rfl ?_
          refine WXL.pick_f Met.none rfl rfl ?_
          refine WXL.nil ?_
          refine Fin.then_normal ?_
          refine WX.cond rfl (fun hc2 => nomatch hc2) (fun hc2 => ?_)
          refine WX.skip ?_
          refine Fin.block_normal ?_
          refine Fin.then_normal ?_
          refine WX.region rfl ?_
          refine WXL.move Met.none rfl ?_
          refine WXL.bin Met.none rfl rfl bvA ?_
          refine WXL.assign Met.none rfl ?_
          refine WXL.nil ?_
          first
          | (have hrp : roundP i q = failP (nextP q).2 2 := if_pos (by unfold badB; omega)
             have hle := nextP_le q
             have hst := uintP_step (i := i) (n := n) hc0
             rw [if_neg (by rw [hrp]; exact fun w => failP_ne _ w.2), hrp] at hst
             refine Fin.loop_next (i + 1, bitsU n (nextP q).1 i, failP (nextP q).2 2, a2, c2) ⟨hst.symm.trans g1, hb3, by show (nextP q).2.1.length ≤ _; omega, fun w => ?_, g7, g8⟩ ?_ (fun s hs => hs.tl [0] 1)
             · exact absurd w (failP_ne _)
             · simp only; rw [if_neg (failP_ne _), if_pos hc0]; omega)
          | (have hrp : roundP i q = (nextP q).2 := if_neg (by unfold badB; omega)
             have hle := nextP_le q
             have hlt := nextP_len q hc0
             have hst := uintP_step (i := i) (n := n) hc0
             rw [if_neg (by rw [hrp]; omega), hrp] at hst
             refine Fin.loop_next (i + 1, bitsU n (nextP q).1 i, (nextP q).2, a2, c2) ⟨hst.symm.trans g1, hb3, by show (nextP q).2.1.length ≤ _; omega, fun w => ?_, g7, g8⟩ ?_ (fun s hs => hs.tl [0] 1)
             · simp only at w ⊢; have := g4 hc0; omega
             · simp only; rw [if_pos hc0]; split <;> omega)
  · try simp only [cnd] at hc0
    refine WX.exit ?_
    refine Fin.then_exit ?_
    refine Fin.loop_exit ?_
    refine Fin.block_hit rfl ?_
    refine Fin.then_normal ?_
    refine WX.seq ?_
    refine WX.region rfl ?_
    refine WXL.assign Met.none rfl ?_
    refine WXL.nil ?_
    refine Fin.then_normal ?_
    refine WX.ret ?_
    first
    | (have hz : uintP i n q = (0, q) := by rw [uintP, dif_neg hc0]
       refine Fin.result (O' := (r, ⟨0, false, [.slice a q.1.length c, I q.2]⟩) :: O) (.inr rfl) rfl rfl (fun _ hs => hs) ?_
       rw [← g1, hz]
       exact ⟨rfl, a, c, rfl, g5, g6⟩)
    | (exfalso; revert hc2; split <;> omega)
    | (have hrp : roundP i q = (nextP q).2 := if_neg (by unfold badB; omega)
       have hst := uintP_step (i := i) (n := n) hc0
       rw [if_pos (by rw [hrp]; omega), hrp] at hst
       refine Fin.result (O' := (r, ⟨0, false, [.slice a2 (nextP q).2.1.length c2, I (nextP q).2.2]⟩) :: O) (.inr rfl) rfl rfl (fun _ hs => hs) ?_
       rw [← g1, hst]
       exact ⟨rfl, a2, c2, rfl, g7, g8⟩)

end Go.Proofs.Ythekokdpplobhaa.Eng

set_option linter.unusedVariables false
set_option linter.unusedSimpArgs false
namespace Go.Proofs.Ythekokdpplobhaa.Eng

/-- What a reader makes of a byte slice with its length ahead. -/
def rawP (q : RdP) : List Int × RdP :=
  if (uintP 0 0 q).2.2 = 0 then
    if (uintP 0 0 q).1 ≤ ((uintP 0 0 q).2.1.length : Int) then ((uintP 0 0 q).2.1.take (uintP 0 0 q).1.toNat, ((uintP 0 0 q).2.1.drop (uintP 0 0 q).1.toNat, 0)) else ([], ((uintP 0 0 q).2.1, 3))
  else ([], (uintP 0 0 q).2)

theorem bitsU_range (n c : Int) (i : Nat) : 0 ≤ bitsU n c i ∧ bitsU n c i < 18446744073709551616 := by
  unfold bitsU
  exact wrapU_range _

theorem roundP_le (i : Nat) (q : RdP) : (roundP i q).1.length ≤ q.1.length := by
  unfold roundP failP
  split <;> exact nextP_le q

theorem roundP_bytes (i : Nat) {q : RdP} (h : Bytes q.1) : Bytes (roundP i q).1 := by
  unfold roundP failP
  split <;> exact (nextP_range h).2.2

theorem uintP_facts (i : Nat) (n : Int) (q : RdP) (hn : 0 ≤ n ∧ n < 18446744073709551616) : (0 ≤ (uintP i n q).1 ∧ (uintP i n q).1 < 18446744073709551616) ∧ (uintP i n q).2.1.length ≤ q.1.length ∧ (Bytes q.1 → Bytes (uintP i n q).2.1) ∧ ((uintP i n q).2.2 ≠ 0 → (uintP i n q).1 = 0) := by
  rw [uintP]
  split
  · rename_i h0
    split
    · rename_i h1
      exact ⟨bitsU_range _ _ _, roundP_le i q, roundP_bytes i, fun h => absurd h1.2 h⟩
    · split
      · rename_i h2
        obtain ⟨q1, q2, q3, q4⟩ := uintP_facts (i + 1) (bitsU n (nextP q).1 i) (roundP i q) (bitsU_range _ _ _)
        exact ⟨q1, Nat.le_trans q2 (roundP_le i q), fun h => q3 (roundP_bytes i h), q4⟩
      · exact ⟨⟨Int.le_refl 0, by show (0:Int) < _; decide⟩, roundP_le i q, roundP_bytes i, fun _ => rfl⟩
  · exact ⟨⟨Int.le_refl 0, by show (0:Int) < _; decide⟩, Nat.le_refl _, id, fun _ => rfl⟩
termination_by q.1.length
decreasing_by
  rename_i h0 _ h2
  rcases roundP_len i q h0 with w | w
  · exact absurd h2 w
  · exact w

theorem uintP0 (q : RdP) : (0 ≤ (uintP 0 0 q).1 ∧ (uintP 0 0 q).1 < 18446744073709551616) ∧ (uintP 0 0 q).2.1.length ≤ q.1.length ∧ (Bytes q.1 → Bytes (uintP 0 0 q).2.1) ∧ ((uintP 0 0 q).2.2 ≠ 0 → (uintP 0 0 q).1 = 0) :=
  uintP_facts 0 0 q ⟨Int.le_refl 0, by decide⟩

theorem rawP_facts (q : RdP) : (rawP q).1.length ≤ q.1.length ∧ (rawP q).2.1.length ≤ q.1.length ∧ (Bytes q.1 → Bytes (rawP q).1 ∧ Bytes (rawP q).2.1) := by
  obtain ⟨h1, h2, h3, h4⟩ := uintP0 q
  unfold rawP
  split
  · split
    · refine ⟨?_, ?_, fun h => ⟨fun x hx => h3 h x (List.mem_of_mem_take hx), fun x hx => h3 h x (List.mem_of_mem_drop hx)⟩⟩
      · rw [List.length_take]; omega
      · rw [List.length_drop]; omega
    · exact ⟨Nat.zero_le _, h2, fun h => ⟨fun x hx => by simp at hx, h3 h⟩⟩
  · exact ⟨Nat.zero_le _, h2, fun h => ⟨fun x hx => by simp at hx, h3 h⟩⟩

theorem uintP_varU (n : Nat) (h : n < 18446744073709551616) (rest : List Int) : uintP 0 0 (varU n ++ rest, 0) = ((n : Int), (rest, 0)) := by
  have := uintP_var rest n 0 0 (by decide) (by decide) (by simpa using h) (fun h => absurd h (by decide))
  simpa using this

theorem rawP_rawB (b rest : List Int) (h : b.length < 18446744073709551616) : rawP (rawB b ++ rest, 0) = (b, (rest, 0)) := by
  have e : rawB b ++ rest = varU b.length ++ (b ++ rest) := by unfold rawB; rw [List.append_assoc]
  unfold rawP
  rw [e, uintP_varU _ h]
  simp only [if_true]
  rw [if_pos (by rw [List.length_append]; omega), Int.toNat_natCast, List.take_left, List.drop_left]

/-- The record whose frame may be at the beginning of some bytes. -/
def coreP (b : List Int) : List Int :=
  let n := (uintP 0 0 (b.take (min b.length 10), 0)).1
  (rawP (b.take (min b.length (10 + min n.toNat b.length)), 0)).1
def recordP (b : List Int) : List Int := (rawP (uintP 0 0 (coreP b, 0)).2).1

theorem coreP_facts (b : List Int) : (coreP b).length ≤ b.length ∧ (Bytes b → Bytes (coreP b)) := by
  unfold coreP
  obtain ⟨h1, h2, h3⟩ := rawP_facts (b.take (min b.length (10 + min (uintP 0 0 (b.take (min b.length 10), 0)).1.toNat b.length)), 0)
  simp only [List.length_take] at h1
  exact ⟨by simp only; omega, fun h => (h3 fun x hx => h x (List.mem_of_mem_take hx)).1⟩

theorem recordP_facts (b : List Int) : (recordP b).length ≤ b.length ∧ (Bytes b → Bytes (recordP b)) := by
  obtain ⟨c1, c2⟩ := coreP_facts b
  obtain ⟨u1, u2, u3, u4⟩ := uintP0 (coreP b, 0)
  obtain ⟨h1, h2, h3⟩ := rawP_facts (uintP 0 0 (coreP b, 0)).2
  unfold recordP
  simp only at u2 u3
  exact ⟨by omega, fun h => (h3 (u3 (c2 h))).1⟩

theorem frameB_pos (i : Int) (x : List Int) : 0 < (frameB i x).length := by
  unfold frameB rawB
  simp only [List.length_append]
  have : 0 < (varU (coreB i x).length).length := by rw [varU]; split <;> simp
  omega

theorem rawB_len64 {b : List Int} (h : b.length < 18446744073709551616) : (varU b.length).length ≤ 10 := varU_len (k := 9) (by omega)

theorem recordP_frame {i : Int} {x b : List Int} (hi : In64 i) (hx : x.length ≤ 1000000000) (h : frameB i x <+: b) : recordP b = x := by
  obtain ⟨rest, rfl⟩ := h
  have hcl := coreB_len hi hx
  have hc : (coreB i x).length < 18446744073709551616 := by omega
  have hv := rawB_len64 hc
  have e0 : frameB i x ++ rest = varU (coreB i x).length ++ (coreB i x ++ (varU (hashB lblF (coreB i x)).toNat ++ rest)) := by
    unfold frameB rawB
    simp only [List.append_assoc]
  have hbl : (frameB i x ++ rest).length = (varU (coreB i x).length).length + ((coreB i x).length + ((varU (hashB lblF (coreB i x)).toNat).length + rest.length)) := by rw [e0]; simp only [List.length_append]
  have e1 : coreP (frameB i x ++ rest) = coreB i x := by
    unfold coreP
    have e2 : (frameB i x ++ rest).take (min (frameB i x ++ rest).length 10) = varU (coreB i x).length ++ (coreB i x ++ (varU (hashB lblF (coreB i x)).toNat ++ rest)).take (min (frameB i x ++ rest).length 10 - (varU (coreB i x).length).length) := by
      rw [e0, List.take_append, List.take_of_length_le (by rw [← e0, hbl]; omega)]
    simp only
    rw [e2, uintP_varU _ hc, Int.toNat_natCast]
    generalize hk : min (frameB i x ++ rest).length (10 + min (coreB i x).length (frameB i x ++ rest).length) = k
    have hk2 : (varU (coreB i x).length).length + (coreB i x).length ≤ k := by rw [← hk, hbl]; omega
    have e3 : (frameB i x ++ rest).take k = rawB (coreB i x) ++ (varU (hashB lblF (coreB i x)).toNat ++ rest).take (k - (rawB (coreB i x)).length) := by
      have e4 : frameB i x ++ rest = rawB (coreB i x) ++ (varU (hashB lblF (coreB i x)).toNat ++ rest) := by unfold frameB; rw [List.append_assoc]
      rw [e4, List.take_append, List.take_of_length_le (by unfold rawB; rw [List.length_append]; exact hk2)]
    rw [e3, rawP_rawB _ _ hc]
  unfold recordP
  rw [e1]
  have hz := zigU_range hi
  unfold InU at hz
  have e5 : uintP 0 0 (coreB i x, 0) = (((zigU i).toNat : Int), (rawB x, 0)) := by
    unfold coreB
    exact uintP_varU _ (by omega) _
  rw [e5]
  have := rawP_rawB x [] (by omega)
  rw [List.append_nil] at this
  rw [this]

/-- The records at the beginning of some bytes, and their length. -/
def scanP (i : Nat) (b : List Int) : List (List Int) × Nat :=
  if h : b ≠ [] ∧ frameB i (recordP b) <+: b then
    (recordP b :: (scanP (i + 1) (b.drop (frameB i (recordP b)).length)).1, (frameB i (recordP b)).length + (scanP (i + 1) (b.drop (frameB i (recordP b)).length)).2)
  else ([], 0)
termination_by b.length
decreasing_by
  all_goals
    have := frameB_pos i (recordP b)
    have : 0 < b.length := List.length_pos_iff.2 h.1
    rw [List.length_drop]
    omega

/-- Frames of records from a number on. -/
def framesB (i : Nat) : List (List Int) → List Int
  | [] => []
  | x :: l => frameB i x ++ framesB (i + 1) l
theorem framesB_cons (i : Nat) (x : List Int) (l : List (List Int)) : framesB i (x :: l) = frameB i x ++ framesB (i + 1) l := rfl

theorem scanP_frames (rest : List Int) : ∀ (l : List (List Int)) (i : Nat), i + l.length ≤ 1000000000 → (∀ x ∈ l, x.length ≤ 1000000000) →
    scanP i (framesB i l ++ rest) = (l ++ (scanP (i + l.length) rest).1, (framesB i l).length + (scanP (i + l.length) rest).2) := by
  intro l
  induction l with
  | nil => intro i _ _; simp [framesB]
  | cons x l ih =>
    intro i hi hl
    have e : framesB i (x :: l) ++ rest = frameB i x ++ (framesB (i + 1) l ++ rest) := by rw [framesB_cons, List.append_assoc]
    have hp : frameB i x <+: frameB i x ++ (framesB (i + 1) l ++ rest) := List.prefix_append _ _
    have hr := recordP_frame (by unfold In64; simp only [List.length_cons] at hi; omega) (hl x (List.mem_cons_self ..)) hp
    have hpos := frameB_pos i x
    rw [e, scanP, dif_pos ⟨fun q => by rw [q] at hp; have := hp.length_le; simp at this; rw [this] at hpos; simp at hpos, by rw [hr]; exact hp⟩, hr, List.drop_left, ih (i + 1) (by simp only [List.length_cons] at hi; omega) fun y hy => hl y (List.mem_cons_of_mem _ hy)]
    have e2 : i + 1 + l.length = i + (x :: l).length := by rw [List.length_cons]; omega
    rw [e2]
    refine Prod.ext (by simp) ?_
    show _ + (_ + _) = (framesB i (x :: l)).length + _
    rw [framesB_cons, List.length_append]
    omega

end Go.Proofs.Ythekokdpplobhaa.Eng

set_option linter.unusedVariables false
set_option linter.unusedSimpArgs false
namespace Go.Proofs.Ythekokdpplobhaa.Eng

/-- A reader behind some reading, with new rows. -/
def RdG (O : Objs) (r : Nat) (q : RdP) (G N : Objs) : Prop := ∃ a c, N = (r, ⟨0, false, [.slice a q.1.length c, I q.2]⟩) :: (G ++ O) ∧ Rowy O 1 a q.1.length (q.1.map B8) ∧ (a = none → c = 0)

theorem drop_cons_nth {l : List Int} {k : Nat} (h : k < l.length) : l.drop k = nth l k :: l.drop (k + 1) := by
  rw [nth_get h, List.drop_eq_getElem_cons h]

theorem list_ok (O : Objs) (r : Nat) (q0 : RdP) (a0 : Option Addr) (c0 : Nat) (hB : Bytes q0.1) (hlen : q0.1.length ≤ 1000000000000) (hr : Rowy O 1 a0 q0.1.length (q0.1.map B8)) (hc : a0 = none → c0 = 0) :
    Spec Try.prog false 47 #[Ptr r 0, .func (.func 48) #[Ptr r 0] #[]] ((r, ⟨0, false, [.slice a0 q0.1.length c0, I q0.2]⟩) :: O) fun v O' => ∃ ao co G, v = .slice ao (rawP q0).1.length co ∧ Grow 1 ao (rawP q0).1.length co ((rawP q0).1.map B8) G ∧ RdG O r (rawP q0).2 G O' := by
  obtain ⟨hu1, hu2, hu3, hu4⟩ := uintP0 q0
  obtain ⟨n, l, e, hu⟩ : ∃ n l e, uintP 0 0 q0 = (n, (l, e)) := ⟨_, _, _, rfl⟩
  rw [hu] at hu1 hu2 hu3 hu4
  simp only at hu1 hu2 hu3 hu4
  refine Spec.enter (args := [_, _]) (m := 43) Try.func47 rfl rfl (by decide +kernel) fun h0 => ?_
  refine WX.seq ?_
  refine WX.region rfl ?_
  refine WXL.assign Met.none rfl ?_
  refine WXL.nil ?_
  refine Fin.then_normal ?_
  refine WX.seq ?_
  refine WX.region rfl ?_
  refine WXL.move Met.none rfl ?_
  refine WXL.cl (O1 := _) Met.none rfl (fnOk_of Try.func26 (by decide +kernel)) rfl (fun _ h => h) (uint_ok O r q0 a0 c0 hB hlen hr hc) (fun v O' hp => ?_)
  obtain ⟨rfl, ⟨a1, c1, rfl, hr1, hc1⟩⟩ := hp
  rw [hu] at hr1 ⊢
  simp only at hr1 ⊢
  refine WXL.assign Met.none rfl ?_
  refine WXL.nil ?_
  refine Fin.then_normal ?_
  refine WX.seq ?_
  refine WX.seq ?_
  refine WX.region rfl ?_
  refine WXL.move Met.none rfl ?_
  refine WXL.move Met.none rfl ?_
  refine WXL.nilCheck Met.none rfl ?_
  first | refine WXL.fieldAddr Met.none rfl Try.underlying75 rfl sz23 rfl ?_ | refine WXL.faS Met.none rfl Try.underlying75 rfl sz23 ?_
  first | refine WXL.ld Met.none rfl agg23 ?_ | refine WXL.ldS Met.none rfl agg23 ?_
  refine WXL.len Met.none rfl Try.underlying23 ?_
  refine WXL.conv Met.none rfl Try.underlying3 Try.underlying42 (wrap_u64 (by omega) (by omega)) ?_
  refine WXL.bin Met.none rfl rfl rfl ?_
  refine WXL.nil ?_
  refine Fin.then_normal ?_
  refine WX.cond rfl (fun hc0 => ?_) (fun hc0 => ?_)
  · try simp only [cnd] at hc0
    refine WX.region rfl ?_
    refine WXL.move Met.none rfl ?_
    refine WXL.cl (O1 := _) Met.none rfl (fnOk_of Try.func49 (by decide +kernel)) rfl (fun _ h => h) (fail_ok _ r _ 3 e) (fun v O' hp => ?_)
    obtain rfl := hp
    refine WXL.nil ?_
    refine Fin.then_normal ?_
    refine WX.seq ?_
    refine WX.region rfl ?_
    obtain ⟨e1, he1, hraw, hn1⟩ : ∃ e1, e1 = (if n ≤ (l.length : Int) then e else if e = 0 then 3 else e) ∧ rawP q0 = (if e1 = 0 then (l.take n.toNat, (l.drop n.toNat, 0)) else ([], (l, e1))) ∧ (e1 = 0 → n ≤ l.length) := by
      refine ⟨_, rfl, ?_, ?_⟩
      · unfold rawP
        rw [hu]
        simp only
        by_cases q1 : e = 0
        · subst q1
          by_cases q2 : n ≤ (l.length : Int)
          · rw [if_pos rfl, if_pos q2, if_pos q2, if_pos rfl]
          · rw [if_pos rfl, if_neg q2, if_neg q2, if_pos rfl, if_neg (by decide)]
        · rw [if_neg q1]
          have q3 := hu4 q1
          have q4 : (if n ≤ (l.length : Int) then e else if e = 0 then 3 else e) = e := if_pos (by omega)
          rw [q4, if_neg q1]
      · intro q1
        by_cases q2 : n ≤ (l.length : Int)
        · exact q2
        · rw [if_neg q2] at q1
          split at q1
          · cases q1
          · exact absurd q1 (by assumption)
    first
    | rw [show (if e = 0 then 3 else e) = e1 from by rw [he1, if_neg (show ¬ n ≤ (l.length : Int) by omega)]]
    | rw [show e = e1 from by rw [he1, if_pos (show n ≤ (l.length : Int) by omega)]]
    rw [hraw]
    clear hraw
    refine WXL.assign Met.none rfl ?_
    refine WXL.nil ?_
    refine Fin.then_normal ?_
    refine WX.seq ?_
    refine WX.seq ?_
    refine WX.region rfl ?_
    refine WXL.assign Met.none rfl ?_
    refine WXL.nil ?_
    refine Fin.then_normal ?_
    refine WX.block ?_
    refine WX.loop (fun s : Nat × Option Addr × Nat × Objs × Option Addr × Nat => [(0, Ptr r 0), (1, .func (.func 48) #[Ptr r 0] #[]), (5, U n), (6, .slice s.2.1 s.1 s.2.2.1), (7, U (s.1 : Int))]) (fun s => (r, ⟨0, false, [.slice s.2.2.2.2.1 (l.drop s.1).length s.2.2.2.2.2, I e1]⟩) :: (s.2.2.2.1 ++ O)) (fun s => (s.1 : Int) ≤ n ∧ s.1 ≤ l.length ∧ (s.1 = 0 ∨ e1 = 0) ∧ Grow 1 s.2.1 s.1 s.2.2.1 ((l.take s.1).map B8) s.2.2.2.1 ∧ Rowy O 1 s.2.2.2.2.1 (l.drop s.1).length ((l.drop s.1).map B8) ∧ (s.2.2.2.2.1 = none → s.2.2.2.2.2 = 0)) (fun s => l.length - s.1) (0, none, 0, [], a1, c1) ⟨hu1.1, Nat.zero_le _, .inl rfl, .nil, hr1, hc1⟩ (fun s hs => hs.tl [0] 1) (fun s hs => ?_)
    obtain ⟨k, ao, co, G, a2, c2⟩ := s
    obtain ⟨g1, g2, g3, g4, g5, g6⟩ := hs
    simp only at g1 g2 g3 g4 g5 g6
    dsimp only
    refine WX.seq ?_
    refine WX.seq ?_
    refine WX.region rfl ?_
    refine WXL.move Met.none rfl ?_
    refine WXL.move Met.none rfl ?_
    refine WXL.bin Met.none rfl rfl rfl ?_
    refine WXL.move Met.none rfl ?_
    refine WXL.split (d := 23) rfl (fun hg23 => ?_) (fun hg23 => ?_)
    · try simp only [cnd] at hg23
      refine WXL.move (Met.some rfl rfl rfl) rfl ?_
      refine WXL.nilCheck (Met.some rfl rfl rfl) rfl ?_
      first | refine WXL.fieldAddr (Met.some rfl rfl rfl) rfl Try.underlying75 rfl sz47 rfl ?_ | refine WXL.faS (Met.some rfl rfl rfl) rfl Try.underlying75 rfl sz47 ?_
      first | refine WXL.ld (Met.some rfl rfl rfl) rfl agg47 ?_ | refine WXL.ldS (Met.some rfl rfl rfl) rfl agg47 ?_
      refine WXL.bin (Met.some rfl rfl rfl) rfl rfl rfl ?_
      refine WXL.pick_t Met.none rfl rfl ?_
      refine WXL.nil ?_
      refine Fin.then_normal ?_
      refine WX.cond rfl (fun hc1 => ?_) (fun hc1 => ?_)
      · try simp only [cnd] at hc1
        refine WX.skip ?_
        refine Fin.then_normal ?_
        refine WX.seq ?_
        refine WX.block ?_
        have he0 : e1 = 0 := by omega
        subst he0
        have hn2 := hn1 rfl
        have hkl : k < l.length := by omega
        have hdc := drop_cons_nth hkl
        refine WX.region rfl ?_
        refine WXL.move Met.none rfl ?_
        refine WXL.move Met.none rfl ?_
        refine WXL.cl (O1 := _) Met.none rfl (fnOk_of Try.func48 (by decide +kernel)) rfl (fun _ h => h) (next_ok (G ++ O) r (l.drop k, 0) a2 c2 (by simp only [List.length_drop]; omega) g5.app g6) (fun v O' hp => ?_)
        obtain ⟨rfl, ⟨a3, c3, rfl, g7, g8⟩⟩ := hp
        rw [show nextP (l.drop k, 0) = (nth l k, (l.drop (k + 1), 0)) from by rw [hdc]; rfl] at g7 ⊢
        have g7 := g7 O g5
        refine WXL.buildSlice (c := [_]) Met.none rfl elem23 sz5 zero5 (by decide) (by decide) rfl rfl rfl rfl (fun b35 => ?_)
        refine WXL.apG [_, _] Met.none rfl rfl isrow23 elem23 sz5 by5 zero5 (Src.lit (cs := [_])) (fun a36 c36 G36 hG36 => ?_)
        refine WXL.assign Met.none rfl ?_
        refine WXL.nil ?_
        refine Fin.block_normal ?_
        refine Fin.then_normal ?_
        refine WX.region rfl ?_
        refine WXL.move Met.none rfl ?_
        refine WXL.bin Met.none rfl rfl (congrArg (fun n => some (U n)) (wrap_u64 (n := (k : Int) + 1) (by omega) (by omega))) ?_
        refine WXL.assign Met.none rfl ?_
        refine WXL.nil ?_
        refine Fin.loop_next (k + 1, a36, c36, G36, a3, c3) ⟨by simp only; omega, by simp only; omega, .inr rfl, ?_, g7, g8⟩ (by simp only; omega) (fun s hs => hs.tl [1] 2)
        simp only
        rw [take_succ_nth hkl, List.map_append]
        exact hG36
      · try simp only [cnd] at hc1
        refine WX.exit ?_
        refine Fin.then_exit ?_
        refine Fin.loop_exit ?_
        refine Fin.block_hit rfl ?_
        refine Fin.then_normal ?_
        refine WX.seq ?_
        refine WX.seq ?_
        refine WX.region rfl ?_
        refine WXL.move Met.none rfl ?_
        refine WXL.nilCheck Met.none rfl ?_
        first | refine WXL.fieldAddr Met.none rfl Try.underlying75 rfl sz47 rfl ?_ | refine WXL.faS Met.none rfl Try.underlying75 rfl sz47 ?_
        first | refine WXL.ld Met.none rfl agg47 ?_ | refine WXL.ldS Met.none rfl agg47 ?_
        refine WXL.bin Met.none rfl rfl rfl ?_
        refine WXL.nil ?_
        refine Fin.then_normal ?_
        refine WX.cond rfl (fun hc2 => ?_) (fun hc2 => ?_)
        · try simp only [cnd] at hc2
          refine WX.seq ?_
          refine WX.region rfl ?_
          refine WXL.assign Met.none rfl ?_
          refine WXL.nil ?_
          refine Fin.then_normal ?_
          refine WX.ret ?_
          refine Fin.then_ret ?_
          first
          | (have hk0 : k = 0 := by omega
             subst hk0
             rw [if_neg hc2]
             rcases g4 with ⟨rfl, _, rfl, _, rfl⟩ | ⟨b, rfl, rfl, _⟩
             · exact Fin.result (O' := (r, ⟨0, false, [.slice a2 (l.drop 0).length c2, I e1]⟩) :: ([] ++ O)) (.inr rfl) rfl rfl (fun _ hs => hs) ⟨none, 0, [], rfl, .nil, a2, c2, rfl, g5, g6⟩
             · exact Fin.result (O' := (r, ⟨0, false, [.slice a2 (l.drop 0).length c2, I e1]⟩) :: ([] ++ O)) (.inr rfl) rfl rfl (fun _ hs => hs.tl [0] 2) ⟨none, 0, [], rfl, .nil, a2, c2, rfl, g5, g6⟩)
          | (have he0 : e1 = 0 := by omega
             subst he0
             rw [if_pos rfl]
             have hkn : n.toNat = k := by omega
             rw [hkn]
             have hlk : (l.take k).length = k := by rw [List.length_take]; omega
             exact Fin.result (O' := (r, ⟨0, false, [.slice a2 (l.drop k).length c2, I 0]⟩) :: (G ++ O)) (.inr rfl) rfl rfl (fun _ hs => hs) ⟨ao, co, G, by rw [hlk]; rfl, by rw [hlk]; exact g4, a2, c2, rfl, g5, g6⟩)
        · try simp only [cnd] at hc2
          refine WX.skip ?_
          refine Fin.then_normal ?_
          refine WX.seq ?_
          refine WX.region rfl ?_
          refine WXL.move Met.none rfl ?_
          refine WXL.assign Met.none rfl ?_
          refine WXL.nil ?_
          refine Fin.then_normal ?_
          refine WX.ret ?_
          first
          | (have hk0 : k = 0 := by omega
             subst hk0
             rw [if_neg hc2]
             rcases g4 with ⟨rfl, _, rfl, _, rfl⟩ | ⟨b, rfl, rfl, _⟩
             · exact Fin.result (O' := (r, ⟨0, false, [.slice a2 (l.drop 0).length c2, I e1]⟩) :: ([] ++ O)) (.inr rfl) rfl rfl (fun _ hs => hs) ⟨none, 0, [], rfl, .nil, a2, c2, rfl, g5, g6⟩
             · exact Fin.result (O' := (r, ⟨0, false, [.slice a2 (l.drop 0).length c2, I e1]⟩) :: ([] ++ O)) (.inr rfl) rfl rfl (fun _ hs => hs.tl [0] 2) ⟨none, 0, [], rfl, .nil, a2, c2, rfl, g5, g6⟩)
          | (have he0 : e1 = 0 := by omega
             subst he0
             rw [if_pos rfl]
             have hkn : n.toNat = k := by omega
             rw [hkn]
             have hlk : (l.take k).length = k := by rw [List.length_take]; omega
             exact Fin.result (O' := (r, ⟨0, false, [.slice a2 (l.drop k).length c2, I 0]⟩) :: (G ++ O)) (.inr rfl) rfl rfl (fun _ hs => hs) ⟨ao, co, G, by rw [hlk]; rfl, by rw [hlk]; exact g4, a2, c2, rfl, g5, g6⟩)
    · try simp only [cnd] at hg23
      refine WXL.miss (j := 3) (d := 23) rfl rfl rfl ?_
      refine WXL.miss (j := 3) (d := 23) rfl rfl rfl ?_
      refine WXL.miss (j := 3) (d := 23) rfl rfl rfl ?_
      refine WXL.miss (j := 3) (d := 23) rfl rfl rfl ?_
      refine WXL.miss (j := 3) (d := 23) rfl rfl rfl ?_
      refine WXL.pick_f Met.none rfl rfl ?_
      refine WXL.nil ?_
      refine Fin.then_normal ?_
      refine WX.cond rfl (fun hc1 => nomatch hc1) (fun hc1 => ?_)
      refine WX.exit ?_
      refine Fin.then_exit ?_
      refine Fin.loop_exit ?_
      refine Fin.block_hit rfl ?_
      refine Fin.then_normal ?_
      refine WX.seq ?_
      refine WX.seq ?_
      refine WX.region rfl ?_
      refine WXL.move Met.none rfl ?_
      refine WXL.nilCheck Met.none rfl ?_
      first | refine WXL.fieldAddr Met.none rfl Try.underlying75 rfl sz47 rfl ?_ | refine WXL.faS Met.none rfl Try.underlying75 rfl sz47 ?_
      first | refine WXL.ld Met.none rfl agg47 ?_ | refine WXL.ldS Met.none rfl agg47 ?_
      refine WXL.bin Met.none rfl rfl rfl ?_
      refine WXL.nil ?_
      refine Fin.then_normal ?_
      refine WX.cond rfl (fun hc2 => ?_) (fun hc2 => ?_)
      · try simp only [cnd] at hc2
        refine WX.seq ?_
        refine WX.region rfl ?_
        refine WXL.assign Met.none rfl ?_
        refine WXL.nil ?_
        refine Fin.then_normal ?_
        refine WX.ret ?_
        refine Fin.then_ret ?_
        first
        | (have hk0 : k = 0 := by omega
           subst hk0
           rw [if_neg hc2]
           rcases g4 with ⟨rfl, _, rfl, _, rfl⟩ | ⟨b, rfl, rfl, _⟩
           · exact Fin.result (O' := (r, ⟨0, false, [.slice a2 (l.drop 0).length c2, I e1]⟩) :: ([] ++ O)) (.inr rfl) rfl rfl (fun _ hs => hs) ⟨none, 0, [], rfl, .nil, a2, c2, rfl, g5, g6⟩
           · exact Fin.result (O' := (r, ⟨0, false, [.slice a2 (l.drop 0).length c2, I e1]⟩) :: ([] ++ O)) (.inr rfl) rfl rfl (fun _ hs => hs.tl [0] 2) ⟨none, 0, [], rfl, .nil, a2, c2, rfl, g5, g6⟩)
        | (have he0 : e1 = 0 := by omega
           subst he0
           rw [if_pos rfl]
           have hkn : n.toNat = k := by omega
           rw [hkn]
           have hlk : (l.take k).length = k := by rw [List.length_take]; omega
           exact Fin.result (O' := (r, ⟨0, false, [.slice a2 (l.drop k).length c2, I 0]⟩) :: (G ++ O)) (.inr rfl) rfl rfl (fun _ hs => hs) ⟨ao, co, G, by rw [hlk]; rfl, by rw [hlk]; exact g4, a2, c2, rfl, g5, g6⟩)
      · try simp only [cnd] at hc2
        refine WX.skip ?_
        refine Fin.then_normal ?_
        refine WX.seq ?_
        refine WX.region rfl ?_
        refine WXL.move Met.none rfl ?_
        refine WXL.assign Met.none rfl ?_
        refine WXL.nil ?_
        refine Fin.then_normal ?_
        refine WX.ret ?_
        first
        | (have hk0 : k = 0 := by omega
           subst hk0
           rw [if_neg hc2]
           rcases g4 with ⟨rfl, _, rfl, _, rfl⟩ | ⟨b, rfl, rfl, _⟩
           · exact Fin.result (O' := (r, ⟨0, false, [.slice a2 (l.drop 0).length c2, I e1]⟩) :: ([] ++ O)) (.inr rfl) rfl rfl (fun _ hs => hs) ⟨none, 0, [], rfl, .nil, a2, c2, rfl, g5, g6⟩
           · exact Fin.result (O' := (r, ⟨0, false, [.slice a2 (l.drop 0).length c2, I e1]⟩) :: ([] ++ O)) (.inr rfl) rfl rfl (fun _ hs => hs.tl [0] 2) ⟨none, 0, [], rfl, .nil, a2, c2, rfl, g5, g6⟩)
        | (have he0 : e1 = 0 := by omega
           subst he0
           rw [if_pos rfl]
           have hkn : n.toNat = k := by omega
           rw [hkn]
           have hlk : (l.take k).length = k := by rw [List.length_take]; omega
           exact Fin.result (O' := (r, ⟨0, false, [.slice a2 (l.drop k).length c2, I 0]⟩) :: (G ++ O)) (.inr rfl) rfl rfl (fun _ hs => hs) ⟨ao, co, G, by rw [hlk]; rfl, by rw [hlk]; exact g4, a2, c2, rfl, g5, g6⟩)
  · try simp only [cnd] at hc0
    refine WX.skip ?_
    refine Fin.then_normal ?_
    refine WX.seq ?_
    refine WX.region rfl ?_
    obtain ⟨e1, he1, hraw, hn1⟩ : ∃ e1, e1 = (if n ≤ (l.length : Int) then e else if e = 0 then 3 else e) ∧ rawP q0 = (if e1 = 0 then (l.take n.toNat, (l.drop n.toNat, 0)) else ([], (l, e1))) ∧ (e1 = 0 → n ≤ l.length) := by
      refine ⟨_, rfl, ?_, ?_⟩
      · unfold rawP
        rw [hu]
        simp only
        by_cases q1 : e = 0
        · subst q1
          by_cases q2 : n ≤ (l.length : Int)
          · rw [if_pos rfl, if_pos q2, if_pos q2, if_pos rfl]
          · rw [if_pos rfl, if_neg q2, if_neg q2, if_pos rfl, if_neg (by decide)]
        · rw [if_neg q1]
          have q3 := hu4 q1
          have q4 : (if n ≤ (l.length : Int) then e else if e = 0 then 3 else e) = e := if_pos (by omega)
          rw [q4, if_neg q1]
      · intro q1
        by_cases q2 : n ≤ (l.length : Int)
        · exact q2
        · rw [if_neg q2] at q1
          split at q1
          · cases q1
          · exact absurd q1 (by assumption)
    first
    | rw [show (if e = 0 then 3 else e) = e1 from by rw [he1, if_neg (show ¬ n ≤ (l.length : Int) by omega)]]
    | rw [show e = e1 from by rw [he1, if_pos (show n ≤ (l.length : Int) by omega)]]
    rw [hraw]
    clear hraw
    refine WXL.assign Met.none rfl ?_
    refine WXL.nil ?_
    refine Fin.then_normal ?_
    refine WX.seq ?_
    refine WX.seq ?_
    refine WX.region rfl ?_
    refine WXL.assign Met.none rfl ?_
    refine WXL.nil ?_
    refine Fin.then_normal ?_
    refine WX.block ?_
    refine WX.loop (fun s : Nat × Option Addr × Nat × Objs × Option Addr × Nat => [(0, Ptr r 0), (1, .func (.func 48) #[Ptr r 0] #[]), (5, U n), (6, .slice s.2.1 s.1 s.2.2.1), (7, U (s.1 : Int))]) (fun s => (r, ⟨0, false, [.slice s.2.2.2.2.1 (l.drop s.1).length s.2.2.2.2.2, I e1]⟩) :: (s.2.2.2.1 ++ O)) (fun s => (s.1 : Int) ≤ n ∧ s.1 ≤ l.length ∧ (s.1 = 0 ∨ e1 = 0) ∧ Grow 1 s.2.1 s.1 s.2.2.1 ((l.take s.1).map B8) s.2.2.2.1 ∧ Rowy O 1 s.2.2.2.2.1 (l.drop s.1).length ((l.drop s.1).map B8) ∧ (s.2.2.2.2.1 = none → s.2.2.2.2.2 = 0)) (fun s => l.length - s.1) (0, none, 0, [], a1, c1) ⟨hu1.1, Nat.zero_le _, .inl rfl, .nil, hr1, hc1⟩ (fun s hs => hs.tl [0] 1) (fun s hs => ?_)
    obtain ⟨k, ao, co, G, a2, c2⟩ := s
    obtain ⟨g1, g2, g3, g4, g5, g6⟩ := hs
    simp only at g1 g2 g3 g4 g5 g6
    dsimp only
    refine WX.seq ?_
    refine WX.seq ?_
    refine WX.region rfl ?_
    refine WXL.move Met.none rfl ?_
    refine WXL.move Met.none rfl ?_
    refine WXL.bin Met.none rfl rfl rfl ?_
    refine WXL.move Met.none rfl ?_
    refine WXL.split (d := 23) rfl (fun hg23 => ?_) (fun hg23 => ?_)
    · try simp only [cnd] at hg23
      refine WXL.move (Met.some rfl rfl rfl) rfl ?_
      refine WXL.nilCheck (Met.some rfl rfl rfl) rfl ?_
      first | refine WXL.fieldAddr (Met.some rfl rfl rfl) rfl Try.underlying75 rfl sz47 rfl ?_ | refine WXL.faS (Met.some rfl rfl rfl) rfl Try.underlying75 rfl sz47 ?_
      first | refine WXL.ld (Met.some rfl rfl rfl) rfl agg47 ?_ | refine WXL.ldS (Met.some rfl rfl rfl) rfl agg47 ?_
      refine WXL.bin (Met.some rfl rfl rfl) rfl rfl rfl ?_
      refine WXL.pick_t Met.none rfl rfl ?_
      refine WXL.nil ?_
      refine Fin.then_normal ?_
      refine WX.cond rfl (fun hc1 => ?_) (fun hc1 => ?_)
      · try simp only [cnd] at hc1
        refine WX.skip ?_
        refine Fin.then_normal ?_
        refine WX.seq ?_
        refine WX.block ?_
        have he0 : e1 = 0 := by omega
        subst he0
        have hn2 := hn1 rfl
        have hkl : k < l.length := by omega
        have hdc := drop_cons_nth hkl
        refine WX.region rfl ?_
        refine WXL.move Met.none rfl ?_
        refine WXL.move Met.none rfl ?_
        refine WXL.cl (O1 := _) Met.none rfl (fnOk_of Try.func48 (by decide +kernel)) rfl (fun _ h => h) (next_ok (G ++ O) r (l.drop k, 0) a2 c2 (by simp only [List.length_drop]; omega) g5.app g6) (fun v O' hp => ?_)
        obtain ⟨rfl, ⟨a3, c3, rfl, g7, g8⟩⟩ := hp
        rw [show nextP (l.drop k, 0) = (nth l k, (l.drop (k + 1), 0)) from by rw [hdc]; rfl] at g7 ⊢
        have g7 := g7 O g5
        refine WXL.buildSlice (c := [_]) Met.none rfl elem23 sz5 zero5 (by decide) (by decide) rfl rfl rfl rfl (fun b35 => ?_)
        refine WXL.apG [_, _] Met.none rfl rfl isrow23 elem23 sz5 by5 zero5 (Src.lit (cs := [_])) (fun a36 c36 G36 hG36 => ?_)
        refine WXL.assign Met.none rfl ?_
        refine WXL.nil ?_
        refine Fin.block_normal ?_
        refine Fin.then_normal ?_
        refine WX.region rfl ?_
        refine WXL.move Met.none rfl ?_
        refine WXL.bin Met.none rfl rfl (congrArg (fun n => some (U n)) (wrap_u64 (n := (k : Int) + 1) (by omega) (by omega))) ?_
        refine WXL.assign Met.none rfl ?_
        refine WXL.nil ?_
        refine Fin.loop_next (k + 1, a36, c36, G36, a3, c3) ⟨by simp only; omega, by simp only; omega, .inr rfl, ?_, g7, g8⟩ (by simp only; omega) (fun s hs => hs.tl [1] 2)
        simp only
        rw [take_succ_nth hkl, List.map_append]
        exact hG36
      · try simp only [cnd] at hc1
        refine WX.exit ?_
        refine Fin.then_exit ?_
        refine Fin.loop_exit ?_
        refine Fin.block_hit rfl ?_
        refine Fin.then_normal ?_
        refine WX.seq ?_
        refine WX.seq ?_
        refine WX.region rfl ?_
        refine WXL.move Met.none rfl ?_
        refine WXL.nilCheck Met.none rfl ?_
        first | refine WXL.fieldAddr Met.none rfl Try.underlying75 rfl sz47 rfl ?_ | refine WXL.faS Met.none rfl Try.underlying75 rfl sz47 ?_
        first | refine WXL.ld Met.none rfl agg47 ?_ | refine WXL.ldS Met.none rfl agg47 ?_
        refine WXL.bin Met.none rfl rfl rfl ?_
        refine WXL.nil ?_
        refine Fin.then_normal ?_
        refine WX.cond rfl (fun hc2 => ?_) (fun hc2 => ?_)
        · try simp only [cnd] at hc2
          refine WX.seq ?_
          refine WX.region rfl ?_
          refine WXL.assign Met.none rfl ?_
          refine WXL.nil ?_
          refine Fin.then_normal ?_
          refine WX.ret ?_
          refine Fin.then_ret ?_
          first
          | (have hk0 : k = 0 := by omega
             subst hk0
             rw [if_neg hc2]
             rcases g4 with ⟨rfl, _, rfl, _, rfl⟩ | ⟨b, rfl, rfl, _⟩
             · exact Fin.result (O' := (r, ⟨0, false, [.slice a2 (l.drop 0).length c2, I e1]⟩) :: ([] ++ O)) (.inr rfl) rfl rfl (fun _ hs => hs) ⟨none, 0, [], rfl, .nil, a2, c2, rfl, g5, g6⟩
             · exact Fin.result (O' := (r, ⟨0, false, [.slice a2 (l.drop 0).length c2, I e1]⟩) :: ([] ++ O)) (.inr rfl) rfl rfl (fun _ hs => hs.tl [0] 2) ⟨none, 0, [], rfl, .nil, a2, c2, rfl, g5, g6⟩)
          | (have he0 : e1 = 0 := by omega
             subst he0
             rw [if_pos rfl]
             have hkn : n.toNat = k := by omega
             rw [hkn]
             have hlk : (l.take k).length = k := by rw [List.length_take]; omega
             exact Fin.result (O' := (r, ⟨0, false, [.slice a2 (l.drop k).length c2, I 0]⟩) :: (G ++ O)) (.inr rfl) rfl rfl (fun _ hs => hs) ⟨ao, co, G, by rw [hlk]; rfl, by rw [hlk]; exact g4, a2, c2, rfl, g5, g6⟩)
        · try simp only [cnd] at hc2
          refine WX.skip ?_
          refine Fin.then_normal ?_
          refine WX.seq ?_
          refine WX.region rfl ?_
          refine WXL.move Met.none rfl ?_
          refine WXL.assign Met.none rfl ?_
          refine WXL.nil ?_
          refine Fin.then_normal ?_
          refine WX.ret ?_
          first
          | (have hk0 : k = 0 := by omega
             subst hk0
             rw [if_neg hc2]
             rcases g4 with ⟨rfl, _, rfl, _, rfl⟩ | ⟨b, rfl, rfl, _⟩
             · exact Fin.result (O' := (r, ⟨0, false, [.slice a2 (l.drop 0).length c2, I e1]⟩) :: ([] ++ O)) (.inr rfl) rfl rfl (fun _ hs => hs) ⟨none, 0, [], rfl, .nil, a2, c2, rfl, g5, g6⟩
             · exact Fin.result (O' := (r, ⟨0, false, [.slice a2 (l.drop 0).length c2, I e1]⟩) :: ([] ++ O)) (.inr rfl) rfl rfl (fun _ hs => hs.tl [0] 2) ⟨none, 0, [], rfl, .nil, a2, c2, rfl, g5, g6⟩)
          | (have he0 : e1 = 0 := by omega
             subst he0
             rw [if_pos rfl]
             have hkn : n.toNat = k := by omega
             rw [hkn]
             have hlk : (l.take k).length = k := by rw [List.length_take]; omega
             exact Fin.result (O' := (r, ⟨0, false, [.slice a2 (l.drop k).length c2, I 0]⟩) :: (G ++ O)) (.inr rfl) rfl rfl (fun _ hs => hs) ⟨ao, co, G, by rw [hlk]; rfl, by rw [hlk]; exact g4, a2, c2, rfl, g5, g6⟩)
    · try simp only [cnd] at hg23
      refine WXL.miss (j := 3) (d := 23) rfl rfl rfl ?_
      refine WXL.miss (j := 3) (d := 23) rfl rfl rfl ?_
      refine WXL.miss (j := 3) (d := 23) rfl rfl rfl ?_
      refine WXL.miss (j := 3) (d := 23) rfl rfl rfl ?_
      refine WXL.miss (j := 3) (d := 23) rfl rfl rfl ?_
      refine WXL.pick_f Met.none rfl rfl ?_
      refine WXL.nil ?_
      refine Fin.then_normal ?_
      refine WX.cond rfl (fun hc1 => nomatch hc1) (fun hc1 => ?_)
      refine WX.exit ?_
      refine Fin.then_exit ?_
      refine Fin.loop_exit ?_
      refine Fin.block_hit rfl ?_
      refine Fin.then_normal ?_
      refine WX.seq ?_
      refine WX.seq ?_
      refine WX.region rfl ?_
      refine WXL.move Met.none rfl ?_
      refine WXL.nilCheck Met.none rfl ?_
      first | refine WXL.fieldAddr Met.none rfl Try.underlying75 rfl sz47 rfl ?_ | refine WXL.faS Met.none rfl Try.underlying75 rfl sz47 ?_
      first | refine WXL.ld Met.none rfl agg47 ?_ | refine WXL.ldS Met.none rfl agg47 ?_
      refine WXL.bin Met.none rfl rfl rfl ?_
      refine WXL.nil ?_
      refine Fin.then_normal ?_
      refine WX.cond rfl (fun hc2 => ?_) (fun hc2 => ?_)
      · try simp only [cnd] at hc2
        refine WX.seq ?_
        refine WX.region rfl ?_
        refine WXL.assign Met.none rfl ?_
        refine WXL.nil ?_
        refine Fin.then_normal ?_
        refine WX.ret ?_
        refine Fin.then_ret ?_
        first
        | (have hk0 : k = 0 := by omega
           subst hk0
           rw [if_neg hc2]
           rcases g4 with ⟨rfl, _, rfl, _, rfl⟩ | ⟨b, rfl, rfl, _⟩
           · exact Fin.result (O' := (r, ⟨0, false, [.slice a2 (l.drop 0).length c2, I e1]⟩) :: ([] ++ O)) (.inr rfl) rfl rfl (fun _ hs => hs) ⟨none, 0, [], rfl, .nil, a2, c2, rfl, g5, g6⟩
           · exact Fin.result (O' := (r, ⟨0, false, [.slice a2 (l.drop 0).length c2, I e1]⟩) :: ([] ++ O)) (.inr rfl) rfl rfl (fun _ hs => hs.tl [0] 2) ⟨none, 0, [], rfl, .nil, a2, c2, rfl, g5, g6⟩)
        | (have he0 : e1 = 0 := by omega
           subst he0
           rw [if_pos rfl]
           have hkn : n.toNat = k := by omega
           rw [hkn]
           have hlk : (l.take k).length = k := by rw [List.length_take]; omega
           exact Fin.result (O' := (r, ⟨0, false, [.slice a2 (l.drop k).length c2, I 0]⟩) :: (G ++ O)) (.inr rfl) rfl rfl (fun _ hs => hs) ⟨ao, co, G, by rw [hlk]; rfl, by rw [hlk]; exact g4, a2, c2, rfl, g5, g6⟩)
      · try simp only [cnd] at hc2
        refine WX.skip ?_
        refine Fin.then_normal ?_
        refine WX.seq ?_
        refine WX.region rfl ?_
        refine WXL.move Met.none rfl ?_
        refine WXL.assign Met.none rfl ?_
        refine WXL.nil ?_
        refine Fin.then_normal ?_
        refine WX.ret ?_
        first
        | (have hk0 : k = 0 := by omega
           subst hk0
           rw [if_neg hc2]
           rcases g4 with ⟨rfl, _, rfl, _, rfl⟩ | ⟨b, rfl, rfl, _⟩
           · exact Fin.result (O' := (r, ⟨0, false, [.slice a2 (l.drop 0).length c2, I e1]⟩) :: ([] ++ O)) (.inr rfl) rfl rfl (fun _ hs => hs) ⟨none, 0, [], rfl, .nil, a2, c2, rfl, g5, g6⟩
           · exact Fin.result (O' := (r, ⟨0, false, [.slice a2 (l.drop 0).length c2, I e1]⟩) :: ([] ++ O)) (.inr rfl) rfl rfl (fun _ hs => hs.tl [0] 2) ⟨none, 0, [], rfl, .nil, a2, c2, rfl, g5, g6⟩)
        | (have he0 : e1 = 0 := by omega
           subst he0
           rw [if_pos rfl]
           have hkn : n.toNat = k := by omega
           rw [hkn]
           have hlk : (l.take k).length = k := by rw [List.length_take]; omega
           exact Fin.result (O' := (r, ⟨0, false, [.slice a2 (l.drop k).length c2, I 0]⟩) :: (G ++ O)) (.inr rfl) rfl rfl (fun _ hs => hs) ⟨ao, co, G, by rw [hlk]; rfl, by rw [hlk]; exact g4, a2, c2, rfl, g5, g6⟩)

theorem raw_ok (O : Objs) (r : Nat) (q0 : RdP) (a0 : Option Addr) (c0 : Nat) (hB : Bytes q0.1) (hlen : q0.1.length ≤ 1000000000000) (hr : Rowy O 1 a0 q0.1.length (q0.1.map B8)) (hc : a0 = none → c0 = 0) :
    Spec Try.prog false 25 #[Ptr r 0] ((r, ⟨0, false, [.slice a0 q0.1.length c0, I q0.2]⟩) :: O) fun v O' => ∃ ao co G, v = .slice ao (rawP q0).1.length co ∧ Grow 1 ao (rawP q0).1.length co ((rawP q0).1.map B8) G ∧ RdG O r (rawP q0).2 G O' := by
  refine Spec.enter (args := [_]) (m := 7) Try.func25 rfl rfl (by decide +kernel) fun h0 => ?_
  refine WX.seq ?_
  refine WX.region rfl ?_
  refine WXL.assign Met.none rfl ?_
  refine WXL.nil ?_
  refine Fin.then_normal ?_
  refine WX.seq ?_
  refine WX.region rfl ?_
  refine WXL.move Met.none rfl ?_
  refine WXL.move Met.none rfl ?_
  refine WXL.makeFunc Met.none rfl rfl ?_
  refine WXL.cl (O1 := _) Met.none rfl (fnOk_of Try.func47 (by decide +kernel)) rfl (fun _ h => h) (list_ok O r q0 a0 c0 hB hlen hr hc) (fun v O' hp => ?_)
  obtain ⟨ao, co, G, rfl, hG, a1, c1, rfl, hr1, hc1⟩ := hp
  refine WXL.assign Met.none rfl ?_
  refine WXL.nil ?_
  refine Fin.then_normal ?_
  refine WX.ret ?_
  exact Fin.result (O' := (r, ⟨0, false, [.slice a1 (rawP q0).2.1.length c1, I (rawP q0).2.2]⟩) :: (G ++ O)) (.inr rfl) rfl rfl (fun _ hs => hs) ⟨ao, co, G, rfl, hG, a1, c1, rfl, hr1, hc1⟩

theorem unzig_ok (O : Objs) (z : Int) : Spec Try.prog true 86 #[U z] O fun v O' => ∃ n, v = I n ∧ O' = O := by
  refine Spec.enter (args := [_]) (m := 11) Try.func86 rfl rfl (by decide +kernel) fun h0 => ?_
  refine WX.seq ?_
  refine WX.region rfl ?_
  refine WXL.assign Met.none rfl ?_
  refine WXL.nil ?_
  refine Fin.then_normal ?_
  refine WX.seq ?_
  refine WX.region rfl ?_
  refine WXL.move Met.none rfl ?_
  refine WXL.shr Met.none rfl rfl (by omega) ?_
  refine WXL.conv Met.none rfl Try.underlying42 Try.underlying3 rfl ?_
  refine WXL.move Met.none rfl ?_
  refine WXL.bin Met.none rfl rfl rfl ?_
  refine WXL.conv Met.none rfl Try.underlying42 Try.underlying3 rfl ?_
  refine WXL.neg Met.none rfl rfl ?_
  refine WXL.bin Met.none rfl rfl rfl ?_
  refine WXL.assign Met.none rfl ?_
  refine WXL.nil ?_
  refine Fin.then_normal ?_
  refine WX.ret ?_
  exact Fin.result (O' := O) (.inr rfl) rfl rfl drop_ ⟨_, rfl, rfl⟩

theorem int_ok (O : Objs) (r : Nat) (q0 : RdP) (a0 : Option Addr) (c0 : Nat) (hB : Bytes q0.1) (hlen : q0.1.length ≤ 1000000000000) (hr : Rowy O 1 a0 q0.1.length (q0.1.map B8)) (hc : a0 = none → c0 = 0) :
    Spec Try.prog false 77 #[Ptr r 0] ((r, ⟨0, false, [.slice a0 q0.1.length c0, I q0.2]⟩) :: O) fun v O' => (∃ n, v = I n) ∧ RdO O r (uintP 0 0 q0).2 O' := by
  refine Spec.enter (args := [_]) (m := 6) Try.func77 rfl rfl (by decide +kernel) fun h0 => ?_
  refine WX.seq ?_
  refine WX.region rfl ?_
  refine WXL.assign Met.none rfl ?_
  refine WXL.nil ?_
  refine Fin.then_normal ?_
  refine WX.seq ?_
  refine WX.region rfl ?_
  refine WXL.move Met.none rfl ?_
  refine WXL.cl (O1 := _) Met.none rfl (fnOk_of Try.func26 (by decide +kernel)) rfl (fun _ h => h) (uint_ok O r q0 a0 c0 hB hlen hr hc) (fun v O' hp => ?_)
  obtain ⟨rfl, ⟨a1, c1, rfl, hr1, hc1⟩⟩ := hp
  refine WXL.cl (O1 := _) Met.none rfl (fnOk_of Try.func86 (by decide +kernel)) rfl (fun _ h => h) (unzig_ok _ _) (fun v O' hp => ?_)
  obtain ⟨n, rfl, rfl⟩ := hp
  refine WXL.assign Met.none rfl ?_
  refine WXL.nil ?_
  refine Fin.then_normal ?_
  refine WX.ret ?_
  exact Fin.result (O' := (r, ⟨0, false, [.slice a1 (uintP 0 0 q0).2.1.length c1, I (uintP 0 0 q0).2.2]⟩) :: O) (.inr rfl) rfl rfl (fun _ hs => hs) ⟨⟨n, rfl⟩, a1, c1, rfl, hr1, hc1⟩

end Go.Proofs.Ythekokdpplobhaa.Eng

set_option linter.unusedVariables false
set_option linter.unusedSimpArgs false
namespace Go.Proofs.Ythekokdpplobhaa.Eng

theorem record_ok (O : Objs) (b : List Int) (a : Option Addr) (c : Nat) (hB : Bytes b) (hlen : b.length ≤ 1000000000) (hr : Rowy O 1 a b.length (b.map B8)) (hc : a = none → c = 0) :
    Spec Try.prog false 66 #[.slice a b.length c] O fun v O' => ∃ a' c' G, v = .slice a' (recordP b).length c' ∧ Grow 1 a' (recordP b).length c' ((recordP b).map B8) G ∧ O' = G ++ O := by
  have hpre : ∀ m, Rowy O 1 a (b.take m).length ((b.take m).map B8) := fun m => by
    have := hr.pre (m := (b.take m).length) (by rw [List.length_take]; omega)
    rw [Nat.mul_one, ← List.map_take] at this
    have e : b.take (b.take m).length = b.take m := by
      rw [List.length_take]
      rcases Nat.le_total m b.length with q | q
      · rw [Nat.min_eq_left q]
      · rw [Nat.min_eq_right q, List.take_of_length_le (Nat.le_refl _), List.take_of_length_le q]
    rw [e] at this
    exact this
  have hBt : ∀ m, Bytes (b.take m) := fun m x hx => hB x (List.mem_of_mem_take hx)
  have hlt : ∀ m, (b.take m).length ≤ b.length := fun m => by rw [List.length_take]; omega
  obtain ⟨hu1, hu2, hu3, hu4⟩ := uintP0 (b.take (min b.length 10), 0)
  obtain ⟨n, hn⟩ : ∃ n, n = (uintP 0 0 (b.take (min b.length 10), 0)).1 := ⟨_, rfl⟩
  rw [← hn] at hu1 hu4
  obtain ⟨m, hm⟩ : ∃ m, m = min b.length (10 + min n.toNat b.length) := ⟨_, rfl⟩
  have hm1 : m ≤ b.length := by omega
  have hlm : (b.take m).length = m := by rw [List.length_take]; omega
  have hcore : coreP b = (rawP (b.take m, 0)).1 := by unfold coreP; simp only [← hn, hm]
  obtain ⟨k1, k2⟩ := coreP_facts b
  rw [hcore] at k1 k2
  obtain ⟨j1, j2, j3, j4⟩ := uintP0 ((rawP (b.take m, 0)).1, 0)
  simp only at j2 j3
  have hrec : recordP b = (rawP (uintP 0 0 ((rawP (b.take m, 0)).1, 0)).2).1 := by unfold recordP; rw [hcore]
  have hcn := hc
  refine Spec.enter (args := [_]) (m := 33) Try.func66 rfl rfl (by decide +kernel) fun h0 => ?_
  refine WX.seq ?_
  refine WX.region rfl ?_
  refine WXL.assign Met.none rfl ?_
  refine WXL.nil ?_
  refine Fin.then_normal ?_
  refine WX.seq ?_
  refine WX.region rfl ?_
  refine WXL.move Met.none rfl ?_
  refine WXL.move Met.none rfl ?_
  refine WXL.len Met.none rfl Try.underlying23 ?_
  refine WXL.min Met.none rfl rfl ?_
  refine WXL.pre (m := (b.take (min b.length 10)).length) Met.none rfl rfl elem23 sz5 hr hcn ?_ (hj := (by rw [List.length_take]; omega)) (hm := (by rw [List.length_take]; omega))
  refine WXL.cl (O1 := _) Met.none rfl (fnOk_of Try.func24 (by decide +kernel)) rfl (fun _ h => h) (read_ok O (b.take (min b.length 10)) a _ (by have := hlt (min b.length 10); omega) (fun q => by have := (hpre (min b.length 10)).nil0 q; exact List.length_eq_zero_iff.1 this) ((hpre (min b.length 10)).src (fun q => (hpre (min b.length 10)).nil0 q))) (fun v O' hp => ?_)
  obtain ⟨r1, a1, c1, G1, rfl, hG1, rfl⟩ := hp
  refine WXL.cl (O1 := _) Met.none rfl (fnOk_of Try.func26 (by decide +kernel)) rfl (fun _ h => h) (uint_ok (G1 ++ O) r1 (b.take (min b.length 10), 0) a1 c1 (hBt _) (by have := hlt (min b.length 10); simp only; omega) hG1.rowy (fun q => (hG1.nil0 q).1)) (fun v O' hp => ?_)
  obtain ⟨rfl, ⟨a2, c2, rfl, hr2, hc2⟩⟩ := hp
  rw [← hn]
  refine WXL.assign Met.none rfl ?_
  refine WXL.nil ?_
  refine Fin.then_normal ?_
  refine WX.seq ?_
  refine WX.region rfl ?_
  refine WXL.move Met.none rfl ?_
  refine WXL.len Met.none rfl Try.underlying23 ?_
  refine WXL.conv Met.none rfl Try.underlying3 Try.underlying42 cv_ ?_
  refine WXL.assign Met.none rfl ?_
  refine WXL.nil ?_
  refine Fin.then_normal ?_
  refine WX.seq ?_
  refine WX.region rfl ?_
  refine WXL.move Met.none rfl ?_
  refine WXL.move Met.none rfl ?_
  refine WXL.move Met.none rfl ?_
  refine WXL.move Met.none rfl ?_
  refine WXL.min Met.none rfl rfl ?_
  refine WXL.bin Met.none rfl rfl (congrArg (fun n => some (U n)) (wrap_u64 (n := 10 + min n (b.length : Int)) (by omega) (by omega))) ?_
  refine WXL.min Met.none rfl rfl ?_
  refine WXL.pre (m := (b.take m).length) Met.none rfl rfl elem23 sz5 (hr.app.cons) hcn ?_ (hj := (by rw [hlm]; omega)) (hm := (by rw [hlm]; omega))
  refine WXL.cl (O1 := _) Met.none rfl (fnOk_of Try.func24 (by decide +kernel)) rfl (fun _ h => h) (read_ok _ (b.take m) a _ (by have := hlt m; omega) (fun q => by have := (hpre m).nil0 q; exact List.length_eq_zero_iff.1 this) (Src.cons (Src.app ((hpre m).src (fun q => (hpre m).nil0 q))))) (fun v O' hp => ?_)
  obtain ⟨r3, a3, c3, G3, rfl, hG3, rfl⟩ := hp
  refine WXL.assign Met.none rfl ?_
  refine WXL.nil ?_
  refine Fin.then_normal ?_
  refine WX.seq ?_
  refine WX.region rfl ?_
  refine WXL.move Met.none rfl ?_
  refine WXL.cl (O1 := _) Met.none rfl (fnOk_of Try.func25 (by decide +kernel)) rfl (fun _ h => h) (raw_ok _ r3 (b.take m, 0) a3 c3 (hBt _) (by have := hlt m; simp only; omega) hG3.rowy (fun q => (hG3.nil0 q).1)) (fun v O' hp => ?_)
  obtain ⟨a4, c4, G4, rfl, hG4, a5, c5, rfl, hr5, hc5⟩ := hp
  refine WXL.cl (O1 := _) Met.none rfl (fnOk_of Try.func24 (by decide +kernel)) rfl (fun _ h => h) (read_ok _ (rawP (b.take m, 0)).1 a4 c4 (by omega) (fun q => by have := (hG4.nil0 q).2; exact List.length_eq_zero_iff.1 this) (Src.cons hG4.src)) (fun v O' hp => ?_)
  obtain ⟨r6, a6, c6, G6, rfl, hG6, rfl⟩ := hp
  refine WXL.assign Met.none rfl ?_
  refine WXL.nil ?_
  refine Fin.then_normal ?_
  refine WX.seq ?_
  refine WX.region rfl ?_
  refine WXL.move Met.none rfl ?_
  refine WXL.cl (O1 := _) Met.none rfl (fnOk_of Try.func77 (by decide +kernel)) rfl (fun _ h => h) (int_ok _ r6 ((rawP (b.take m, 0)).1, 0) a6 c6 (k2 hB) (by simp only; omega) hG6.rowy (fun q => (hG6.nil0 q).1)) (fun v O' hp => ?_)
  obtain ⟨⟨z, rfl⟩, a7, c7, rfl, hr7, hc7⟩ := hp
  refine WXL.nil ?_
  refine Fin.then_normal ?_
  refine WX.seq ?_
  refine WX.region rfl ?_
  refine WXL.move Met.none rfl ?_
  refine WXL.cl (O1 := _) Met.none rfl (fnOk_of Try.func25 (by decide +kernel)) rfl (fun _ h => h) (raw_ok _ r6 (uintP 0 0 ((rawP (b.take m, 0)).1, 0)).2 a7 c7 (j3 (k2 hB)) (by omega) hr7 hc7) (fun v O' hp => ?_)
  obtain ⟨a8, c8, G8, rfl, hG8, a9, c9, rfl, hr9, hc9⟩ := hp
  rw [← hrec] at hG8 ⊢
  refine WXL.assign Met.none rfl ?_
  refine WXL.nil ?_
  refine Fin.then_normal ?_
  refine WX.ret ?_
  exact Fin.result (O' := G8 ++ O) (.inr rfl) rfl rfl sub_ ⟨a8, c8, G8, rfl, hG8, rfl⟩

end Go.Proofs.Ythekokdpplobhaa.Eng

set_option linter.unusedVariables false
set_option linter.unusedSimpArgs false
namespace Go.Proofs.Ythekokdpplobhaa.Eng

theorem Rowy.some {O : Objs} {a : Option Addr} {n : Nat} {cs : List Value} (h : Rowy O 1 a n cs) (hn : 0 < n) : ∃ b off q, a = some ⟨b, off, none⟩ ∧ Knows O b q ∧ q.sz = 1 := by
  rcases h with ⟨_, h, _⟩ | ⟨b, off, q, h1, h2, h3, _⟩
  · omega
  · exact ⟨b, off, q, h1, h2, h3⟩

theorem Rowy.suf {O : Objs} {b off n m : Nat} {cs : List Value} (h : Rowy O 1 (.some ⟨b, off, none⟩) n cs) (hm : m ≤ n) : Rowy O 1 (.some ⟨b, off + m * 1, none⟩) (n - m) (cs.drop m) := by
  rcases h with ⟨h, _⟩ | ⟨b2, off2, q, h1, h2, h3, h4, h5⟩
  · cases h
  · injection h1 with h1
    injection h1 with h1 h6
    subst h1 h6
    refine .inr ⟨b, off + m * 1, q, rfl, h2, h3, by omega, ?_⟩
    rw [← h5, ← List.drop_drop, List.drop_take, Nat.mul_one, Nat.mul_one, Nat.mul_one]

theorem equal_ok (O : Objs) (l m : List Int) (a b : Option Addr) (c e : Nat) (hBl : Bytes l) (hBm : Bytes m) (hl : Src O 1 (.slice a l.length c) l.length (l.map B8)) (hm : Src O 1 (.slice b m.length e) m.length (m.map B8)) :
    Spec Try.prog true 78 #[.slice a l.length c, .slice b m.length e] O fun v O' => v = .bool (decide (l = m)) ∧ O' = O := by
  refine Spec.enter (args := [_, _]) (m := 10) Try.func78 rfl rfl (by decide +kernel) fun h0 => ?_
  refine WX.seq ?_
  refine WX.region rfl ?_
  refine WXL.assign Met.none rfl ?_
  refine WXL.nil ?_
  refine Fin.then_normal ?_
  refine WX.seq ?_
  refine WX.region rfl ?_
  refine WXL.move Met.none rfl ?_
  refine WXL.toStr Met.none rfl Try.underlying23 Try.underlying9 Try.underlying5 src_ ?_
  refine WXL.move Met.none rfl ?_
  refine WXL.toStr Met.none rfl Try.underlying23 Try.underlying9 Try.underlying5 src_ ?_
  refine WXL.eqS Met.none rfl rfl (by assumption) (by assumption) ?_
  refine WXL.assign Met.none rfl ?_
  refine WXL.nil ?_
  refine Fin.then_normal ?_
  refine WX.ret ?_
  exact Fin.result (O' := O) (.inr rfl) rfl rfl drop_ ⟨rfl, rfl⟩

theorem prefix_dec (l m : List Int) : decide (m <+: l) = (decide (m.length ≤ l.length) && decide (l.take m.length = m)) := by
  rw [← Bool.decide_and]
  refine decide_eq_decide.2 ⟨fun h => ⟨h.length_le, (List.prefix_iff_eq_take.1 h).symm⟩, fun h => List.prefix_iff_eq_take.2 h.2.symm⟩

theorem hasPrefix_ok (O : Objs) (l m : List Int) (a b : Option Addr) (c e : Nat) (hBl : Bytes l) (hBm : Bytes m) (hl : Rowy O 1 a l.length (l.map B8)) (hc : a = none → c = 0) (hm : Src O 1 (.slice b m.length e) m.length (m.map B8)) :
    Spec Try.prog true 67 #[.slice a l.length c, .slice b m.length e] O fun v O' => ∃ x, v = .bool x ∧ x = decide (m <+: l) ∧ O' = O := by
  refine Spec.enter (args := [_, _]) (m := 18) Try.func67 rfl rfl (by decide +kernel) fun h0 => ?_
  refine WX.seq ?_
  refine WX.region rfl ?_
  refine WXL.assign Met.none rfl ?_
  refine WXL.nil ?_
  refine Fin.then_normal ?_
  refine WX.seq ?_
  refine WX.region rfl ?_
  refine WXL.move Met.none rfl ?_
  refine WXL.len Met.none rfl Try.underlying23 ?_
  refine WXL.move Met.none rfl ?_
  refine WXL.len Met.none rfl Try.underlying23 ?_
  refine WXL.bin Met.none rfl rfl rfl ?_
  refine WXL.move Met.none rfl ?_
  refine WXL.split (d := 10) rfl (fun hg10 => ?_) (fun hg10 => ?_)
  · try simp only [cnd] at hg10
    refine WXL.move (Met.some rfl rfl rfl) rfl ?_
    refine WXL.move (Met.some rfl rfl rfl) rfl ?_
    refine WXL.len (Met.some rfl rfl rfl) rfl Try.underlying23 ?_
    refine WXL.pre (m := m.length) (Met.some rfl rfl rfl) rfl rfl elem23 sz5 hl hc ?_
    refine WXL.move (Met.some rfl rfl rfl) rfl ?_
    have hml : (l.take m.length).length = m.length := by rw [List.length_take]; omega
    have hr2 := hl.pre (m := m.length) (by omega)
    rw [Nat.mul_one, ← List.map_take] at hr2
    refine WXL.cl (O1 := _) (Met.some rfl rfl rfl) rfl (fnOk_of Try.func78 (by decide +kernel)) rfl (fun _ h => h) ((by
    have := equal_ok O (l.take m.length) m a b m.length e (fun x hx => hBl x (List.mem_of_mem_take hx)) hBm (by rw [hml]; exact hr2.src (fun q => hr2.nil0 q)) hm
    rw [hml] at this
    exact this)) (fun v O' hp => ?_)
    obtain ⟨rfl, hO⟩ := hp
    subst O'
    refine WXL.pick_t Met.none rfl rfl ?_
    refine WXL.assign Met.none rfl ?_
    refine WXL.nil ?_
    refine Fin.then_normal ?_
    refine WX.ret ?_
    first
    | exact Fin.result (O' := O) (.inr rfl) rfl rfl drop_ ⟨_, rfl, by rw [prefix_dec, decide_eq_true (show m.length ≤ l.length by omega), Bool.true_and], rfl⟩
    | exact Fin.result (O' := O) (.inr rfl) rfl rfl drop_ ⟨_, rfl, by rw [prefix_dec, decide_eq_false (show ¬ m.length ≤ l.length by omega), Bool.false_and], rfl⟩
  · try simp only [cnd] at hg10
    refine WXL.miss (j := 5) (d := 10) rfl rfl rfl ?_
    refine WXL.miss (j := 5) (d := 10) rfl rfl rfl ?_
    refine WXL.miss (j := 5) (d := 10) rfl rfl rfl ?_
    refine WXL.miss (j := 5) (d := 10) rfl rfl rfl ?_
    refine WXL.miss (j := 5) (d := 10) rfl rfl rfl ?_
    refine WXL.miss (j := 5) (d := 10) rfl rfl rfl ?_
    refine WXL.pick_f Met.none rfl rfl ?_
    refine WXL.assign Met.none rfl ?_
    refine WXL.nil ?_
    refine Fin.then_normal ?_
    refine WX.ret ?_
    first
    | exact Fin.result (O' := O) (.inr rfl) rfl rfl drop_ ⟨_, rfl, by rw [prefix_dec, decide_eq_true (show m.length ≤ l.length by omega), Bool.true_and], rfl⟩
    | exact Fin.result (O' := O) (.inr rfl) rfl rfl drop_ ⟨_, rfl, by rw [prefix_dec, decide_eq_false (show ¬ m.length ≤ l.length by omega), Bool.false_and], rfl⟩

end Go.Proofs.Ythekokdpplobhaa.Eng

set_option linter.unusedVariables false
set_option linter.unusedSimpArgs false
namespace Go.Proofs.Ythekokdpplobhaa.Eng

/-- The records at the beginning, and where each of them ends. -/
def recsP (b : List Int) : List (List Int) := (scanP 0 b).1
def endP (b : List Int) (k : Nat) : Nat := (framesB 0 ((recsP b).take k)).length

theorem drop_cons_nth' {l : List (List Int)} {k : Nat} (h : k < l.length) : l.drop k = nth l k :: l.drop (k + 1) := by
  rw [nth_get h, List.drop_eq_getElem_cons h]

theorem framesB_append (l m : List (List Int)) : ∀ i, framesB i (l ++ m) = framesB i l ++ framesB (i + l.length) m := by
  induction l with
  | nil => intro i; rfl
  | cons x l ih =>
    intro i
    rw [List.cons_append, framesB_cons, framesB_cons, ih, List.append_assoc, List.length_cons]
    congr 3
    omega

theorem scanP_step (i : Nat) (b : List Int) : (scanP i b).1 = [] ∨ (b ≠ [] ∧ frameB i (recordP b) <+: b ∧ (scanP i b).1 = recordP b :: (scanP (i + 1) (b.drop (frameB i (recordP b)).length)).1) := by
  rw [scanP]
  split
  · rename_i h; exact .inr ⟨h.1, h.2, rfl⟩
  · exact .inl rfl

theorem scanP_len (b : List Int) (i : Nat) : (scanP i b).2 = (framesB i (scanP i b).1).length ∧ framesB i (scanP i b).1 <+: b := by
  rw [scanP]
  split
  · rename_i h
    have hlt : (b.drop (frameB i (recordP b)).length).length < b.length := by
      have := frameB_pos i (recordP b)
      have : 0 < b.length := List.length_pos_iff.2 h.1
      rw [List.length_drop]; omega
    obtain ⟨h1, h2⟩ := scanP_len (b.drop (frameB i (recordP b)).length) (i + 1)
    rw [framesB_cons, List.length_append, h1]
    refine ⟨rfl, ?_⟩
    obtain ⟨t1, e1⟩ := h.2
    obtain ⟨t2, e2⟩ := h2
    refine ⟨t2, ?_⟩
    rw [List.append_assoc, e2]
    conv => rhs; rw [← List.take_append_drop (frameB i (recordP b)).length b]
    rw [← List.prefix_iff_eq_take.1 h.2]
  · exact ⟨rfl, List.nil_prefix⟩
termination_by b.length
decreasing_by
  simpa only [List.length_drop] using hlt

theorem endP_le (b : List Int) (k : Nat) : endP b k ≤ b.length := by
  have h := (scanP_len b 0).2
  have : framesB 0 (recsP b) = framesB 0 ((recsP b).take k) ++ framesB (0 + ((recsP b).take k).length) ((recsP b).drop k) := by rw [← framesB_append, List.take_append_drop]
  have h2 := h.length_le
  change (framesB 0 (recsP b)).length ≤ _ at h2
  rw [this, List.length_append] at h2
  unfold endP
  omega

theorem endP_succ (b : List Int) (k : Nat) (hk : k < (recsP b).length) : endP b (k + 1) = endP b k + (frameB k (nth (recsP b) k)).length := by
  unfold endP
  rw [take_succ_nth hk, framesB_append, List.length_append, List.length_take, Nat.zero_add, Nat.min_eq_left (by omega), framesB_cons, List.length_append]
  rfl

theorem scanP_at (b : List Int) : ∀ k, k ≤ (recsP b).length → (recsP b).drop k = (scanP k (b.drop (endP b k))).1 := by
  intro k
  induction k with
  | zero => intro _; rfl
  | succ k ih =>
    intro hk
    have h1 := ih (by omega)
    rcases scanP_step k (b.drop (endP b k)) with h2 | ⟨h2, h3, h4⟩
    · rw [h2] at h1
      have := congrArg List.length h1
      rw [List.length_drop] at this
      simp at this
      omega
    · rw [h4, drop_cons_nth' (by omega)] at h1
      injection h1 with h5 h6
      rw [h6, List.drop_drop, endP_succ b k (by omega), h5]

end Go.Proofs.Ythekokdpplobhaa.Eng

set_option linter.unusedVariables false
set_option linter.unusedSimpArgs false
namespace Go.Proofs.Ythekokdpplobhaa.Eng

/-- What is yielded: a record in a new row, and where its frame ends. -/
def RecArg (b : List Int) (k : Nat) (vs : List Value) (N : Objs) : Prop :=
  ∃ a c, vs = [.slice a (nth (recsP b) k).length c, I (endP b (k + 1) : Nat)] ∧ Grow 1 a (nth (recsP b) k).length c ((nth (recsP b) k).map B8) N

theorem frameB_bytes {n : Int} {b : List Int} (h : Bytes b) : Bytes (frameB n b) := fun x hx => by
  rcases List.mem_append.1 hx with q | q
  · exact rawB_bytes (coreB_bytes h) x q
  · exact varU_bytes _ x q

theorem framesB_len : ∀ (l : List (List Int)) (i : Nat), l.length ≤ (framesB i l).length
  | [], i => Nat.le_refl _
  | x :: l, i => by
    have := framesB_len l (i + 1)
    have := frameB_pos i x
    rw [framesB_cons, List.length_append, List.length_cons]
    omega

theorem recsP_len (b : List Int) : (recsP b).length ≤ b.length := Nat.le_trans (framesB_len _ 0) (scanP_len b 0).2.length_le

theorem records_iter {β : Type} (OI : β → Objs) (Inv : Nat → β → Prop) (ρ : Rho) (y : Nat) (b : List Int) (hB : Bytes b) (cb : Nat) (a : Option Addr) (c : Nat) (hlen : b.length ≤ 100000)
    (hbox : ∀ x, Knows (OI x) cb ⟨0, false, [.slice a b.length c]⟩) (hr : ∀ x, Rowy (OI x) 1 a b.length (b.map B8)) (hc : a = none → c = 0) (x0 : β) (hI0 : Inv 0 x0)
    (hy : ∀ k x vs N, k < (recsP b).length → Inv k x → RecArg b k vs N → SpecY Try.prog ρ y vs (N ++ OI x) fun O' => ∃ x', Inv (k + 1) x' ∧ O' = OI x') :
    SpecIn Try.prog ρ false 65 #[Yd y, Ptr cb 0] (OI x0) fun v O' => ∃ x', Inv (recsP b).length x' ∧ O' = OI x' := by
  have hend := endP_le b
  have hrl := recsP_len b
  refine SpecIn.enter (args := [_, _]) (m := 35) Try.func65 rfl rfl (by decide +kernel) fun h0 => ?_
  refine WX.seq ?_
  refine WX.region rfl ?_
  refine WXL.assign Met.none rfl ?_
  refine WXL.nil ?_
  refine Fin.then_normal ?_
  refine WX.seq ?_
  refine WX.region rfl ?_
  refine WXL.assign Met.none rfl ?_
  refine WXL.nil ?_
  refine Fin.then_normal ?_
  refine WX.block ?_
  refine WX.loop (fun q : Nat × β => [(0, Yd y), (1, Ptr cb 0), (3, I (endP b q.1 : Nat)), (4, I (q.1 : Int))]) (fun q => OI q.2) (fun q => q.1 ≤ (recsP b).length ∧ Inv q.1 q.2) (fun q => (recsP b).length - q.1) (0, x0) ⟨Nat.zero_le _, hI0⟩ (fun s hs => hs.tl [] 0) (fun q hq => ?_)
  obtain ⟨k, x⟩ := q
  obtain ⟨hk, hI⟩ := hq
  simp only at hk hI
  dsimp only
  have hb1 := hbox x
  have hr1 := hr x
  have hek := hend k
  have hat := scanP_at b k hk
  refine WX.seq ?_
  refine WX.seq ?_
  refine WX.region rfl ?_
  refine WXL.move Met.none rfl ?_
  first | refine WXL.ld Met.none rfl agg23 ?_ | refine WXL.ldS Met.none rfl agg23 ?_
  refine WXL.len Met.none rfl Try.underlying23 ?_
  refine WXL.bin Met.none rfl rfl rfl ?_
  refine WXL.nil ?_
  refine Fin.then_normal ?_
  refine WX.cond rfl (fun hc0 => ?_) (fun hc0 => ?_)
  · try simp only [cnd] at hc0
    refine WX.skip ?_
    refine Fin.then_normal ?_
    refine WX.seq ?_
    refine WX.block ?_
    refine WX.seq ?_
    obtain ⟨bb, off, ⟨qsz, qro, qc⟩, rfl, hkq, hqs⟩ := hr1.some (by omega)
    have hqs : qsz = 1 := hqs
    subst hqs
    have hr2 := hr1.suf (m := endP b k) hek
    obtain ⟨t, ht⟩ : ∃ t, t = b.drop (endP b k) := ⟨_, rfl⟩
    rw [← List.map_drop, ← ht] at hr2
    rw [← ht] at hat
    have htl : t.length = b.length - endP b k := by rw [ht, List.length_drop]
    have htB : Bytes t := fun z hz => hB z (List.mem_of_mem_drop (ht ▸ hz))
    obtain ⟨f1, f2⟩ := recordP_facts t
    have htn : t ≠ [] := fun q => by rw [q] at htl; simp at htl; omega
    refine WX.region rfl ?_
    first | refine WXL.ld Met.none rfl agg23 ?_ | refine WXL.ldS Met.none rfl agg23 ?_
    refine WXL.move Met.none rfl ?_
    refine WXL.suf (cs := []) (m := (endP b k)) Met.none rfl rfl elem23 sz5 rfl hkq rfl ?_
    refine WXL.cl (O1 := _) Met.none rfl (fnOk_of Try.func66 (by decide +kernel)) rfl (fun _ h => h) ((by
    have := record_ok (OI x) t (some ⟨bb, off + endP b k * 1, none⟩) (b.length - endP b k) htB (by omega) (by rw [htl]; exact hr2) (fun q => by cases q)
    rw [htl] at this
    exact this)) (fun v O' hp => ?_)
    obtain ⟨a5, c5, G5, rfl, hG5, rfl⟩ := hp
    refine WXL.assign Met.none rfl ?_
    refine WXL.nil ?_
    refine Fin.then_normal ?_
    refine WX.seq ?_
    refine WX.region rfl ?_
    refine WXL.move Met.none rfl ?_
    refine WXL.move Met.none rfl ?_
    refine WXL.cl (O1 := _) Met.none rfl (fnOk_of Try.func12 (by decide +kernel)) rfl (fun _ h => h) (frame_ok _ (k : Int) (recordP t) a5 c5 (by unfold In64; omega) (f2 htB) (by omega) hG5.src) (fun v O' hp => ?_)
    obtain ⟨a6, c6, G6, rfl, hG6, rfl⟩ := hp
    refine WXL.assign Met.none rfl ?_
    refine WXL.nil ?_
    refine Fin.then_normal ?_
    refine WX.seq ?_
    refine WX.seq ?_
    refine WX.region rfl ?_
    first | refine WXL.ld Met.none rfl agg23 ?_ (hk := hb1.app.app) | refine WXL.ldS Met.none rfl agg23 ?_
    refine WXL.move Met.none rfl ?_
    refine WXL.suf (cs := []) (m := (endP b k)) Met.none rfl rfl elem23 sz5 rfl hkq.app.app rfl ?_
    refine WXL.move Met.none rfl ?_
    refine WXL.cl (O1 := _) Met.none rfl (fnOk_of Try.func67 (by decide +kernel)) rfl (fun _ h => h) ((by
    have := hasPrefix_ok (G6 ++ (G5 ++ OI x)) t (frameB k (recordP t)) (some ⟨bb, off + endP b k * 1, none⟩) a6 (b.length - endP b k) c6 htB (frameB_bytes (f2 htB)) (by rw [htl]; exact hr2.app.app) (fun q => by cases q) hG6.src
    rw [htl] at this
    exact this)) (fun v O' hp => ?_)
    obtain ⟨bx, rfl, hbx, rfl⟩ := hp
    refine WXL.not Met.none rfl ?_
    refine WXL.nil ?_
    refine Fin.then_normal ?_
    try simp only [Bool.not_eq_true']
    refine WX.cond rfl (fun hc1 => ?_) (fun hc1 => ?_)
    · try simp only [cnd] at hc1
      refine WX.ret ?_
      refine Fin.then_ret ?_
      refine Fin.block_ret ?_
      refine Fin.then_ret ?_
      refine Fin.loop_ret ?_
      refine Fin.block_ret ?_
      first
      | (have hkk : k = (recsP b).length := by
           have hd : b.drop (endP b k) = [] := List.drop_eq_nil_of_le (by omega)
           rw [hd, scanP, dif_neg (fun q => q.1 rfl)] at hat
           have := congrArg List.length hat
           rw [List.length_drop, List.length_nil] at this
           omega
         subst hkk
         exact Fin.result (O' := OI x) (.inl rfl) rfl rfl (fun _ h => h) ⟨x, hI, rfl⟩)
      | (have hkk : k = (recsP b).length := by
           rw [hc1] at hbx
           have hnp := of_decide_eq_false hbx.symm
           rw [scanP, dif_neg (fun q => hnp q.2)] at hat
           have := congrArg List.length hat
           rw [List.length_drop, List.length_nil] at this
           omega
         subst hkk
         exact Fin.result (O' := OI x) (.inr rfl) rfl rfl sub_ ⟨x, hI, rfl⟩)
    · try simp only [cnd] at hc1
      refine WX.skip ?_
      refine Fin.then_normal ?_
      refine WX.seq ?_
      have hpf : frameB k (recordP t) <+: t := by
        rw [hc1] at hbx
        exact of_decide_eq_true hbx.symm
      have hst : (recsP b).drop k = recordP t :: (scanP (k + 1) (t.drop (frameB k (recordP t)).length)).1 := by
        rw [hat, scanP, dif_pos ⟨htn, hpf⟩]
      have hk1 : k < (recsP b).length := by
        have := congrArg List.length hst
        rw [List.length_drop, List.length_cons] at this
        omega
      have hnth : nth (recsP b) k = recordP t := by
        rw [drop_cons_nth' hk1] at hst
        injection hst
      have hes : endP b (k + 1) = endP b k + (frameB k (recordP t)).length := by rw [endP_succ b k hk1, hnth]
      have hek1 := hend (k + 1)
      refine WX.region rfl ?_
      refine WXL.move Met.none rfl ?_
      refine WXL.move Met.none rfl ?_
      refine WXL.len Met.none rfl Try.underlying23 ?_
      refine WXL.bin Met.none rfl rfl (show _ = some (I (endP b (k + 1) : Nat)) from (binV_add (by omega) (by omega)).trans (congrArg (fun n => some (I n)) (by omega))) ?_
      refine WXL.assign Met.none rfl ?_
      refine WXL.nil ?_
      refine Fin.then_normal ?_
      refine WX.seq ?_
      refine WX.region rfl ?_
      refine WXL.move Met.none rfl ?_
      refine WXL.move Met.none rfl ?_
      refine WXL.move Met.none rfl ?_
      refine WXL.yield (O1 := G5 ++ OI x) Met.none rfl rfl sub_ rfl rfl rfl rfl (hy k x _ G5 hk1 hI ⟨a5, c5, by rw [hnth], by rw [hnth]; exact hG5⟩) (fun O' hp => ?_)
      obtain ⟨x', hI', rfl⟩ := hp
      refine WXL.not Met.none rfl ?_
      refine WXL.nil ?_
      refine Fin.then_normal ?_
      refine WX.cond rfl (fun hc2 => nomatch hc2) (fun hc2 => ?_)
      refine WX.skip ?_
      refine Fin.block_normal ?_
      refine Fin.then_normal ?_
      refine WX.region rfl ?_
      refine WXL.move Met.none rfl ?_
      refine WXL.bin Met.none rfl rfl bvA ?_
      refine WXL.assign Met.none rfl ?_
      refine WXL.nil ?_
      exact Fin.loop_next (k + 1, x') ⟨by simp only; omega, hI'⟩ (by simp only; omega) (fun s hs => hs.tl [] 0)
  · try simp only [cnd] at hc0
    refine WX.exit ?_
    refine Fin.then_exit ?_
    refine Fin.loop_exit ?_
    refine Fin.block_hit rfl ?_
    first
    | (have hkk : k = (recsP b).length := by
         have hd : b.drop (endP b k) = [] := List.drop_eq_nil_of_le (by omega)
         rw [hd, scanP, dif_neg (fun q => q.1 rfl)] at hat
         have := congrArg List.length hat
         rw [List.length_drop, List.length_nil] at this
         omega
       subst hkk
       exact Fin.result (O' := OI x) (.inl rfl) rfl rfl (fun _ h => h) ⟨x, hI, rfl⟩)
    | (have hkk : k = (recsP b).length := by
         rw [hc1] at hbx
         have hnp := of_decide_eq_false hbx.symm
         rw [scanP, dif_neg (fun q => hnp q.2)] at hat
         have := congrArg List.length hat
         rw [List.length_drop, List.length_nil] at this
         omega
       subst hkk
       exact Fin.result (O' := OI x) (.inr rfl) rfl rfl sub_ ⟨x, hI, rfl⟩)

end Go.Proofs.Ythekokdpplobhaa.Eng

set_option linter.unusedVariables false
set_option linter.unusedSimpArgs false
namespace Go.Proofs.Ythekokdpplobhaa.Eng

/-- A value is a slice of these bytes. -/
def IsB (O : Objs) (v : Value) (x : List Int) : Prop := ∃ a c, v = .slice a x.length c ∧ Src O 1 v x.length (x.map B8)
/-- Slices of bytes, one for each list. -/
def AreB (O : Objs) (vs : List Value) (xs : List (List Int)) : Prop := vs.length = xs.length ∧ ∀ k, k < xs.length → IsB O (nth vs k) (nth xs k)

theorem IsB.cons {O : Objs} {q : Nat × Ent} {v : Value} {x : List Int} (h : IsB O v x) : IsB (q :: O) v x := by
  obtain ⟨a, c, h1, h2⟩ := h
  exact ⟨a, c, h1, h2.cons⟩
theorem IsB.app {O N : Objs} {v : Value} {x : List Int} (h : IsB O v x) : IsB (N ++ O) v x := by
  obtain ⟨a, c, h1, h2⟩ := h
  exact ⟨a, c, h1, h2.app⟩
theorem AreB.cons {O : Objs} {q : Nat × Ent} {vs : List Value} {xs : List (List Int)} (h : AreB O vs xs) : AreB (q :: O) vs xs := ⟨h.1, fun k hk => (h.2 k hk).cons⟩
theorem AreB.app {O N : Objs} {vs : List Value} {xs : List (List Int)} (h : AreB O vs xs) : AreB (N ++ O) vs xs := ⟨h.1, fun k hk => (h.2 k hk).app⟩
theorem AreB.nil {O : Objs} : AreB O [] [] := ⟨rfl, fun k hk => by simp at hk⟩
theorem nth_snoc {α : Type} [Inhabited α] (l : List α) (x : α) (k : Nat) : nth (l ++ [x]) k = if k < l.length then nth l k else if k = l.length then x else default := by
  unfold nth
  split
  · rename_i h; simp [List.getElem?_append_left h, List.getD_eq_getElem?_getD]
  · rename_i h
    split
    · rename_i h2; subst h2; simp [List.getD_eq_getElem?_getD]
    · simp [List.getD_eq_getElem?_getD, List.getElem?_eq_none (show (l ++ [x]).length ≤ k by simp; omega)]
theorem AreB.snoc {O : Objs} {vs : List Value} {xs : List (List Int)} {v : Value} {x : List Int} (h : AreB O vs xs) (hv : IsB O v x) : AreB O (vs ++ [v]) (xs ++ [x]) := by
  obtain ⟨h1, h2⟩ := h
  refine ⟨by simp [h1], fun k hk => ?_⟩
  rw [nth_snoc, nth_snoc, h1]
  rw [List.length_append, List.length_singleton] at hk
  split
  · exact h2 k (by assumption)
  · rw [if_pos (by omega), if_pos (by omega)]; exact hv

theorem scan2 (b : List Int) : (scanP 0 b).2 = endP b (recsP b).length := by
  unfold endP
  rw [List.take_length]
  exact (scanP_len b 0).1

/-- The state of the loop: out, and the objects that came. -/
structure ScQ where
  k : Nat
  a : Option Addr
  c : Nat
  vs : List Value
  G : Objs
  R : Objs

theorem records_ok (O : Objs) (a : Option Addr) (n c : Nat) :
    Spec Try.prog false 42 #[.slice a n c] O fun v O' => ∃ cb, v = .func (.func 65) #[] #[Ptr cb 0] ∧ O' = (cb, ⟨0, false, [.slice a n c]⟩) :: O := by
  refine Spec.enter (args := [_]) (m := 4) Try.func42 rfl rfl (by decide +kernel) fun h0 => ?_
  refine WX.seq ?_
  refine WX.region rfl ?_
  refine WXL.box (c := [_]) Met.none rfl rfl rfl (fun b1 => ?_)
  refine WXL.assign Met.none rfl ?_
  refine WXL.nil ?_
  refine Fin.then_normal ?_
  refine WX.seq ?_
  refine WX.region rfl ?_
  refine WXL.makeFunc Met.none rfl rfl ?_
  refine WXL.assign Met.none rfl ?_
  refine WXL.nil ?_
  refine Fin.then_normal ?_
  refine WX.ret ?_
  exact Fin.result (O' := (b1, ⟨0, false, [.slice a n c]⟩) :: O) (.inr rfl) rfl rfl drop_ ⟨b1, rfl, rfl⟩

theorem Sat.app_left {h : AHeap} {N O : Objs} (hs : Sat h (N ++ O)) : Sat h N :=
  ⟨by
    have := hs.nd
    rw [List.map_append, List.nodup_append] at this
    exact this.1, fun p hp => hs.is p (List.mem_append_left _ hp), hs.wf⟩
theorem Src.right {N O : Objs} {sz n : Nat} {v : Value} {cs : List Value} (h : Src N sz v n cs) : Src (N ++ O) sz v n cs := fun g hg => h g hg.app_left
theorem AreB.right {N O : Objs} {vs : List Value} {xs : List (List Int)} (h : AreB N vs xs) : AreB (N ++ O) vs xs := ⟨h.1, fun k hk => by
  obtain ⟨a, c, h1, h2⟩ := h.2 k hk
  exact ⟨a, c, h1, h2.right⟩⟩

theorem scan_own (O : Objs) (b : List Int) (a : Option Addr) (c : Nat) (hB : Bytes b) (hlen : b.length ≤ 100000) (hr : Rowy O 1 a b.length (b.map B8)) (hc : a = none → c = 0) :
    Spec Try.prog false 15 #[.slice a b.length c] O fun v O' => ∃ ao co vs G R, v = .tuple #[.slice ao (recsP b).length co, I (endP b (recsP b).length : Nat)] ∧ Grow 1 ao (recsP b).length co vs G ∧ AreB R vs (recsP b) ∧ O' = G ++ (R ++ O) := by
  have hrl := recsP_len b
  refine Spec.enter (args := [_]) (m := 19) Try.func15 rfl rfl (by decide +kernel) fun h0 => ?_
  refine WX.seq ?_
  refine WX.region rfl ?_
  refine WXL.assign Met.none rfl ?_
  refine WXL.assign Met.none rfl ?_
  refine WXL.nil ?_
  refine Fin.then_normal ?_
  refine WX.seq ?_
  refine WX.region rfl ?_
  refine WXL.alloc (c := [_]) Met.none zero27 rfl (fun b4 => ?_)
  refine WXL.nil ?_
  refine Fin.then_normal ?_
  refine WX.seq ?_
  refine WX.region rfl ?_
  refine WXL.alloc (c := [_]) Met.none zero3 rfl (fun b5 => ?_)
  refine WXL.st (vs := [_]) (c' := [_]) Met.none rfl rfl rfl sz3 ?_
  refine WXL.nil ?_
  refine Fin.then_normal ?_
  refine WX.seq ?_
  refine WX.seq ?_
  refine WX.region rfl ?_
  refine WXL.move Met.none rfl ?_
  refine WXL.cl (O1 := _) Met.none rfl (fnOk_of Try.func42 (by decide +kernel)) rfl (fun _ h => h) (records_ok _ a b.length c) (fun v O' hp => ?_)
  obtain ⟨cb, rfl, rfl⟩ := hp
  refine WXL.nil ?_
  refine Fin.then_normal ?_
  refine WX.block ?_
  refine WX.rangeFuncA (fun q : ScQ => (cb, ⟨0, false, [.slice a b.length c]⟩) :: (b5, ⟨0, false, [I (endP b q.k : Nat)]⟩) :: (b4, ⟨0, false, [.slice q.a q.k q.c]⟩) :: (q.G ++ (q.R ++ O))) (fun k q => q.k = k ∧ Grow 1 q.a q.k q.c q.vs q.G ∧ AreB q.R q.vs ((recsP b).take k)) (fun k _ vs N => RecArg b k vs N) (recsP b).length ⟨0, none, 0, [], [], []⟩ ⟨rfl, rfl⟩ rfl (fnOk_of Try.func65 (by decide +kernel)) (fun s hs => hs.sat) rfl ⟨rfl, .nil, .nil⟩ (fun k y vs N hvs => by obtain ⟨a1, c1, h1, _⟩ := hvs; rw [h1]; rfl)
    (fun ρ y hy => records_iter (fun q : ScQ => (cb, ⟨0, false, [.slice a b.length c]⟩) :: (b5, ⟨0, false, [I (endP b q.k : Nat)]⟩) :: (b4, ⟨0, false, [.slice q.a q.k q.c]⟩) :: (q.G ++ (q.R ++ O))) (fun k q => q.k = k ∧ Grow 1 q.a q.k q.c q.vs q.G ∧ AreB q.R q.vs ((recsP b).take k)) ρ y b hB cb a c hlen (fun x => Knows.at 0 rfl) (fun x => hr.app.app.cons.cons.cons) hc ⟨0, none, 0, [], [], []⟩ ⟨rfl, .nil, .nil⟩ hy) (fun h0 ρ k q vs N hk hq hvs => ?_) (fun q hq => ?_)
  · refine WX.seq ?_
    refine WX.seq ?_
    obtain ⟨k', aw, cw, ws, Gw, R⟩ := q
    obtain ⟨hkk, hGw, hRw⟩ := hq
    simp only at hkk hGw hRw
    subst hkk
    obtain ⟨a1, c1, rfl, hN⟩ := hvs
    dsimp only
    refine WX.re (O' := (cb, ⟨0, false, [.slice a b.length c]⟩) :: (b5, ⟨0, false, [I (endP b k' : Nat)]⟩) :: (b4, ⟨0, false, [.slice aw k' cw]⟩) :: (Gw ++ (N ++ (R ++ O)))) ?_
    refine WX.region rfl ?_
    refine WXL.assign Met.none rfl ?_
    refine WXL.nil ?_
    refine Fin.then_normal ?_
    refine WX.region rfl ?_
    refine WXL.assign Met.none rfl ?_
    refine WXL.nil ?_
    refine Fin.then_normal ?_
    refine WX.block ?_
    refine WX.seq ?_
    refine WX.region rfl ?_
    first | refine WXL.ld Met.none rfl agg27 ?_ | refine WXL.ldS Met.none rfl agg27 ?_
    refine WXL.move Met.none rfl ?_
    refine WXL.buildSlice (c := [_]) Met.none rfl elem27 sz23 zero23 (by decide) (by decide) rfl rfl rfl rfl (fun b14 => ?_)
    refine WXL.apG [_, _, _, _] Met.none rfl rfl isrow27 elem27 sz23 by23 zero23 (Src.lit (cs := [_])) (fun a15 c15 G15 hG15 => ?_)
    refine WXL.st (vs := [_]) (c' := [_]) Met.none rfl rfl rfl sz27 ?_
    refine WXL.nil ?_
    refine Fin.then_normal ?_
    refine WX.region rfl ?_
    refine WXL.move Met.none rfl ?_
    refine WXL.st (vs := [_]) (c' := [_]) Met.none rfl rfl rfl sz3 ?_
    refine WXL.nil ?_
    refine Fin.block_normal ?_
    have hb : AreB (N ++ R) (ws ++ [.slice a1 (nth (recsP b) k').length c1]) ((recsP b).take (k' + 1)) := by
      rw [take_succ_nth hk]
      exact hRw.app.snoc ⟨a1, c1, rfl, hN.src⟩
    exact Fin.round (⟨k' + 1, a15, c15, ws ++ [.slice a1 (nth (recsP b) k').length c1], G15, N ++ R⟩ : ScQ) ⟨rfl, hG15, hb⟩ sub_
  · skip
    refine Fin.block_normal ?_
    refine Fin.then_normal ?_
    refine WX.seq ?_
    refine WX.draw rfl ?_
    first | refine WXL.ld Met.none rfl agg27 ?_ | refine WXL.ldS Met.none rfl agg27 ?_
    first | refine WXL.ld Met.none rfl agg3 ?_ | refine WXL.ldS Met.none rfl agg3 ?_
    refine WXL.assign Met.none rfl ?_
    refine WXL.assign Met.none rfl ?_
    refine WXL.nil ?_
    refine Fin.then_normal ?_
    refine WX.ret ?_
    obtain ⟨k', aw, cw, ws, Gw, R⟩ := q
    obtain ⟨hkk, hGw, hRw⟩ := hq
    simp only at hkk hGw hRw
    subst hkk
    rw [List.take_length] at hRw
    exact Fin.result (O' := Gw ++ (R ++ O)) (.inr rfl) rfl rfl sub_ ⟨aw, cw, ws, Gw, R, rfl, hGw, hRw, rfl⟩

theorem scan_ok (O : Objs) (b : List Int) (a : Option Addr) (c : Nat) (hB : Bytes b) (hlen : b.length ≤ 100000) (hr : Rowy O 1 a b.length (b.map B8)) (hc : a = none → c = 0) :
    Spec Try.prog false 15 #[.slice a b.length c] O fun v O' => ∃ ao co vs G R, v = .tuple #[.slice ao (recsP b).length co, I (endP b (recsP b).length : Nat)] ∧ Grow 1 ao (recsP b).length co vs G ∧ AreB (R ++ O) vs (recsP b) ∧ O' = G ++ (R ++ O) :=
  (scan_own O b a c hB hlen hr hc).mono fun v O' ⟨ao, co, vs, G, R, h1, h2, h3, h4⟩ => ⟨ao, co, vs, G, R, h1, h2, h3.right, h4⟩

end Go.Proofs.Ythekokdpplobhaa.Eng

set_option linter.unusedVariables false
set_option linter.unusedSimpArgs false
namespace Go.Proofs.Ythekokdpplobhaa.Eng

theorem leW_lt {l : List Int} {k : Nat} (h : Bytes l) (hl : l.length ≤ k) : 0 ≤ leW l ∧ leW l < 256 ^ k := by
  obtain ⟨h1, h2⟩ := leW_range h
  refine ⟨h1, Int.lt_of_lt_of_le h2 ?_⟩
  have := Nat.pow_le_pow_right (n := 256) (by decide) hl
  have e : ∀ n : Nat, (256 : Int) ^ n = ((256 ^ n : Nat) : Int) := fun n => by rw [Int.natCast_pow]; rfl
  rw [e, e]
  exact Int.ofNat_le.2 this

theorem refWords_ok (O : Objs) (b : List Int) (a : Option Addr) (c : Nat) (hB : Bytes b) (hlen : b.length ≤ 1000000000000) (hl : Src O 1 (.slice a b.length c) b.length (b.map B8)) :
    Spec Try.prog false 63 #[.slice a b.length c] O fun v O' => ∃ a' c' G, v = .slice a' (wordsOf b).length c' ∧ Grow 1 a' (wordsOf b).length c' ((wordsOf b).map U) G ∧ O' = G ++ O := by
  have hwl := wordsOf_len b
  refine Spec.enter (args := [_]) (m := 37) Try.func63 rfl rfl (by decide +kernel) fun h0 => ?_
  refine WX.seq ?_
  refine WX.region rfl ?_
  refine WXL.assign Met.none rfl ?_
  refine WXL.nil ?_
  refine Fin.then_normal ?_
  refine WX.seq ?_
  refine WX.region rfl ?_
  refine WXL.assign Met.none rfl ?_
  refine WXL.nil ?_
  refine Fin.then_normal ?_
  refine WX.seq ?_
  refine WX.seq ?_
  refine WX.region rfl ?_
  refine WXL.assign Met.none rfl ?_
  refine WXL.nil ?_
  refine Fin.then_normal ?_
  refine WX.block ?_
  refine WX.loop (fun q : Nat × Option Addr × Nat × Objs => [(0, .slice a b.length c), (3, .slice q.2.1 q.1 q.2.2.1), (4, I ((8 * q.1 : Nat) : Int))]) (fun q => q.2.2.2 ++ O) (fun q => q.1 ≤ (wordsOf b).length ∧ Grow 1 q.2.1 q.1 q.2.2.1 (((wordsOf b).take q.1).map U) q.2.2.2) (fun q => (wordsOf b).length - q.1) (0, none, 0, []) ⟨Nat.zero_le _, .nil⟩ (fun s hs => hs.tl [] 0) (fun q hq => ?_)
  obtain ⟨k, aw, cw, G⟩ := q
  obtain ⟨hk, hG⟩ := hq
  simp only at hk hG
  dsimp only
  refine WX.seq ?_
  refine WX.seq ?_
  refine WX.region rfl ?_
  refine WXL.move Met.none rfl ?_
  refine WXL.move Met.none rfl ?_
  refine WXL.len Met.none rfl Try.underlying23 ?_
  refine WXL.bin Met.none rfl rfl rfl ?_
  refine WXL.nil ?_
  refine Fin.then_normal ?_
  refine WX.cond rfl (fun hc0 => ?_) (fun hc0 => ?_)
  · try simp only [cnd] at hc0
    refine WX.skip ?_
    refine Fin.then_normal ?_
    refine WX.seq ?_
    refine WX.block ?_
    refine WX.seq ?_
    have hkl : 8 * k < b.length := by omega
    have hk1 : k < (wordsOf b).length := by omega
    obtain ⟨seg, hseg⟩ : ∃ seg, seg = (b.drop (8 * k)).take 8 := ⟨_, rfl⟩
    have hsl : seg.length = min 8 (b.length - 8 * k) := by rw [hseg, List.length_take, List.length_drop]
    have hsB : Bytes seg := fun z hz => hB z (List.mem_of_mem_drop (List.mem_of_mem_take (hseg ▸ hz)))
    have hw : nth (wordsOf b) k = leW seg := by rw [wordsOf_nth b k hkl, hseg]
    refine WX.region rfl ?_
    refine WXL.assign Met.none rfl ?_
    refine WXL.nil ?_
    refine Fin.then_normal ?_
    refine WX.seq ?_
    refine WX.seq ?_
    refine WX.region rfl ?_
    refine WXL.move Met.none rfl ?_
    refine WXL.bin Met.none rfl rfl bvA ?_
    refine WXL.move Met.none rfl ?_
    refine WXL.len Met.none rfl Try.underlying23 ?_
    refine WXL.min Met.none rfl rfl ?_
    refine WXL.bin Met.none rfl rfl bvS ?_
    refine WXL.assign Met.none rfl ?_
    refine WXL.nil ?_
    refine Fin.then_normal ?_
    refine WX.block ?_
    refine WX.loop (fun j : Nat => [(0, .slice a b.length c), (3, .slice aw k cw), (4, I ((8 * k : Nat) : Int)), (5, U (leW (seg.drop j))), (6, I (((8 * k + j : Nat) : Int) - 1))]) (fun _ => G ++ O) (fun j => j ≤ seg.length) (fun j => j) seg.length (Nat.le_refl _) ?_ (fun j hj => ?_)
    · rw [List.drop_length, show (((8 * k + seg.length : Nat) : Int) - 1) = min (((8 * k : Nat) : Int) + 8) (b.length : Int) - 1 from by omega]
      exact (fun s hs => hs.tl [] 0)
    refine WX.seq ?_
    refine WX.seq ?_
    refine WX.region rfl ?_
    refine WXL.move Met.none rfl ?_
    refine WXL.move Met.none rfl ?_
    refine WXL.bin Met.none rfl rfl rfl ?_
    refine WXL.nil ?_
    refine Fin.then_normal ?_
    refine WX.cond rfl (fun hc1 => ?_) (fun hc1 => ?_)
    · try simp only [cnd] at hc1
      refine WX.skip ?_
      refine Fin.then_normal ?_
      refine WX.seq ?_
      refine WX.block ?_
      obtain ⟨j', rfl⟩ : ∃ j', j = j' + 1 := ⟨j - 1, by omega⟩
      rw [show (((8 * k + (j' + 1) : Nat) : Int) - 1) = ((8 * k + j' : Nat) : Int) from by omega]
      have hjl : 8 * k + j' < b.length := by omega
      have hbj := hB _ (nth_mem hjl)
      have hd : seg.drop j' = nth b (8 * k + j') :: seg.drop (j' + 1) := by
        rw [List.drop_eq_getElem_cons (show j' < seg.length by omega)]
        congr 1
        rw [nth_get hjl]
        simp [hseg]
      have hr7 := leW_lt (k := 7) (l := seg.drop (j' + 1)) (fun z hz => hsB z (List.mem_of_mem_drop hz)) (by rw [List.length_drop]; omega)
      have hnx : leW (seg.drop j') = nth b (8 * k + j') + 256 * leW (seg.drop (j' + 1)) := by rw [hd]; rfl
      refine WX.region rfl ?_
      refine WXL.move Met.none rfl ?_
      refine WXL.bin Met.none rfl rfl (congrArg (fun n => some (U n)) (wrap_u64 (by omega) (by omega))) ?_
      refine WXL.move Met.none rfl ?_
      refine WXL.move Met.none rfl ?_
      first | refine WXL.ix Met.none rfl rfl elem23 sz5 ?_ | refine WXL.ixS Met.none rfl rfl elem23 sz5 ?_
      first | refine WXL.ld Met.none rfl agg5 ?_ | refine WXL.ldS Met.none rfl agg5 ?_
      refine WXL.conv Met.none rfl Try.underlying5 Try.underlying42 cv_ ?_
      refine WXL.bin Met.none rfl rfl (show _ = some (U (leW (seg.drop j'))) from congrArg (fun n => some (U n)) ((wrap_u64 (by omega) (by omega)).trans (by omega))) ?_
      refine WXL.assign Met.none rfl ?_
      refine WXL.nil ?_
      refine Fin.block_normal ?_
      refine Fin.then_normal ?_
      refine WX.region rfl ?_
      refine WXL.move Met.none rfl ?_
      refine WXL.bin Met.none rfl rfl bvS ?_
      refine WXL.assign Met.none rfl ?_
      refine WXL.nil ?_
      exact Fin.loop_next j' (by omega) (by omega) (fun s hs => hs.tl [] 0)
    · try simp only [cnd] at hc1
      refine WX.exit ?_
      refine Fin.then_exit ?_
      refine Fin.loop_exit ?_
      refine Fin.block_hit rfl ?_
      refine Fin.then_normal ?_
      have hj0 : j = 0 := by omega
      subst hj0
      rw [List.drop_zero, ← hw]
      refine WX.region rfl ?_
      refine WXL.move Met.none rfl ?_
      refine WXL.move Met.none rfl ?_
      refine WXL.buildSlice (c := [_]) Met.none rfl elem101 sz42 zero42 (by decide) (by decide) rfl rfl rfl rfl (fun b34 => ?_)
      refine WXL.apG [_] Met.none rfl rfl isrow101 elem101 sz42 by42 zero42 (Src.lit (cs := [_])) (fun a35 c35 G35 hG35 => ?_)
      refine WXL.assign Met.none rfl ?_
      refine WXL.nil ?_
      refine Fin.block_normal ?_
      refine Fin.then_normal ?_
      refine WX.region rfl ?_
      refine WXL.move Met.none rfl ?_
      refine WXL.bin Met.none rfl rfl bvA ?_
      refine WXL.assign Met.none rfl ?_
      refine WXL.nil ?_
      refine Fin.loop_next (k + 1, a35, c35, G35) ⟨by simp only; omega, ?_⟩ (by simp only; omega) (fun s hs => hs.tl [] 1)
      rw [take_succ_nth hk1, List.map_append]
      exact hG35
  · try simp only [cnd] at hc0
    refine WX.exit ?_
    refine Fin.then_exit ?_
    refine Fin.loop_exit ?_
    refine Fin.block_hit rfl ?_
    refine Fin.then_normal ?_
    refine WX.seq ?_
    refine WX.region rfl ?_
    refine WXL.move Met.none rfl ?_
    refine WXL.assign Met.none rfl ?_
    refine WXL.nil ?_
    refine Fin.then_normal ?_
    refine WX.ret ?_
    have hkk : k = (wordsOf b).length := by omega
    subst hkk
    rw [List.take_length] at hG
    exact Fin.result (O' := G ++ O) (.inr rfl) rfl rfl drop_ ⟨aw, cw, G, rfl, hG, rfl⟩

end Go.Proofs.Ythekokdpplobhaa.Eng

set_option linter.unusedVariables false
set_option linter.unusedSimpArgs false
namespace Go.Proofs.Ythekokdpplobhaa.Eng

theorem refSum_ok (O : Objs) (label l : List Int) (a : Option Addr) (c : Nat) (hB : Bytes label) (hll : label.length ≤ 1000000000000) (hlen : l.length ≤ 1000000000000) (hl : Src O 1 (.slice a l.length c) l.length (l.map I)) :
    Spec Try.prog false 64 #[.string (bstr label), .slice a l.length c] O fun v O' => v = U (sumU label l) ∧ O' = O := by
  have hwl := wordsOf_len label
  refine Spec.enter (args := [_, _]) (m := 49) Try.func64 rfl rfl (by decide +kernel) fun h0 => ?_
  refine WX.seq ?_
  refine WX.region rfl ?_
  refine WXL.assign Met.none rfl ?_
  refine WXL.nil ?_
  refine Fin.then_normal ?_
  refine WX.seq ?_
  refine WX.region rfl ?_
  refine WXL.assign Met.none rfl ?_
  refine WXL.nil ?_
  refine Fin.then_normal ?_
  refine WX.seq ?_
  refine WX.region rfl ?_
  refine WXL.move Met.none rfl ?_
  refine WXL.toBytes Met.none rfl Try.underlying9 Try.underlying23 Try.underlying5 (by assumption) (fun b10 => ?_)
  refine WXL.cl (O1 := _) Met.none rfl (fnOk_of Try.func63 (by decide +kernel)) rfl (fun _ h => h) (refWords_ok _ label _ _ hB hll ((Grow.row (sz := 1) (b := b10) (n := label.length) (c := label.length) (cs := label.map B8) (by simp)).src (R := O))) (fun v O' hp => ?_)
  obtain ⟨aw, cw, Gw, rfl, hGw, rfl⟩ := hp
  have hsw := hGw.src (R := (b10, ⟨1, false, label.map B8⟩) :: O)
  refine WXL.assign Met.none rfl ?_
  refine WXL.nil ?_
  refine Fin.then_normal ?_
  refine WX.seq ?_
  refine WX.seq ?_
  refine WX.region rfl ?_
  refine WXL.assign Met.none rfl ?_
  refine WXL.nil ?_
  refine Fin.then_normal ?_
  refine WX.block ?_
  refine WX.loop (fun k : Nat => [(0, .string (bstr label)), (1, .slice a l.length c), (5, U (((wordsOf label).take k).foldl mixU 0)), (6, .slice aw (wordsOf label).length cw), (7, I (k : Int))]) (fun _ => Gw ++ ((b10, ⟨1, false, label.map B8⟩) :: O)) (fun k => k ≤ (wordsOf label).length) (fun k => (wordsOf label).length - k) 0 (Nat.zero_le _) (fun s hs => hs.tl [] 0) (fun k hk => ?_)
  refine WX.seq ?_
  refine WX.seq ?_
  refine WX.region rfl ?_
  refine WXL.move Met.none rfl ?_
  refine WXL.move Met.none rfl ?_
  refine WXL.len Met.none rfl Try.underlying101 ?_
  refine WXL.bin Met.none rfl rfl rfl ?_
  refine WXL.nil ?_
  refine Fin.then_normal ?_
  refine WX.cond rfl (fun hc0 => ?_) (fun hc0 => ?_)
  · try simp only [cnd] at hc0
    refine WX.skip ?_
    refine Fin.then_normal ?_
    refine WX.seq ?_
    refine WX.block ?_
    refine WX.region rfl ?_
    refine WXL.move Met.none rfl ?_
    refine WXL.move Met.none rfl ?_
    refine WXL.move Met.none rfl ?_
    first | refine WXL.ix Met.none rfl rfl elem101 sz42 ?_ | refine WXL.ixS Met.none rfl rfl elem101 sz42 ?_
    first | refine WXL.ld Met.none rfl agg42 ?_ | refine WXL.ldS Met.none rfl agg42 ?_
    refine WXL.cl (O1 := _) Met.none rfl (fnOk_of Try.func76 (by decide +kernel)) rfl (fun _ h => h) (refMix_ok _ (((wordsOf label).take k).foldl mixU 0) (nth (wordsOf label) k)) (fun v O' hp => ?_)
    obtain ⟨rfl, hO⟩ := hp
    subst O'
    refine WXL.assign Met.none rfl ?_
    refine WXL.nil ?_
    refine Fin.block_normal ?_
    refine Fin.then_normal ?_
    refine WX.region rfl ?_
    refine WXL.move Met.none rfl ?_
    refine WXL.bin Met.none rfl rfl bvA ?_
    refine WXL.assign Met.none rfl ?_
    refine WXL.nil ?_
    refine Fin.loop_next (k + 1) (by omega) (by omega) ?_
    rw [take_succ_nth (by omega), List.foldl_append]
    exact (fun s hs => hs.tl [] 0)
  · try simp only [cnd] at hc0
    refine WX.exit ?_
    refine Fin.then_exit ?_
    refine Fin.loop_exit ?_
    refine Fin.block_hit rfl ?_
    refine Fin.then_normal ?_
    refine WX.seq ?_
    have hkw : k = (wordsOf label).length := by omega
    subst hkw
    rw [List.take_length]
    obtain ⟨s0, hs0⟩ : ∃ s0, s0 = mixU (mixU ((wordsOf label).foldl mixU 0) label.length) l.length := ⟨_, rfl⟩
    refine WX.region rfl ?_
    refine WXL.move Met.none rfl ?_
    refine WXL.move Met.none rfl ?_
    refine WXL.lenS Met.none rfl Try.underlying9 ?_
    rw [bstr_size]
    refine WXL.conv Met.none rfl Try.underlying3 Try.underlying42 cv_ ?_
    refine WXL.cl (O1 := _) Met.none rfl (fnOk_of Try.func76 (by decide +kernel)) rfl (fun _ h => h) (refMix_ok _ ((wordsOf label).foldl mixU 0) (label.length : Int)) (fun v O' hp => ?_)
    obtain ⟨rfl, hO⟩ := hp
    subst O'
    refine WXL.assign Met.none rfl ?_
    refine WXL.nil ?_
    refine Fin.then_normal ?_
    refine WX.seq ?_
    refine WX.region rfl ?_
    refine WXL.move Met.none rfl ?_
    refine WXL.move Met.none rfl ?_
    refine WXL.len Met.none rfl Try.underlying22 ?_
    refine WXL.conv Met.none rfl Try.underlying3 Try.underlying42 cv_ ?_
    refine WXL.cl (O1 := _) Met.none rfl (fnOk_of Try.func76 (by decide +kernel)) rfl (fun _ h => h) (refMix_ok _ (mixU ((wordsOf label).foldl mixU 0) label.length) (l.length : Int)) (fun v O' hp => ?_)
    obtain ⟨rfl, hO⟩ := hp
    subst O'
    refine WXL.assign Met.none rfl ?_
    refine WXL.nil ?_
    refine Fin.then_normal ?_
    refine WX.seq ?_
    refine WX.seq ?_
    refine WX.re (O' := O) ?_
    refine WX.region rfl ?_
    refine WXL.assign Met.none rfl ?_
    refine WXL.nil ?_
    refine Fin.then_normal ?_
    refine WX.block ?_
    refine WX.loop (fun k : Nat => [(1, .slice a l.length c), (5, U ((l.take k).foldl (fun s n => mixU s (IntKind.wrap .u64 n)) s0)), (8, I (k : Int))]) (fun _ => O) (fun k => k ≤ l.length) (fun k => l.length - k) 0 (Nat.zero_le _) ?_ (fun k hk => ?_)
    · rw [hs0]
      exact (fun s hs => hs.tl [] 0)
    refine WX.seq ?_
    refine WX.seq ?_
    refine WX.region rfl ?_
    refine WXL.move Met.none rfl ?_
    refine WXL.move Met.none rfl ?_
    refine WXL.len Met.none rfl Try.underlying22 ?_
    refine WXL.bin Met.none rfl rfl rfl ?_
    refine WXL.nil ?_
    refine Fin.then_normal ?_
    refine WX.cond rfl (fun hc1 => ?_) (fun hc1 => ?_)
    · try simp only [cnd] at hc1
      refine WX.skip ?_
      refine Fin.then_normal ?_
      refine WX.seq ?_
      refine WX.block ?_
      refine WX.region rfl ?_
      refine WXL.move Met.none rfl ?_
      refine WXL.move Met.none rfl ?_
      refine WXL.move Met.none rfl ?_
      first | refine WXL.ix Met.none rfl rfl elem22 sz3 ?_ | refine WXL.ixS Met.none rfl rfl elem22 sz3 ?_
      first | refine WXL.ld Met.none rfl agg3 ?_ | refine WXL.ldS Met.none rfl agg3 ?_
      refine WXL.conv Met.none rfl Try.underlying3 Try.underlying42 rfl ?_
      refine WXL.cl (O1 := _) Met.none rfl (fnOk_of Try.func76 (by decide +kernel)) rfl (fun _ h => h) (refMix_ok _ ((l.take k).foldl (fun s n => mixU s (IntKind.wrap .u64 n)) s0) (IntKind.wrap .u64 (nth l k))) (fun v O' hp => ?_)
      obtain ⟨rfl, hO⟩ := hp
      subst O'
      refine WXL.assign Met.none rfl ?_
      refine WXL.nil ?_
      refine Fin.block_normal ?_
      refine Fin.then_normal ?_
      refine WX.region rfl ?_
      refine WXL.move Met.none rfl ?_
      refine WXL.bin Met.none rfl rfl bvA ?_
      refine WXL.assign Met.none rfl ?_
      refine WXL.nil ?_
      refine Fin.loop_next (k + 1) (by omega) (by omega) ?_
      rw [take_succ_nth (by omega), List.foldl_append]
      exact (fun s hs => hs.tl [] 0)
    · try simp only [cnd] at hc1
      refine WX.exit ?_
      refine Fin.then_exit ?_
      refine Fin.loop_exit ?_
      refine Fin.block_hit rfl ?_
      refine Fin.then_normal ?_
      refine WX.seq ?_
      have hkl : k = l.length := by omega
      subst hkl
      rw [List.take_length]
      refine WX.region rfl ?_
      refine WXL.move Met.none rfl ?_
      refine WXL.cl (O1 := _) Met.none rfl (fnOk_of Try.func76 (by decide +kernel)) rfl (fun _ h => h) (refMix_ok _ (l.foldl (fun s n => mixU s (IntKind.wrap .u64 n)) s0) 0) (fun v O' hp => ?_)
      obtain ⟨rfl, hO⟩ := hp
      subst O'
      refine WXL.assign Met.none rfl ?_
      refine WXL.nil ?_
      refine Fin.then_normal ?_
      refine WX.ret ?_
      exact Fin.result (O' := O) (.inr rfl) rfl rfl drop_ ⟨by rw [hs0]; rfl, rfl⟩

end Go.Proofs.Ythekokdpplobhaa.Eng

set_option linter.unusedVariables false
set_option linter.unusedSimpArgs false
namespace Go.Proofs.Ythekokdpplobhaa.Eng

theorem refHash_ok (O : Objs) (label b : List Int) (a : Option Addr) (c : Nat) (hB : Bytes label) (hb : Bytes b) (hll : label.length ≤ 1000000000000) (hlen : b.length ≤ 1000000000000) (hl : Src O 1 (.slice a b.length c) b.length (b.map B8)) :
    Spec Try.prog false 41 #[.string (bstr label), .slice a b.length c] O fun v O' => v = U (hashB label b) ∧ O' = O := by
  have hwl := wordsOf_len b
  refine Spec.enter (args := [_, _]) (m := 31) Try.func41 rfl rfl (by decide +kernel) fun h0 => ?_
  refine WX.seq ?_
  refine WX.region rfl ?_
  refine WXL.assign Met.none rfl ?_
  refine WXL.nil ?_
  refine Fin.then_normal ?_
  refine WX.seq ?_
  refine WX.region rfl ?_
  refine WXL.move Met.none rfl ?_
  refine WXL.cl (O1 := _) Met.none rfl (fnOk_of Try.func63 (by decide +kernel)) rfl (fun _ h => h) (refWords_ok _ b _ _ hb hlen hl) (fun v O' hp => ?_)
  obtain ⟨aw, cw, Gw, rfl, hGw, rfl⟩ := hp
  refine WXL.assign Met.none rfl ?_
  refine WXL.nil ?_
  refine Fin.then_normal ?_
  refine WX.seq ?_
  refine WX.region rfl ?_
  refine WXL.assign Met.none rfl ?_
  refine WXL.nil ?_
  refine Fin.then_normal ?_
  refine WX.seq ?_
  refine WX.seq ?_
  refine WX.region rfl ?_
  refine WXL.assign Met.none rfl ?_
  refine WXL.nil ?_
  refine Fin.then_normal ?_
  refine WX.block ?_
  refine WX.loop (fun q : Nat × Option Addr × Nat × Objs => [(0, .string (bstr label)), (1, .slice a b.length c), (5, .slice aw (wordsOf b).length cw), (6, .slice q.2.1 q.1 q.2.2.1), (7, I (q.1 : Int))]) (fun q => q.2.2.2 ++ (Gw ++ O)) (fun q => q.1 ≤ (wordsOf b).length ∧ Grow 1 q.2.1 q.1 q.2.2.1 (((wordsOf b).take q.1).map fun w => I (asI w)) q.2.2.2) (fun q => (wordsOf b).length - q.1) (0, none, 0, []) ⟨Nat.zero_le _, .nil⟩ (fun s hs => hs.tl [] 0) (fun q hq => ?_)
  obtain ⟨k, al, cl, Gl⟩ := q
  obtain ⟨hk, hGl⟩ := hq
  simp only at hk hGl
  dsimp only
  have hsw : Src (Gl ++ (Gw ++ O)) 1 (.slice aw (wordsOf b).length cw) (wordsOf b).length ((wordsOf b).map U) := Src.app hGw.src
  refine WX.seq ?_
  refine WX.seq ?_
  refine WX.region rfl ?_
  refine WXL.move Met.none rfl ?_
  refine WXL.move Met.none rfl ?_
  refine WXL.len Met.none rfl Try.underlying101 ?_
  refine WXL.bin Met.none rfl rfl rfl ?_
  refine WXL.nil ?_
  refine Fin.then_normal ?_
  refine WX.cond rfl (fun hc0 => ?_) (fun hc0 => ?_)
  · try simp only [cnd] at hc0
    refine WX.skip ?_
    refine Fin.then_normal ?_
    refine WX.seq ?_
    refine WX.block ?_
    refine WX.region rfl ?_
    refine WXL.move Met.none rfl ?_
    refine WXL.move Met.none rfl ?_
    refine WXL.move Met.none rfl ?_
    first | refine WXL.ix Met.none rfl rfl elem101 sz42 ?_ | refine WXL.ixS Met.none rfl rfl elem101 sz42 ?_
    first | refine WXL.ld Met.none rfl agg42 ?_ | refine WXL.ldS Met.none rfl agg42 ?_
    refine WXL.conv Met.none rfl Try.underlying42 Try.underlying3 rfl ?_
    refine WXL.buildSlice (c := [_]) Met.none rfl elem22 sz3 zero3 (by decide) (by decide) rfl rfl rfl rfl (fun b22 => ?_)
    refine WXL.apG [_] Met.none rfl rfl isrow22 elem22 sz3 by3 zero3 (Src.lit (cs := [_])) (fun a23 c23 G23 hG23 => ?_)
    refine WXL.assign Met.none rfl ?_
    refine WXL.nil ?_
    refine Fin.block_normal ?_
    refine Fin.then_normal ?_
    refine WX.region rfl ?_
    refine WXL.move Met.none rfl ?_
    refine WXL.bin Met.none rfl rfl bvA ?_
    refine WXL.assign Met.none rfl ?_
    refine WXL.nil ?_
    refine Fin.loop_next (k + 1, a23, c23, G23) ⟨by simp only; omega, ?_⟩ (by simp only; omega) (fun s hs => hs.tl [] 1)
    rw [take_succ_nth (by omega), List.map_append]
    exact hG23
  · try simp only [cnd] at hc0
    refine WX.exit ?_
    refine Fin.then_exit ?_
    refine Fin.loop_exit ?_
    refine Fin.block_hit rfl ?_
    refine Fin.then_normal ?_
    refine WX.seq ?_
    have hkk : k = (wordsOf b).length := by omega
    subst hkk
    rw [List.take_length] at hGl
    refine WX.region rfl ?_
    refine WXL.move Met.none rfl ?_
    refine WXL.move Met.none rfl ?_
    refine WXL.move Met.none rfl ?_
    refine WXL.len Met.none rfl Try.underlying23 ?_
    refine WXL.buildSlice (c := [_]) Met.none rfl elem22 sz3 zero3 (by decide) (by decide) rfl rfl rfl rfl (fun b28 => ?_)
    refine WXL.apG [_] Met.none rfl rfl isrow22 elem22 sz3 by3 zero3 (Src.lit (cs := [_])) (fun a29 c29 G29 hG29 => ?_)
    rw [show (wordsOf b).length + 1 = ((wordsOf b).map asI ++ [(b.length : Int)]).length from by simp]
    refine WXL.cl (O1 := _) Met.none rfl (fnOk_of Try.func64 (by decide +kernel)) rfl (fun _ h => h) (refSum_ok _ label ((wordsOf b).map asI ++ [(b.length : Int)]) a29 c29 hB hll (by rw [List.length_append, List.length_map, List.length_singleton]; omega) (Src.cons (by have := hG29.src (R := Gw ++ O); simpa [Function.comp_def] using this))) (fun v O' hp => ?_)
    obtain ⟨rfl, hO⟩ := hp
    subst O'
    refine WXL.assign Met.none rfl ?_
    refine WXL.nil ?_
    refine Fin.then_normal ?_
    refine WX.ret ?_
    exact Fin.result (O' := O) (.inr rfl) rfl rfl sub_ ⟨rfl, rfl⟩

theorem refInt_ok (O : Objs) (n : Int) (hn : In64 n) :
    Spec Try.prog false 62 #[I n] O fun v O' => ∃ a c G, v = .slice a (varU (zigU n).toNat).length c ∧ Grow 1 a (varU (zigU n).toNat).length c ((varU (zigU n).toNat).map B8) G ∧ O' = G ++ O := by
  have hz := zigU_range hn
  have hz2 : U (zigU n) = U (((zigU n).toNat : Nat) : Int) := by unfold InU at hz; rw [Int.toNat_of_nonneg hz.1]
  unfold InU at hz
  refine Spec.enter (args := [_]) (m := 6) Try.func62 rfl rfl (by decide +kernel) fun h0 => ?_
  refine WX.seq ?_
  refine WX.region rfl ?_
  refine WXL.assign Met.none rfl ?_
  refine WXL.nil ?_
  refine Fin.then_normal ?_
  refine WX.seq ?_
  refine WX.region rfl ?_
  refine WXL.move Met.none rfl ?_
  refine WXL.cl (O1 := _) Met.none rfl (fnOk_of Try.func75 (by decide +kernel)) rfl (fun _ h => h) (refZig_ok _ n hn) (fun v O' hp => ?_)
  obtain ⟨rfl, hO⟩ := hp
  subst O'
  rw [hz2]
  refine WXL.cl (O1 := _) Met.none rfl (fnOk_of Try.func40 (by decide +kernel)) rfl (fun _ h => h) (refUint_ok _ (zigU n).toNat (by omega)) (fun v O' hp => ?_)
  obtain ⟨a, c, G, rfl, hG, rfl⟩ := hp
  refine WXL.assign Met.none rfl ?_
  refine WXL.nil ?_
  refine Fin.then_normal ?_
  refine WX.ret ?_
  exact Fin.result (O' := G ++ O) (.inr rfl) rfl rfl (fun _ hs => hs) ⟨a, c, G, rfl, hG, rfl⟩

theorem refRaw_ok (O : Objs) (s : List Int) (as_ : Option Addr) (cs : Nat) (hsl : s.length ≤ 1000000000) (hsrc : Src O 1 (.slice as_ s.length cs) s.length (s.map B8)) :
    Spec Try.prog false 39 #[.slice as_ s.length cs] O fun v O' => ∃ a c G, v = .slice a (rawB s).length c ∧ Grow 1 a (rawB s).length c ((rawB s).map B8) G ∧ O' = G ++ O := by
  have hlen : (varU s.length).length ≤ 10 := varU_len (k := 9) (by omega)
  refine Spec.enter (args := [_]) (m := 9) Try.func39 rfl rfl (by decide +kernel) fun h0 => ?_
  refine WX.seq ?_
  refine WX.region rfl ?_
  refine WXL.assign Met.none rfl ?_
  refine WXL.nil ?_
  refine Fin.then_normal ?_
  refine WX.seq ?_
  refine WX.region rfl ?_
  refine WXL.move Met.none rfl ?_
  refine WXL.len Met.none rfl Try.underlying23 ?_
  refine WXL.conv Met.none rfl Try.underlying3 Try.underlying42 cv_ ?_
  refine WXL.cl (O1 := _) Met.none rfl (fnOk_of Try.func40 (by decide +kernel)) rfl (fun _ h => h) (refUint_ok _ s.length (by omega)) (fun v O' hp => ?_)
  obtain ⟨a1, c1, G1, rfl, hG1, rfl⟩ := hp
  refine WXL.move Met.none rfl ?_
  refine WXL.apG ([]) Met.none rfl rfl isrow23 elem23 sz5 by5 zero5 src_ (fun a8 c8 G8 hG8 => ?_) (hm := (by rw [List.length_map]; omega))
  refine WXL.assign Met.none rfl ?_
  refine WXL.nil ?_
  refine Fin.then_normal ?_
  refine WX.ret ?_
  refine Fin.result (O' := G8 ++ O) (.inr rfl) rfl rfl (fun _ hs => hs) ⟨a8, c8, G8, ?_, ?_, rfl⟩
  · rw [show (rawB s).length = (varU s.length).length + s.length from List.length_append]; rfl
  · rw [show (rawB s).length = (varU s.length).length + s.length from List.length_append, show (rawB s).map B8 = _ from List.map_append]; exact hG8

theorem refCore_ok (O : Objs) (n : Int) (s : List Int) (as_ : Option Addr) (cs : Nat) (hn : In64 n) (hsl : s.length ≤ 100000) (hsrc : Src O 1 (.slice as_ s.length cs) s.length (s.map B8)) :
    Spec Try.prog false 38 #[I n, .slice as_ s.length cs] O fun v O' => ∃ a c G R, v = .slice a (coreB n s).length c ∧ Grow 1 a (coreB n s).length c ((coreB n s).map B8) G ∧ O' = G ++ (R ++ O) := by
  have hz := zigU_range hn
  unfold InU at hz
  have hlen : (varU (zigU n).toNat).length ≤ 10 := varU_len (k := 9) (by omega)
  have hrl := rawB_len (b := s) (by omega)
  refine Spec.enter (args := [_, _]) (m := 12) Try.func38 rfl rfl (by decide +kernel) fun h0 => ?_
  refine WX.seq ?_
  refine WX.region rfl ?_
  refine WXL.assign Met.none rfl ?_
  refine WXL.nil ?_
  refine Fin.then_normal ?_
  refine WX.seq ?_
  refine WX.region rfl ?_
  refine WXL.move Met.none rfl ?_
  refine WXL.cl (O1 := _) Met.none rfl (fnOk_of Try.func62 (by decide +kernel)) rfl (fun _ h => h) (refInt_ok _ n hn) (fun v O' hp => ?_)
  obtain ⟨a1, c1, G1, rfl, hG1, rfl⟩ := hp
  refine WXL.assign Met.none rfl ?_
  refine WXL.nil ?_
  refine Fin.then_normal ?_
  refine WX.seq ?_
  refine WX.region rfl ?_
  refine WXL.move Met.none rfl ?_
  refine WXL.move Met.none rfl ?_
  refine WXL.cl (O1 := _) Met.none rfl (fnOk_of Try.func39 (by decide +kernel)) rfl (fun _ h => h) (refRaw_ok _ s as_ cs (by omega) hsrc.app) (fun v O' hp => ?_)
  obtain ⟨a2, c2, G2, rfl, hG2, rfl⟩ := hp
  refine WXL.apG (G2) Met.none rfl rfl isrow23 elem23 sz5 by5 zero5 src_ (fun a11 c11 G11 hG11 => ?_) (hm := (by rw [List.length_map]; omega))
  refine WXL.assign Met.none rfl ?_
  refine WXL.nil ?_
  refine Fin.then_normal ?_
  refine WX.ret ?_
  refine Fin.result (O' := G11 ++ (G2 ++ O)) (.inr rfl) rfl rfl sub_ ⟨a11, c11, G11, G2, ?_, ?_, rfl⟩
  · rw [show (coreB n s).length = (varU (zigU n).toNat).length + (rawB s).length from List.length_append]; rfl
  · rw [show (coreB n s).length = (varU (zigU n).toNat).length + (rawB s).length from List.length_append, show (coreB n s).map B8 = _ from List.map_append]; exact hG11

theorem refFrame_ok (O : Objs) (n : Int) (b : List Int) (a : Option Addr) (c : Nat) (hn : In64 n) (hb : Bytes b) (hlen : b.length ≤ 100000) (hl : Src O 1 (.slice a b.length c) b.length (b.map B8)) :
    Spec Try.prog false 13 #[I n, .slice a b.length c] O fun v O' => ∃ a' c' G, v = .slice a' (frameB n b).length c' ∧ Grow 1 a' (frameB n b).length c' ((frameB n b).map B8) G ∧ O' = G ++ O := by
  have hcl := coreB_len hn (b := b) (by omega)
  have hcb := coreB_bytes (n := n) hb
  have hhr := hashB_range lblF (coreB n b)
  have hrl := rawB_len (b := coreB n b) (by omega)
  have hvl : (varU (hashB lblF (coreB n b)).toNat).length ≤ 10 := varU_len (k := 9) (by unfold InU at hhr; omega)
  refine Spec.enter (args := [_, _]) (m := 17) Try.func13 rfl rfl (by decide +kernel) fun h0 => ?_
  refine WX.seq ?_
  refine WX.region rfl ?_
  refine WXL.assign Met.none rfl ?_
  refine WXL.nil ?_
  refine Fin.then_normal ?_
  refine WX.seq ?_
  refine WX.region rfl ?_
  refine WXL.move Met.none rfl ?_
  refine WXL.move Met.none rfl ?_
  refine WXL.cl (O1 := _) Met.none rfl (fnOk_of Try.func38 (by decide +kernel)) rfl (fun _ h => h) (refCore_ok _ n b a c hn hlen hl) (fun v O' hp => ?_)
  obtain ⟨a1, c1, G1, R1, rfl, hG1, rfl⟩ := hp
  refine WXL.assign Met.none rfl ?_
  refine WXL.nil ?_
  refine Fin.then_normal ?_
  refine WX.seq ?_
  refine WX.region rfl ?_
  refine WXL.move Met.none rfl ?_
  refine WXL.cl (O1 := _) Met.none rfl (fnOk_of Try.func39 (by decide +kernel)) rfl (fun _ h => h) (refRaw_ok _ (coreB n b) a1 c1 (by omega) hG1.src) (fun v O' hp => ?_)
  obtain ⟨a2, c2, G2, rfl, hG2, rfl⟩ := hp
  refine WXL.assign Met.none rfl ?_
  refine WXL.nil ?_
  refine Fin.then_normal ?_
  refine WX.seq ?_
  refine WX.region rfl ?_
  refine WXL.move Met.none rfl ?_
  refine WXL.move Met.none rfl ?_
  refine WXL.cl (O1 := _) Met.none rfl (fnOk_of Try.func41 (by decide +kernel)) rfl (fun _ h => h) (refHash_ok _ lblF (coreB n b) a1 c1 (by unfold lblF; intro x hx; simp at hx; omega) hcb (by decide) (by omega) (Src.app hG1.src)) (fun v O' hp => ?_)
  obtain ⟨rfl, hO⟩ := hp
  subst O'
  rw [show U (hashB lblF (coreB n b)) = U (((hashB lblF (coreB n b)).toNat : Nat) : Int) from by rw [Int.toNat_of_nonneg hhr.1]]
  refine WXL.cl (O1 := _) Met.none rfl (fnOk_of Try.func40 (by decide +kernel)) rfl (fun _ h => h) (refUint_ok _ (hashB lblF (coreB n b)).toNat (by unfold InU at hhr; omega)) (fun v O' hp => ?_)
  obtain ⟨a3, c3, G3, rfl, hG3, rfl⟩ := hp
  refine WXL.apG (G3) Met.none rfl rfl isrow23 elem23 sz5 by5 zero5 src_ (fun a16 c16 G16 hG16 => ?_) (hm := (by rw [List.length_map]; omega))
  refine WXL.assign Met.none rfl ?_
  refine WXL.nil ?_
  refine Fin.then_normal ?_
  refine WX.ret ?_
  refine Fin.result (O' := G16 ++ O) (.inr rfl) rfl rfl sub_ ⟨a16, c16, G16, ?_, ?_, rfl⟩
  · rw [show (frameB n b).length = (rawB (coreB n b)).length + (varU (hashB lblF (coreB n b)).toNat).length from List.length_append]; rfl
  · rw [show (frameB n b).length = (rawB (coreB n b)).length + (varU (hashB lblF (coreB n b)).toNat).length from List.length_append, show (frameB n b).map B8 = _ from List.map_append]; exact hG16

end Go.Proofs.Ythekokdpplobhaa.Eng

set_option linter.unusedVariables false
set_option linter.unusedSimpArgs false
namespace Go.Proofs.Ythekokdpplobhaa.Eng

/-- The reference's reader: its object, and its row, told out of the one before. -/
def RrO (O : Objs) (r : Nat) (a0 : Option Addr) (l0 l : List Int) (e : Int) (N : Objs) : Prop :=
  ∃ a c, N = (r, ⟨0, false, [.slice a l.length c, I e]⟩) :: O ∧ (∀ O2, Rowy O2 1 a0 l0.length (l0.map B8) → Rowy O2 1 a l.length (l.map B8)) ∧ (a = none → c = 0) ∧ (e = 0 → ∃ b off, a = some ⟨b, off, none⟩)

theorem Rowy.known {O : Objs} {b off n : Nat} {cs : List Value} (h : Rowy O 1 (.some ⟨b, off, none⟩) n cs) : ∃ q, Knows O b q ∧ q.sz = 1 := by
  rcases h with ⟨h, _⟩ | ⟨b2, off2, q, h1, h2, h3, h4, h5⟩
  · cases h
  · injection h1 with h1
    injection h1 with h1 h6
    subst h1
    exact ⟨q, h2, h3⟩

theorem varU_head (m : Nat) : ∃ t, varU m = (if m < 128 then (m : Int) else ((128 + m % 128 : Nat) : Int)) :: t := by
  by_cases h : m < 128
  · exact ⟨[], by rw [varU_lt h, if_pos h]⟩
  · exact ⟨_, by rw [varU_ge h, if_neg h]⟩

theorem pow128 {i : Nat} (h : i ≤ 9) : 1 ≤ 128 ^ i ∧ 128 ^ i ≤ 9223372036854775808 := by
  refine ⟨Nat.pos_of_ne_zero (by simp), ?_⟩
  exact Nat.le_trans (Nat.pow_le_pow_right (by decide) h) (by decide)

theorem refRUint_ok (O : Objs) (r : Nat) (l : List Int) (e : Int) (a : Option Addr) (c : Nat) (hB : Bytes l) (hlen : l.length ≤ 1000000000000) (hr : Rowy O 1 a l.length (l.map B8)) (hc : a = none → c = 0) :
    Spec Try.prog false 81 #[Ptr r 0] ((r, ⟨0, false, [.slice a l.length c, I e]⟩) :: O) fun v O' => ∃ n l' e', v = U (n : Nat) ∧ n < 18446744073709551616 ∧ RrO O r a l l' e' O' ∧ (e ≠ 0 → e' ≠ 0) ∧ l'.length ≤ l.length ∧ Bytes l' ∧ (e = 0 → ∀ m rest, m < 18446744073709551616 → l = varU m ++ rest → n = m ∧ l' = rest ∧ e' = 0) := by
  have hsrc := hr.src hc
  refine Spec.enter (args := [_]) (m := 70) Try.func81 rfl rfl (by decide +kernel) fun h0 => ?_
  refine WX.seq ?_
  refine WX.region rfl ?_
  refine WXL.assign Met.none rfl ?_
  refine WXL.nil ?_
  refine Fin.then_normal ?_
  refine WX.seq ?_
  refine WX.region rfl ?_
  refine WXL.assign Met.none rfl ?_
  refine WXL.nil ?_
  refine Fin.then_normal ?_
  refine WX.seq ?_
  refine WX.region rfl ?_
  refine WXL.assign Met.none rfl ?_
  refine WXL.nil ?_
  refine Fin.then_normal ?_
  refine WX.seq ?_
  refine WX.seq ?_
  refine WX.region rfl ?_
  refine WXL.assign Met.none rfl ?_
  refine WXL.nil ?_
  refine Fin.then_normal ?_
  refine WX.block ?_
  refine WX.loop (fun s : Nat × Nat => [(0, Ptr r 0), (3, U (s.2 : Nat)), (4, U ((128 ^ s.1 : Nat) : Int)), (5, I (s.1 : Int))]) (fun _ => (r, ⟨0, false, [.slice a l.length c, I e]⟩) :: O) (fun s => s.1 ≤ 9 ∧ s.2 < 128 ^ s.1 ∧ ∀ m rest, m < 18446744073709551616 → l = varU m ++ rest → ∃ m', (s.1 = 0 ∨ 0 < m') ∧ l.drop s.1 = varU m' ++ rest ∧ s.2 + m' * 128 ^ s.1 = m) (fun s => 10 - s.1) (0, 0) ⟨Nat.zero_le _, by decide, fun m rest _ h => ⟨m, .inl rfl, h, by simp⟩⟩ (fun s hs => hs.tl [0] 1) (fun s hs => ?_)
  obtain ⟨i, n⟩ := s
  obtain ⟨g1, g2, g3⟩ := hs
  simp only at g1 g2 g3
  dsimp only
  refine WX.seq ?_
  refine WX.seq ?_
  refine WX.region rfl ?_
  refine WXL.move Met.none rfl ?_
  refine WXL.nilCheck Met.none rfl ?_
  first | refine WXL.fieldAddr Met.none rfl Try.underlying106 rfl sz47 rfl ?_ | refine WXL.faS Met.none rfl Try.underlying106 rfl sz47 ?_
  first | refine WXL.ld Met.none rfl agg47 ?_ | refine WXL.ldS Met.none rfl agg47 ?_
  refine WXL.bin Met.none rfl rfl rfl ?_
  refine WXL.nil ?_
  refine Fin.then_normal ?_
  refine WX.cond rfl (fun hc0 => ?_) (fun hc0 => ?_)
  · try simp only [cnd] at hc0
    refine WX.skip ?_
    refine Fin.then_normal ?_
    refine WX.seq ?_
    refine WX.block ?_
    refine WX.seq ?_
    refine WX.seq ?_
    refine WX.region rfl ?_
    refine WXL.move Met.none rfl ?_
    refine WXL.move Met.none rfl ?_
    refine WXL.nilCheck Met.none rfl ?_
    first | refine WXL.fieldAddr Met.none rfl Try.underlying106 rfl sz23 rfl ?_ | refine WXL.faS Met.none rfl Try.underlying106 rfl sz23 ?_
    first | refine WXL.ld Met.none rfl agg23 ?_ | refine WXL.ldS Met.none rfl agg23 ?_
    refine WXL.len Met.none rfl Try.underlying23 ?_
    refine WXL.bin Met.none rfl rfl rfl ?_
    refine WXL.nil ?_
    refine Fin.then_normal ?_
    refine WX.cond rfl (fun hc1 => ?_) (fun hc1 => ?_)
    · try simp only [cnd] at hc1
      refine WX.seq ?_
      refine WX.region rfl ?_
      refine WXL.move Met.none rfl ?_
      refine WXL.nilCheck Met.none rfl ?_
      first | refine WXL.fieldAddr Met.none rfl Try.underlying106 rfl sz47 rfl ?_ | refine WXL.faS Met.none rfl Try.underlying106 rfl sz47 ?_
      refine WXL.st (vs := [_]) Met.none rfl rfl rfl sz47 ?_
      refine WXL.nil ?_
      refine Fin.then_normal ?_
      refine WX.exit ?_
      refine Fin.then_exit ?_
      refine Fin.block_miss rfl ?_
      refine Fin.then_exit ?_
      refine Fin.loop_exit ?_
      refine Fin.block_hit rfl ?_
      refine Fin.then_normal ?_
      refine WX.seq ?_
      refine WX.region rfl ?_
      refine WXL.assign Met.none rfl ?_
      refine WXL.nil ?_
      refine Fin.then_normal ?_
      refine WX.ret ?_
      first
      | (have hz : ∀ m rest, m < 18446744073709551616 → l = varU m ++ rest → False := fun m rest hm hl => by
           obtain ⟨m', k1, k2, k3⟩ := g3 m rest hm hl
           have := congrArg List.length k2
           obtain ⟨t, ht⟩ := varU_head m'
           rw [ht, List.length_drop, List.length_append, List.length_cons] at this
           omega
         exact Fin.result (O' := (r, ⟨0, false, [.slice a l.length c, I 3]⟩) :: O) (.inr rfl) rfl rfl (fun _ hs => hs) ⟨0, l, 3, rfl, by decide, ⟨a, c, rfl, fun _ h => h, hc, (fun q => by cases q)⟩, fun _ => by decide, Nat.le_refl _, hB, fun _ m rest hm hl => (hz m rest hm hl).elim⟩)
      | exact Fin.result (O' := (r, ⟨0, false, [.slice a l.length c, I e]⟩) :: O) (.inr rfl) rfl rfl (fun _ hs => hs) ⟨0, l, e, rfl, by decide, ⟨a, c, rfl, fun _ h => h, hc, fun q => absurd q hc0⟩, fun _ => hc0, Nat.le_refl _, hB, fun q => absurd q hc0⟩
      | (have hz : ∀ m rest, m < 18446744073709551616 → l = varU m ++ rest → False := fun m rest hm hl => by
           obtain ⟨m', k1, k2, k3⟩ := g3 m rest hm hl
           obtain ⟨t, ht⟩ := varU_head m'
           rw [k2, ht, List.cons_append] at hdc
           injection hdc with q1 _
           have h9 : i = 9 → m' ≤ 1 := fun h => by
             subst h
             have : m' * 9223372036854775808 < 18446744073709551616 := by
               have e : (128 ^ 9 : Nat) = 9223372036854775808 := by decide
               rw [e] at k3
               omega
             omega
           split at q1 <;> omega
         exact Fin.result (O' := (r, ⟨0, false, [.slice a l.length c, I 2]⟩) :: O) (.inr rfl) rfl rfl (fun _ hs => hs) ⟨0, l, 2, rfl, by decide, ⟨a, c, rfl, fun _ h => h, hc, (fun q => by cases q)⟩, fun _ => by decide, Nat.le_refl _, hB, fun _ m rest hm hl => (hz m rest hm hl).elim⟩)
      | (have hdl : (l.drop (i + 1)).length = l.length - (i + 1) := List.length_drop
         refine Fin.result (O' := (r, ⟨0, false, [.slice (some ⟨bb, off + (i + 1) * 1, none⟩) (l.length - (i + 1)) (l.length - (i + 1)), I e]⟩) :: O) (.inr rfl) rfl rfl (fun _ hs => hs) ⟨n + (c' % 128) * u, l.drop (i + 1), e, rfl, by omega, ⟨some ⟨bb, off + (i + 1) * 1, none⟩, l.length - (i + 1), by rw [hdl], fun O2 h => by rw [hdl, List.map_drop]; exact (ha ▸ h).suf (by omega), (fun q => by cases q), fun _ => ⟨_, _, rfl⟩⟩, id, by omega, fun z hz => hB z (List.mem_of_mem_drop hz), fun he m rest hm hl => ?_⟩
         obtain ⟨m', k1, k2, k3⟩ := g3 m rest hm hl
         rw [← hu] at k3
         have hm2 : m' < 128 := by
           rcases Nat.lt_or_ge m' 128 with q | q
           · exact q
           · rw [k2, varU_ge (by omega)] at hdc
             injection hdc with q1 _
             omega
         rw [k2, varU_lt hm2] at hdc
         injection hdc with q1 q2
         have q3 : c' % 128 = m' := by omega
         exact ⟨by rw [q3, k3], q2.symm, he⟩)
    · try simp only [cnd] at hc1
      refine WX.skip ?_
      refine Fin.then_normal ?_
      refine WX.seq ?_
      refine WX.region rfl ?_
      refine WXL.move Met.none rfl ?_
      refine WXL.nilCheck Met.none rfl ?_
      first | refine WXL.fieldAddr Met.none rfl Try.underlying106 rfl sz23 rfl ?_ | refine WXL.faS Met.none rfl Try.underlying106 rfl sz23 ?_
      first | refine WXL.ld Met.none rfl agg23 ?_ | refine WXL.ldS Met.none rfl agg23 ?_
      refine WXL.move Met.none rfl ?_
      first | refine WXL.ix Met.none rfl rfl elem23 sz5 ?_ | refine WXL.ixS Met.none rfl rfl elem23 sz5 ?_
      first | refine WXL.ld Met.none rfl agg5 ?_ | refine WXL.ldS Met.none rfl agg5 ?_
      refine WXL.assign Met.none rfl ?_
      refine WXL.nil ?_
      refine Fin.then_normal ?_
      refine WX.seq ?_
      refine WX.seq ?_
      have hil : i < l.length := by omega
      have hcB := hB _ (nth_mem hil)
      obtain ⟨c', hc'⟩ : ∃ c' : Nat, nth l i = c' := ⟨(nth l i).toNat, by omega⟩
      have hdc := drop_cons_nth hil
      obtain ⟨p1, p2⟩ := pow128 g1
      refine WX.region rfl ?_
      refine WXL.move Met.none rfl ?_
      refine WXL.bin Met.none rfl rfl rfl ?_
      refine WXL.move Met.none rfl ?_
      refine WXL.split (d := 33) rfl (fun hg33 => ?_) (fun hg33 => ?_)
      · try simp only [cnd] at hg33
        refine WXL.move (Met.some rfl rfl rfl) rfl ?_
        refine WXL.bin (Met.some rfl rfl rfl) rfl rfl rfl ?_
        refine WXL.pick_t Met.none rfl rfl ?_
        refine WXL.move Met.none rfl ?_
        refine WXL.split (d := 37) rfl (fun hg37 => ?_) (fun hg37 => ?_)
        · try simp only [cnd] at hg37
          refine WXL.miss (j := 6) (d := 37) rfl rfl rfl ?_
          refine WXL.miss (j := 6) (d := 37) rfl rfl rfl ?_
          refine WXL.miss (j := 6) (d := 37) rfl rfl rfl ?_
          refine WXL.missU (j := 9) (e := 40) rfl rfl ?_
          refine WXL.missU (j := 9) (e := 40) rfl rfl ?_
          refine WXL.miss (j := 6) (d := 37) rfl rfl rfl ?_
          refine WXL.pick_t Met.none rfl rfl ?_
          refine WXL.nil ?_
          refine Fin.then_normal ?_
          refine WX.cond rfl (fun hc2 => ?_) (fun hc2 => nomatch hc2)
          refine WX.seq ?_
          refine WX.region rfl ?_
          refine WXL.move Met.none rfl ?_
          refine WXL.nilCheck Met.none rfl ?_
          first | refine WXL.fieldAddr Met.none rfl Try.underlying106 rfl sz47 rfl ?_ | refine WXL.faS Met.none rfl Try.underlying106 rfl sz47 ?_
          refine WXL.st (vs := [_]) Met.none rfl rfl rfl sz47 ?_
          refine WXL.nil ?_
          refine Fin.then_normal ?_
          refine WX.exit ?_
          refine Fin.then_exit ?_
          refine Fin.block_miss rfl ?_
          refine Fin.then_exit ?_
          refine Fin.loop_exit ?_
          refine Fin.block_hit rfl ?_
          refine Fin.then_normal ?_
          refine WX.seq ?_
          refine WX.region rfl ?_
          refine WXL.assign Met.none rfl ?_
          refine WXL.nil ?_
          refine Fin.then_normal ?_
          refine WX.ret ?_
          first
          | (have hz : ∀ m rest, m < 18446744073709551616 → l = varU m ++ rest → False := fun m rest hm hl => by
               obtain ⟨m', k1, k2, k3⟩ := g3 m rest hm hl
               have := congrArg List.length k2
               obtain ⟨t, ht⟩ := varU_head m'
               rw [ht, List.length_drop, List.length_append, List.length_cons] at this
               omega
             exact Fin.result (O' := (r, ⟨0, false, [.slice a l.length c, I 3]⟩) :: O) (.inr rfl) rfl rfl (fun _ hs => hs) ⟨0, l, 3, rfl, by decide, ⟨a, c, rfl, fun _ h => h, hc, (fun q => by cases q)⟩, fun _ => by decide, Nat.le_refl _, hB, fun _ m rest hm hl => (hz m rest hm hl).elim⟩)
          | exact Fin.result (O' := (r, ⟨0, false, [.slice a l.length c, I e]⟩) :: O) (.inr rfl) rfl rfl (fun _ hs => hs) ⟨0, l, e, rfl, by decide, ⟨a, c, rfl, fun _ h => h, hc, fun q => absurd q hc0⟩, fun _ => hc0, Nat.le_refl _, hB, fun q => absurd q hc0⟩
          | (have hz : ∀ m rest, m < 18446744073709551616 → l = varU m ++ rest → False := fun m rest hm hl => by
               obtain ⟨m', k1, k2, k3⟩ := g3 m rest hm hl
               obtain ⟨t, ht⟩ := varU_head m'
               rw [k2, ht, List.cons_append] at hdc
               injection hdc with q1 _
               have h9 : i = 9 → m' ≤ 1 := fun h => by
                 subst h
                 have : m' * 9223372036854775808 < 18446744073709551616 := by
                   have e : (128 ^ 9 : Nat) = 9223372036854775808 := by decide
                   rw [e] at k3
                   omega
                 omega
               split at q1 <;> omega
             exact Fin.result (O' := (r, ⟨0, false, [.slice a l.length c, I 2]⟩) :: O) (.inr rfl) rfl rfl (fun _ hs => hs) ⟨0, l, 2, rfl, by decide, ⟨a, c, rfl, fun _ h => h, hc, (fun q => by cases q)⟩, fun _ => by decide, Nat.le_refl _, hB, fun _ m rest hm hl => (hz m rest hm hl).elim⟩)
          | (have hdl : (l.drop (i + 1)).length = l.length - (i + 1) := List.length_drop
             refine Fin.result (O' := (r, ⟨0, false, [.slice (some ⟨bb, off + (i + 1) * 1, none⟩) (l.length - (i + 1)) (l.length - (i + 1)), I e]⟩) :: O) (.inr rfl) rfl rfl (fun _ hs => hs) ⟨n + (c' % 128) * u, l.drop (i + 1), e, rfl, by omega, ⟨some ⟨bb, off + (i + 1) * 1, none⟩, l.length - (i + 1), by rw [hdl], fun O2 h => by rw [hdl, List.map_drop]; exact (ha ▸ h).suf (by omega), (fun q => by cases q), fun _ => ⟨_, _, rfl⟩⟩, id, by omega, fun z hz => hB z (List.mem_of_mem_drop hz), fun he m rest hm hl => ?_⟩
             obtain ⟨m', k1, k2, k3⟩ := g3 m rest hm hl
             rw [← hu] at k3
             have hm2 : m' < 128 := by
               rcases Nat.lt_or_ge m' 128 with q | q
               · exact q
               · rw [k2, varU_ge (by omega)] at hdc
                 injection hdc with q1 _
                 omega
             rw [k2, varU_lt hm2] at hdc
             injection hdc with q1 q2
             have q3 : c' % 128 = m' := by omega
             exact ⟨by rw [q3, k3], q2.symm, he⟩)
        · try simp only [cnd] at hg37
          refine WXL.move (Met.some rfl rfl rfl) rfl ?_
          refine WXL.bin (Met.some rfl rfl rfl) rfl rfl rfl ?_
          refine WXL.move (Met.some rfl rfl rfl) rfl ?_
          refine WXL.split (d := 40) rfl (fun hg40 => ?_) (fun hg40 => ?_)
          · try simp only [cnd] at hg40
            refine WXL.move (Met.some rfl rfl rfl) rfl ?_
            refine WXL.bin (Met.some rfl rfl rfl) rfl rfl rfl ?_
            refine WXL.pick_t (Met.some rfl rfl rfl) rfl rfl ?_
            refine WXL.pick_f Met.none rfl rfl ?_
            refine WXL.nil ?_
            refine Fin.then_normal ?_
            refine WX.cond rfl (fun hc2 => ?_) (fun hc2 => ?_)
            · try simp only [cnd] at hc2
              refine WX.seq ?_
              refine WX.region rfl ?_
              refine WXL.move Met.none rfl ?_
              refine WXL.nilCheck Met.none rfl ?_
              first | refine WXL.fieldAddr Met.none rfl Try.underlying106 rfl sz47 rfl ?_ | refine WXL.faS Met.none rfl Try.underlying106 rfl sz47 ?_
              refine WXL.st (vs := [_]) Met.none rfl rfl rfl sz47 ?_
              refine WXL.nil ?_
              refine Fin.then_normal ?_
              refine WX.exit ?_
              refine Fin.then_exit ?_
              refine Fin.block_miss rfl ?_
              refine Fin.then_exit ?_
              refine Fin.loop_exit ?_
              refine Fin.block_hit rfl ?_
              refine Fin.then_normal ?_
              refine WX.seq ?_
              refine WX.region rfl ?_
              refine WXL.assign Met.none rfl ?_
              refine WXL.nil ?_
              refine Fin.then_normal ?_
              refine WX.ret ?_
              first
              | (have hz : ∀ m rest, m < 18446744073709551616 → l = varU m ++ rest → False := fun m rest hm hl => by
                   obtain ⟨m', k1, k2, k3⟩ := g3 m rest hm hl
                   have := congrArg List.length k2
                   obtain ⟨t, ht⟩ := varU_head m'
                   rw [ht, List.length_drop, List.length_append, List.length_cons] at this
                   omega
                 exact Fin.result (O' := (r, ⟨0, false, [.slice a l.length c, I 3]⟩) :: O) (.inr rfl) rfl rfl (fun _ hs => hs) ⟨0, l, 3, rfl, by decide, ⟨a, c, rfl, fun _ h => h, hc, (fun q => by cases q)⟩, fun _ => by decide, Nat.le_refl _, hB, fun _ m rest hm hl => (hz m rest hm hl).elim⟩)
              | exact Fin.result (O' := (r, ⟨0, false, [.slice a l.length c, I e]⟩) :: O) (.inr rfl) rfl rfl (fun _ hs => hs) ⟨0, l, e, rfl, by decide, ⟨a, c, rfl, fun _ h => h, hc, fun q => absurd q hc0⟩, fun _ => hc0, Nat.le_refl _, hB, fun q => absurd q hc0⟩
              | (have hz : ∀ m rest, m < 18446744073709551616 → l = varU m ++ rest → False := fun m rest hm hl => by
                   obtain ⟨m', k1, k2, k3⟩ := g3 m rest hm hl
                   obtain ⟨t, ht⟩ := varU_head m'
                   rw [k2, ht, List.cons_append] at hdc
                   injection hdc with q1 _
                   have h9 : i = 9 → m' ≤ 1 := fun h => by
                     subst h
                     have : m' * 9223372036854775808 < 18446744073709551616 := by
                       have e : (128 ^ 9 : Nat) = 9223372036854775808 := by decide
                       rw [e] at k3
                       omega
                     omega
                   split at q1 <;> omega
                 exact Fin.result (O' := (r, ⟨0, false, [.slice a l.length c, I 2]⟩) :: O) (.inr rfl) rfl rfl (fun _ hs => hs) ⟨0, l, 2, rfl, by decide, ⟨a, c, rfl, fun _ h => h, hc, (fun q => by cases q)⟩, fun _ => by decide, Nat.le_refl _, hB, fun _ m rest hm hl => (hz m rest hm hl).elim⟩)
              | (have hdl : (l.drop (i + 1)).length = l.length - (i + 1) := List.length_drop
                 refine Fin.result (O' := (r, ⟨0, false, [.slice (some ⟨bb, off + (i + 1) * 1, none⟩) (l.length - (i + 1)) (l.length - (i + 1)), I e]⟩) :: O) (.inr rfl) rfl rfl (fun _ hs => hs) ⟨n + (c' % 128) * u, l.drop (i + 1), e, rfl, by omega, ⟨some ⟨bb, off + (i + 1) * 1, none⟩, l.length - (i + 1), by rw [hdl], fun O2 h => by rw [hdl, List.map_drop]; exact (ha ▸ h).suf (by omega), (fun q => by cases q), fun _ => ⟨_, _, rfl⟩⟩, id, by omega, fun z hz => hB z (List.mem_of_mem_drop hz), fun he m rest hm hl => ?_⟩
                 obtain ⟨m', k1, k2, k3⟩ := g3 m rest hm hl
                 rw [← hu] at k3
                 have hm2 : m' < 128 := by
                   rcases Nat.lt_or_ge m' 128 with q | q
                   · exact q
                   · rw [k2, varU_ge (by omega)] at hdc
                     injection hdc with q1 _
                     omega
                 rw [k2, varU_lt hm2] at hdc
                 injection hdc with q1 q2
                 have q3 : c' % 128 = m' := by omega
                 exact ⟨by rw [q3, k3], q2.symm, he⟩)
            · try simp only [cnd] at hc2
              refine WX.skip ?_
              refine Fin.then_normal ?_
              refine WX.seq ?_
              obtain ⟨u, hu⟩ : ∃ u, u = 128 ^ i := ⟨_, rfl⟩
              have hcu : (c' % 128) * u ≤ 127 * u := Nat.mul_le_mul_right _ (by omega)
              have hi8 : i ≤ 8 → 128 * u ≤ 9223372036854775808 := fun h => by
                rw [hu, Nat.mul_comm, ← Nat.pow_succ]
                exact (pow128 (i := i + 1) (by omega)).2
              have hi9 : i = 9 → (c' % 128) * u ≤ 1 * u := fun h => Nat.mul_le_mul_right _ (by omega)
              rw [← hu] at g2 p1 p2 ⊢
              refine WX.region rfl ?_
              refine WXL.move Met.none rfl ?_
              refine WXL.move Met.none rfl ?_
              refine WXL.rem Met.none rfl rfl (by decide) ?_
              refine WXL.conv Met.none rfl Try.underlying5 Try.underlying42 (show IntKind.wrap .u64 ((nth l i).tmod 128) = ((c' % 128 : Nat) : Int) from by rw [hc', Int.tmod_eq_emod_of_nonneg (by omega)]; exact (wrap_u64 (by omega) (by omega)).trans (by omega)) ?_
              refine WXL.move Met.none rfl ?_
              refine WXL.bin Met.none rfl rfl (show _ = some (U (((c' % 128) * u : Nat) : Int)) from congrArg (fun n => some (U n)) ((wrap_u64 (n := ((c' % 128 : Nat) : Int) * (u : Int)) (by rw [← Int.natCast_mul]; omega) (by rw [← Int.natCast_mul]; omega)).trans (Int.natCast_mul _ _).symm)) ?_
              refine WXL.bin Met.none rfl rfl (show _ = some (U ((n + (c' % 128) * u : Nat) : Int)) from congrArg (fun n => some (U n)) ((wrap_u64 (by omega) (by omega)).trans (by omega))) ?_
              refine WXL.assign Met.none rfl ?_
              refine WXL.nil ?_
              refine Fin.then_normal ?_
              refine WX.seq ?_
              refine WX.region rfl ?_
              refine WXL.move Met.none rfl ?_
              refine WXL.bin Met.none rfl rfl rfl ?_
              refine WXL.assign Met.none rfl ?_
              refine WXL.nil ?_
              refine Fin.then_normal ?_
              refine WX.seq ?_
              refine WX.region rfl ?_
              refine WXL.move Met.none rfl ?_
              refine WXL.bin Met.none rfl rfl rfl ?_
              refine WXL.nil ?_
              refine Fin.then_normal ?_
              refine WX.cond rfl (fun hc3 => ?_) (fun hc3 => ?_)
              · try simp only [cnd] at hc3
                refine WX.seq ?_
                obtain ⟨bb, off, ⟨qsz, qro, qc⟩, ha, hkq, hqs⟩ := hr.some (by omega)
                have hqs : qsz = 1 := hqs
                subst hqs
                refine WX.region rfl ?_
                refine WXL.move Met.none rfl ?_
                refine WXL.move Met.none rfl ?_
                refine WXL.nilCheck Met.none rfl ?_
                first | refine WXL.fieldAddr Met.none rfl Try.underlying106 rfl sz23 rfl ?_ | refine WXL.faS Met.none rfl Try.underlying106 rfl sz23 ?_
                first | refine WXL.ld Met.none rfl agg23 ?_ | refine WXL.ldS Met.none rfl agg23 ?_
                refine WXL.move Met.none rfl ?_
                refine WXL.bin Met.none rfl rfl bvA ?_
                refine WXL.suf (cs := []) (m := (i + 1)) Met.none rfl rfl elem23 sz5 ha hkq.cons rfl ?_
                refine WXL.nilCheck Met.none rfl ?_
                first | refine WXL.fieldAddr Met.none rfl Try.underlying106 rfl sz23 rfl ?_ | refine WXL.faS Met.none rfl Try.underlying106 rfl sz23 ?_
                refine WXL.st (vs := [_]) Met.none rfl rfl rfl sz23 ?_
                refine WXL.nil ?_
                refine Fin.then_normal ?_
                refine WX.seq ?_
                refine WX.region rfl ?_
                refine WXL.move Met.none rfl ?_
                refine WXL.assign Met.none rfl ?_
                refine WXL.nil ?_
                refine Fin.then_normal ?_
                refine WX.ret ?_
                refine Fin.block_ret ?_
                refine Fin.then_ret ?_
                refine Fin.loop_ret ?_
                refine Fin.block_ret ?_
                refine Fin.then_ret ?_
                first
                | (have hz : ∀ m rest, m < 18446744073709551616 → l = varU m ++ rest → False := fun m rest hm hl => by
                     obtain ⟨m', k1, k2, k3⟩ := g3 m rest hm hl
                     have := congrArg List.length k2
                     obtain ⟨t, ht⟩ := varU_head m'
                     rw [ht, List.length_drop, List.length_append, List.length_cons] at this
                     omega
                   exact Fin.result (O' := (r, ⟨0, false, [.slice a l.length c, I 3]⟩) :: O) (.inr rfl) rfl rfl (fun _ hs => hs) ⟨0, l, 3, rfl, by decide, ⟨a, c, rfl, fun _ h => h, hc, (fun q => by cases q)⟩, fun _ => by decide, Nat.le_refl _, hB, fun _ m rest hm hl => (hz m rest hm hl).elim⟩)
                | exact Fin.result (O' := (r, ⟨0, false, [.slice a l.length c, I e]⟩) :: O) (.inr rfl) rfl rfl (fun _ hs => hs) ⟨0, l, e, rfl, by decide, ⟨a, c, rfl, fun _ h => h, hc, fun q => absurd q hc0⟩, fun _ => hc0, Nat.le_refl _, hB, fun q => absurd q hc0⟩
                | (have hz : ∀ m rest, m < 18446744073709551616 → l = varU m ++ rest → False := fun m rest hm hl => by
                     obtain ⟨m', k1, k2, k3⟩ := g3 m rest hm hl
                     obtain ⟨t, ht⟩ := varU_head m'
                     rw [k2, ht, List.cons_append] at hdc
                     injection hdc with q1 _
                     have h9 : i = 9 → m' ≤ 1 := fun h => by
                       subst h
                       have : m' * 9223372036854775808 < 18446744073709551616 := by
                         have e : (128 ^ 9 : Nat) = 9223372036854775808 := by decide
                         rw [e] at k3
                         omega
                       omega
                     split at q1 <;> omega
                   exact Fin.result (O' := (r, ⟨0, false, [.slice a l.length c, I 2]⟩) :: O) (.inr rfl) rfl rfl (fun _ hs => hs) ⟨0, l, 2, rfl, by decide, ⟨a, c, rfl, fun _ h => h, hc, (fun q => by cases q)⟩, fun _ => by decide, Nat.le_refl _, hB, fun _ m rest hm hl => (hz m rest hm hl).elim⟩)
                | (have hdl : (l.drop (i + 1)).length = l.length - (i + 1) := List.length_drop
                   refine Fin.result (O' := (r, ⟨0, false, [.slice (some ⟨bb, off + (i + 1) * 1, none⟩) (l.length - (i + 1)) (l.length - (i + 1)), I e]⟩) :: O) (.inr rfl) rfl rfl (fun _ hs => hs) ⟨n + (c' % 128) * u, l.drop (i + 1), e, rfl, by omega, ⟨some ⟨bb, off + (i + 1) * 1, none⟩, l.length - (i + 1), by rw [hdl], fun O2 h => by rw [hdl, List.map_drop]; exact (ha ▸ h).suf (by omega), (fun q => by cases q), fun _ => ⟨_, _, rfl⟩⟩, id, by omega, fun z hz => hB z (List.mem_of_mem_drop hz), fun he m rest hm hl => ?_⟩
                   obtain ⟨m', k1, k2, k3⟩ := g3 m rest hm hl
                   rw [← hu] at k3
                   have hm2 : m' < 128 := by
                     rcases Nat.lt_or_ge m' 128 with q | q
                     · exact q
                     · rw [k2, varU_ge (by omega)] at hdc
                       injection hdc with q1 _
                       omega
                   rw [k2, varU_lt hm2] at hdc
                   injection hdc with q1 q2
                   have q3 : c' % 128 = m' := by omega
                   exact ⟨by rw [q3, k3], q2.symm, he⟩)
              · try simp only [cnd] at hc3
                refine WX.skip ?_
                refine Fin.block_normal ?_
                refine Fin.then_normal ?_
                refine WX.region rfl ?_
                refine WXL.move Met.none rfl ?_
                refine WXL.bin Met.none rfl rfl bvA ?_
                refine WXL.assign Met.none rfl ?_
                refine WXL.nil ?_
                refine Fin.loop_next (i + 1, n + (c' % 128) * u) ⟨by simp only; omega, ?_, ?_⟩ (by simp only; omega) ?_
                · simp only
                  rw [Nat.pow_succ, ← hu]
                  omega
                · intro m rest hm hl
                  obtain ⟨m', k1, k2, k3⟩ := g3 m rest hm hl
                  rw [← hu] at k3
                  have hm2 : ¬ m' < 128 := fun q => by
                    rw [k2, varU_lt q] at hdc
                    injection hdc with q1 _
                    omega
                  rw [k2, varU_ge hm2] at hdc
                  injection hdc with q1 q2
                  have q3 : m' % 128 = c' % 128 := by omega
                  refine ⟨m' / 128, .inr (by omega), q2.symm, ?_⟩
                  simp only
                  rw [Nat.pow_succ, ← hu, ← k3]
                  have q4 : m' = m' % 128 + 128 * (m' / 128) := by omega
                  conv => rhs; rw [q4, Nat.add_mul, q3]
                  rw [Nat.add_assoc]
                  congr 2
                  rw [Nat.mul_comm u 128, ← Nat.mul_assoc, Nat.mul_comm (m' / 128) 128]
                · rw [show IntKind.wrap .u64 ((u : Int) * 128) = ((128 ^ (i + 1) : Nat) : Int) from by
                    rw [Nat.pow_succ, ← hu]
                    exact (wrap_u64 (by omega) (by omega)).trans (by omega)]
                  exact (fun s hs => hs.tl [0] 1)
          · try simp only [cnd] at hg40
            refine WXL.miss (j := 9) (d := 40) rfl rfl rfl ?_
            refine WXL.miss (j := 9) (d := 40) rfl rfl rfl ?_
            refine WXL.pick_f (Met.some rfl rfl rfl) rfl rfl ?_
            refine WXL.pick_f Met.none rfl rfl ?_
            refine WXL.nil ?_
            refine Fin.then_normal ?_
            refine WX.cond rfl (fun hc2 => nomatch hc2) (fun hc2 => ?_)
            refine WX.skip ?_
            refine Fin.then_normal ?_
            refine WX.seq ?_
            obtain ⟨u, hu⟩ : ∃ u, u = 128 ^ i := ⟨_, rfl⟩
            have hcu : (c' % 128) * u ≤ 127 * u := Nat.mul_le_mul_right _ (by omega)
            have hi8 : i ≤ 8 → 128 * u ≤ 9223372036854775808 := fun h => by
              rw [hu, Nat.mul_comm, ← Nat.pow_succ]
              exact (pow128 (i := i + 1) (by omega)).2
            have hi9 : i = 9 → (c' % 128) * u ≤ 1 * u := fun h => Nat.mul_le_mul_right _ (by omega)
            rw [← hu] at g2 p1 p2 ⊢
            refine WX.region rfl ?_
            refine WXL.move Met.none rfl ?_
            refine WXL.move Met.none rfl ?_
            refine WXL.rem Met.none rfl rfl (by decide) ?_
            refine WXL.conv Met.none rfl Try.underlying5 Try.underlying42 (show IntKind.wrap .u64 ((nth l i).tmod 128) = ((c' % 128 : Nat) : Int) from by rw [hc', Int.tmod_eq_emod_of_nonneg (by omega)]; exact (wrap_u64 (by omega) (by omega)).trans (by omega)) ?_
            refine WXL.move Met.none rfl ?_
            refine WXL.bin Met.none rfl rfl (show _ = some (U (((c' % 128) * u : Nat) : Int)) from congrArg (fun n => some (U n)) ((wrap_u64 (n := ((c' % 128 : Nat) : Int) * (u : Int)) (by rw [← Int.natCast_mul]; omega) (by rw [← Int.natCast_mul]; omega)).trans (Int.natCast_mul _ _).symm)) ?_
            refine WXL.bin Met.none rfl rfl (show _ = some (U ((n + (c' % 128) * u : Nat) : Int)) from congrArg (fun n => some (U n)) ((wrap_u64 (by omega) (by omega)).trans (by omega))) ?_
            refine WXL.assign Met.none rfl ?_
            refine WXL.nil ?_
            refine Fin.then_normal ?_
            refine WX.seq ?_
            refine WX.region rfl ?_
            refine WXL.move Met.none rfl ?_
            refine WXL.bin Met.none rfl rfl rfl ?_
            refine WXL.assign Met.none rfl ?_
            refine WXL.nil ?_
            refine Fin.then_normal ?_
            refine WX.seq ?_
            refine WX.region rfl ?_
            refine WXL.move Met.none rfl ?_
            refine WXL.bin Met.none rfl rfl rfl ?_
            refine WXL.nil ?_
            refine Fin.then_normal ?_
            refine WX.cond rfl (fun hc3 => ?_) (fun hc3 => ?_)
            · try simp only [cnd] at hc3
              refine WX.seq ?_
              obtain ⟨bb, off, ⟨qsz, qro, qc⟩, ha, hkq, hqs⟩ := hr.some (by omega)
              have hqs : qsz = 1 := hqs
              subst hqs
              refine WX.region rfl ?_
              refine WXL.move Met.none rfl ?_
              refine WXL.move Met.none rfl ?_
              refine WXL.nilCheck Met.none rfl ?_
              first | refine WXL.fieldAddr Met.none rfl Try.underlying106 rfl sz23 rfl ?_ | refine WXL.faS Met.none rfl Try.underlying106 rfl sz23 ?_
              first | refine WXL.ld Met.none rfl agg23 ?_ | refine WXL.ldS Met.none rfl agg23 ?_
              refine WXL.move Met.none rfl ?_
              refine WXL.bin Met.none rfl rfl bvA ?_
              refine WXL.suf (cs := []) (m := (i + 1)) Met.none rfl rfl elem23 sz5 ha hkq.cons rfl ?_
              refine WXL.nilCheck Met.none rfl ?_
              first | refine WXL.fieldAddr Met.none rfl Try.underlying106 rfl sz23 rfl ?_ | refine WXL.faS Met.none rfl Try.underlying106 rfl sz23 ?_
              refine WXL.st (vs := [_]) Met.none rfl rfl rfl sz23 ?_
              refine WXL.nil ?_
              refine Fin.then_normal ?_
              refine WX.seq ?_
              refine WX.region rfl ?_
              refine WXL.move Met.none rfl ?_
              refine WXL.assign Met.none rfl ?_
              refine WXL.nil ?_
              refine Fin.then_normal ?_
              refine WX.ret ?_
              refine Fin.block_ret ?_
              refine Fin.then_ret ?_
              refine Fin.loop_ret ?_
              refine Fin.block_ret ?_
              refine Fin.then_ret ?_
              first
              | (have hz : ∀ m rest, m < 18446744073709551616 → l = varU m ++ rest → False := fun m rest hm hl => by
                   obtain ⟨m', k1, k2, k3⟩ := g3 m rest hm hl
                   have := congrArg List.length k2
                   obtain ⟨t, ht⟩ := varU_head m'
                   rw [ht, List.length_drop, List.length_append, List.length_cons] at this
                   omega
                 exact Fin.result (O' := (r, ⟨0, false, [.slice a l.length c, I 3]⟩) :: O) (.inr rfl) rfl rfl (fun _ hs => hs) ⟨0, l, 3, rfl, by decide, ⟨a, c, rfl, fun _ h => h, hc, (fun q => by cases q)⟩, fun _ => by decide, Nat.le_refl _, hB, fun _ m rest hm hl => (hz m rest hm hl).elim⟩)
              | exact Fin.result (O' := (r, ⟨0, false, [.slice a l.length c, I e]⟩) :: O) (.inr rfl) rfl rfl (fun _ hs => hs) ⟨0, l, e, rfl, by decide, ⟨a, c, rfl, fun _ h => h, hc, fun q => absurd q hc0⟩, fun _ => hc0, Nat.le_refl _, hB, fun q => absurd q hc0⟩
              | (have hz : ∀ m rest, m < 18446744073709551616 → l = varU m ++ rest → False := fun m rest hm hl => by
                   obtain ⟨m', k1, k2, k3⟩ := g3 m rest hm hl
                   obtain ⟨t, ht⟩ := varU_head m'
                   rw [k2, ht, List.cons_append] at hdc
                   injection hdc with q1 _
                   have h9 : i = 9 → m' ≤ 1 := fun h => by
                     subst h
                     have : m' * 9223372036854775808 < 18446744073709551616 := by
                       have e : (128 ^ 9 : Nat) = 9223372036854775808 := by decide
                       rw [e] at k3
                       omega
                     omega
                   split at q1 <;> omega
                 exact Fin.result (O' := (r, ⟨0, false, [.slice a l.length c, I 2]⟩) :: O) (.inr rfl) rfl rfl (fun _ hs => hs) ⟨0, l, 2, rfl, by decide, ⟨a, c, rfl, fun _ h => h, hc, (fun q => by cases q)⟩, fun _ => by decide, Nat.le_refl _, hB, fun _ m rest hm hl => (hz m rest hm hl).elim⟩)
              | (have hdl : (l.drop (i + 1)).length = l.length - (i + 1) := List.length_drop
                 refine Fin.result (O' := (r, ⟨0, false, [.slice (some ⟨bb, off + (i + 1) * 1, none⟩) (l.length - (i + 1)) (l.length - (i + 1)), I e]⟩) :: O) (.inr rfl) rfl rfl (fun _ hs => hs) ⟨n + (c' % 128) * u, l.drop (i + 1), e, rfl, by omega, ⟨some ⟨bb, off + (i + 1) * 1, none⟩, l.length - (i + 1), by rw [hdl], fun O2 h => by rw [hdl, List.map_drop]; exact (ha ▸ h).suf (by omega), (fun q => by cases q), fun _ => ⟨_, _, rfl⟩⟩, id, by omega, fun z hz => hB z (List.mem_of_mem_drop hz), fun he m rest hm hl => ?_⟩
                 obtain ⟨m', k1, k2, k3⟩ := g3 m rest hm hl
                 rw [← hu] at k3
                 have hm2 : m' < 128 := by
                   rcases Nat.lt_or_ge m' 128 with q | q
                   · exact q
                   · rw [k2, varU_ge (by omega)] at hdc
                     injection hdc with q1 _
                     omega
                 rw [k2, varU_lt hm2] at hdc
                 injection hdc with q1 q2
                 have q3 : c' % 128 = m' := by omega
                 exact ⟨by rw [q3, k3], q2.symm, he⟩)
            · try simp only [cnd] at hc3
              refine WX.skip ?_
              refine Fin.block_normal ?_
              refine Fin.then_normal ?_
              refine WX.region rfl ?_
              refine WXL.move Met.none rfl ?_
              refine WXL.bin Met.none rfl rfl bvA ?_
              refine WXL.assign Met.none rfl ?_
              refine WXL.nil ?_
              refine Fin.loop_next (i + 1, n + (c' % 128) * u) ⟨by simp only; omega, ?_, ?_⟩ (by simp only; omega) ?_
              · simp only
                rw [Nat.pow_succ, ← hu]
                omega
              · intro m rest hm hl
                obtain ⟨m', k1, k2, k3⟩ := g3 m rest hm hl
                rw [← hu] at k3
                have hm2 : ¬ m' < 128 := fun q => by
                  rw [k2, varU_lt q] at hdc
                  injection hdc with q1 _
                  omega
                rw [k2, varU_ge hm2] at hdc
                injection hdc with q1 q2
                have q3 : m' % 128 = c' % 128 := by omega
                refine ⟨m' / 128, .inr (by omega), q2.symm, ?_⟩
                simp only
                rw [Nat.pow_succ, ← hu, ← k3]
                have q4 : m' = m' % 128 + 128 * (m' / 128) := by omega
                conv => rhs; rw [q4, Nat.add_mul, q3]
                rw [Nat.add_assoc]
                congr 2
                rw [Nat.mul_comm u 128, ← Nat.mul_assoc, Nat.mul_comm (m' / 128) 128]
              · rw [show IntKind.wrap .u64 ((u : Int) * 128) = ((128 ^ (i + 1) : Nat) : Int) from by
                  rw [Nat.pow_succ, ← hu]
                  exact (wrap_u64 (by omega) (by omega)).trans (by omega)]
                exact (fun s hs => hs.tl [0] 1)
      · try simp only [cnd] at hg33
        refine WXL.miss (j := 2) (d := 33) rfl rfl rfl ?_
        refine WXL.miss (j := 2) (d := 33) rfl rfl rfl ?_
        refine WXL.pick_f Met.none rfl rfl ?_
        refine WXL.move Met.none rfl ?_
        refine WXL.move (Met.some rfl rfl rfl) rfl ?_
        refine WXL.bin (Met.some rfl rfl rfl) rfl rfl rfl ?_
        refine WXL.move (Met.some rfl rfl rfl) rfl ?_
        refine WXL.split (d := 40) rfl (fun hg40 => ?_) (fun hg40 => ?_)
        · try simp only [cnd] at hg40
          refine WXL.move (Met.some rfl rfl rfl) rfl ?_
          refine WXL.bin (Met.some rfl rfl rfl) rfl rfl rfl ?_
          refine WXL.pick_t (Met.some rfl rfl rfl) rfl rfl ?_
          refine WXL.pick_f Met.none rfl rfl ?_
          refine WXL.nil ?_
          refine Fin.then_normal ?_
          refine WX.cond rfl (fun hc2 => ?_) (fun hc2 => ?_)
          · try simp only [cnd] at hc2
            refine WX.seq ?_
            refine WX.region rfl ?_
            refine WXL.move Met.none rfl ?_
            refine WXL.nilCheck Met.none rfl ?_
            first | refine WXL.fieldAddr Met.none rfl Try.underlying106 rfl sz47 rfl ?_ | refine WXL.faS Met.none rfl Try.underlying106 rfl sz47 ?_
            refine WXL.st (vs := [_]) Met.none rfl rfl rfl sz47 ?_
            refine WXL.nil ?_
            refine Fin.then_normal ?_
            refine WX.exit ?_
            refine Fin.then_exit ?_
            refine Fin.block_miss rfl ?_
            refine Fin.then_exit ?_
            refine Fin.loop_exit ?_
            refine Fin.block_hit rfl ?_
            refine Fin.then_normal ?_
            refine WX.seq ?_
            refine WX.region rfl ?_
            refine WXL.assign Met.none rfl ?_
            refine WXL.nil ?_
            refine Fin.then_normal ?_
            refine WX.ret ?_
            first
            | (have hz : ∀ m rest, m < 18446744073709551616 → l = varU m ++ rest → False := fun m rest hm hl => by
                 obtain ⟨m', k1, k2, k3⟩ := g3 m rest hm hl
                 have := congrArg List.length k2
                 obtain ⟨t, ht⟩ := varU_head m'
                 rw [ht, List.length_drop, List.length_append, List.length_cons] at this
                 omega
               exact Fin.result (O' := (r, ⟨0, false, [.slice a l.length c, I 3]⟩) :: O) (.inr rfl) rfl rfl (fun _ hs => hs) ⟨0, l, 3, rfl, by decide, ⟨a, c, rfl, fun _ h => h, hc, (fun q => by cases q)⟩, fun _ => by decide, Nat.le_refl _, hB, fun _ m rest hm hl => (hz m rest hm hl).elim⟩)
            | exact Fin.result (O' := (r, ⟨0, false, [.slice a l.length c, I e]⟩) :: O) (.inr rfl) rfl rfl (fun _ hs => hs) ⟨0, l, e, rfl, by decide, ⟨a, c, rfl, fun _ h => h, hc, fun q => absurd q hc0⟩, fun _ => hc0, Nat.le_refl _, hB, fun q => absurd q hc0⟩
            | (have hz : ∀ m rest, m < 18446744073709551616 → l = varU m ++ rest → False := fun m rest hm hl => by
                 obtain ⟨m', k1, k2, k3⟩ := g3 m rest hm hl
                 obtain ⟨t, ht⟩ := varU_head m'
                 rw [k2, ht, List.cons_append] at hdc
                 injection hdc with q1 _
                 have h9 : i = 9 → m' ≤ 1 := fun h => by
                   subst h
                   have : m' * 9223372036854775808 < 18446744073709551616 := by
                     have e : (128 ^ 9 : Nat) = 9223372036854775808 := by decide
                     rw [e] at k3
                     omega
                   omega
                 split at q1 <;> omega
               exact Fin.result (O' := (r, ⟨0, false, [.slice a l.length c, I 2]⟩) :: O) (.inr rfl) rfl rfl (fun _ hs => hs) ⟨0, l, 2, rfl, by decide, ⟨a, c, rfl, fun _ h => h, hc, (fun q => by cases q)⟩, fun _ => by decide, Nat.le_refl _, hB, fun _ m rest hm hl => (hz m rest hm hl).elim⟩)
            | (have hdl : (l.drop (i + 1)).length = l.length - (i + 1) := List.length_drop
               refine Fin.result (O' := (r, ⟨0, false, [.slice (some ⟨bb, off + (i + 1) * 1, none⟩) (l.length - (i + 1)) (l.length - (i + 1)), I e]⟩) :: O) (.inr rfl) rfl rfl (fun _ hs => hs) ⟨n + (c' % 128) * u, l.drop (i + 1), e, rfl, by omega, ⟨some ⟨bb, off + (i + 1) * 1, none⟩, l.length - (i + 1), by rw [hdl], fun O2 h => by rw [hdl, List.map_drop]; exact (ha ▸ h).suf (by omega), (fun q => by cases q), fun _ => ⟨_, _, rfl⟩⟩, id, by omega, fun z hz => hB z (List.mem_of_mem_drop hz), fun he m rest hm hl => ?_⟩
               obtain ⟨m', k1, k2, k3⟩ := g3 m rest hm hl
               rw [← hu] at k3
               have hm2 : m' < 128 := by
                 rcases Nat.lt_or_ge m' 128 with q | q
                 · exact q
                 · rw [k2, varU_ge (by omega)] at hdc
                   injection hdc with q1 _
                   omega
               rw [k2, varU_lt hm2] at hdc
               injection hdc with q1 q2
               have q3 : c' % 128 = m' := by omega
               exact ⟨by rw [q3, k3], q2.symm, he⟩)
          · try simp only [cnd] at hc2
            refine WX.skip ?_
            refine Fin.then_normal ?_
            refine WX.seq ?_
            obtain ⟨u, hu⟩ : ∃ u, u = 128 ^ i := ⟨_, rfl⟩
            have hcu : (c' % 128) * u ≤ 127 * u := Nat.mul_le_mul_right _ (by omega)
            have hi8 : i ≤ 8 → 128 * u ≤ 9223372036854775808 := fun h => by
              rw [hu, Nat.mul_comm, ← Nat.pow_succ]
              exact (pow128 (i := i + 1) (by omega)).2
            have hi9 : i = 9 → (c' % 128) * u ≤ 1 * u := fun h => Nat.mul_le_mul_right _ (by omega)
            rw [← hu] at g2 p1 p2 ⊢
            refine WX.region rfl ?_
            refine WXL.move Met.none rfl ?_
            refine WXL.move Met.none rfl ?_
            refine WXL.rem Met.none rfl rfl (by decide) ?_
            refine WXL.conv Met.none rfl Try.underlying5 Try.underlying42 (show IntKind.wrap .u64 ((nth l i).tmod 128) = ((c' % 128 : Nat) : Int) from by rw [hc', Int.tmod_eq_emod_of_nonneg (by omega)]; exact (wrap_u64 (by omega) (by omega)).trans (by omega)) ?_
            refine WXL.move Met.none rfl ?_
            refine WXL.bin Met.none rfl rfl (show _ = some (U (((c' % 128) * u : Nat) : Int)) from congrArg (fun n => some (U n)) ((wrap_u64 (n := ((c' % 128 : Nat) : Int) * (u : Int)) (by rw [← Int.natCast_mul]; omega) (by rw [← Int.natCast_mul]; omega)).trans (Int.natCast_mul _ _).symm)) ?_
            refine WXL.bin Met.none rfl rfl (show _ = some (U ((n + (c' % 128) * u : Nat) : Int)) from congrArg (fun n => some (U n)) ((wrap_u64 (by omega) (by omega)).trans (by omega))) ?_
            refine WXL.assign Met.none rfl ?_
            refine WXL.nil ?_
            refine Fin.then_normal ?_
            refine WX.seq ?_
            refine WX.region rfl ?_
            refine WXL.move Met.none rfl ?_
            refine WXL.bin Met.none rfl rfl rfl ?_
            refine WXL.assign Met.none rfl ?_
            refine WXL.nil ?_
            refine Fin.then_normal ?_
            refine WX.seq ?_
            refine WX.region rfl ?_
            refine WXL.move Met.none rfl ?_
            refine WXL.bin Met.none rfl rfl rfl ?_
            refine WXL.nil ?_
            refine Fin.then_normal ?_
            refine WX.cond rfl (fun hc3 => ?_) (fun hc3 => ?_)
            · try simp only [cnd] at hc3
              refine WX.seq ?_
              obtain ⟨bb, off, ⟨qsz, qro, qc⟩, ha, hkq, hqs⟩ := hr.some (by omega)
              have hqs : qsz = 1 := hqs
              subst hqs
              refine WX.region rfl ?_
              refine WXL.move Met.none rfl ?_
              refine WXL.move Met.none rfl ?_
              refine WXL.nilCheck Met.none rfl ?_
              first | refine WXL.fieldAddr Met.none rfl Try.underlying106 rfl sz23 rfl ?_ | refine WXL.faS Met.none rfl Try.underlying106 rfl sz23 ?_
              first | refine WXL.ld Met.none rfl agg23 ?_ | refine WXL.ldS Met.none rfl agg23 ?_
              refine WXL.move Met.none rfl ?_
              refine WXL.bin Met.none rfl rfl bvA ?_
              refine WXL.suf (cs := []) (m := (i + 1)) Met.none rfl rfl elem23 sz5 ha hkq.cons rfl ?_
              refine WXL.nilCheck Met.none rfl ?_
              first | refine WXL.fieldAddr Met.none rfl Try.underlying106 rfl sz23 rfl ?_ | refine WXL.faS Met.none rfl Try.underlying106 rfl sz23 ?_
              refine WXL.st (vs := [_]) Met.none rfl rfl rfl sz23 ?_
              refine WXL.nil ?_
              refine Fin.then_normal ?_
              refine WX.seq ?_
              refine WX.region rfl ?_
              refine WXL.move Met.none rfl ?_
              refine WXL.assign Met.none rfl ?_
              refine WXL.nil ?_
              refine Fin.then_normal ?_
              refine WX.ret ?_
              refine Fin.block_ret ?_
              refine Fin.then_ret ?_
              refine Fin.loop_ret ?_
              refine Fin.block_ret ?_
              refine Fin.then_ret ?_
              first
              | (have hz : ∀ m rest, m < 18446744073709551616 → l = varU m ++ rest → False := fun m rest hm hl => by
                   obtain ⟨m', k1, k2, k3⟩ := g3 m rest hm hl
                   have := congrArg List.length k2
                   obtain ⟨t, ht⟩ := varU_head m'
                   rw [ht, List.length_drop, List.length_append, List.length_cons] at this
                   omega
                 exact Fin.result (O' := (r, ⟨0, false, [.slice a l.length c, I 3]⟩) :: O) (.inr rfl) rfl rfl (fun _ hs => hs) ⟨0, l, 3, rfl, by decide, ⟨a, c, rfl, fun _ h => h, hc, (fun q => by cases q)⟩, fun _ => by decide, Nat.le_refl _, hB, fun _ m rest hm hl => (hz m rest hm hl).elim⟩)
              | exact Fin.result (O' := (r, ⟨0, false, [.slice a l.length c, I e]⟩) :: O) (.inr rfl) rfl rfl (fun _ hs => hs) ⟨0, l, e, rfl, by decide, ⟨a, c, rfl, fun _ h => h, hc, fun q => absurd q hc0⟩, fun _ => hc0, Nat.le_refl _, hB, fun q => absurd q hc0⟩
              | (have hz : ∀ m rest, m < 18446744073709551616 → l = varU m ++ rest → False := fun m rest hm hl => by
                   obtain ⟨m', k1, k2, k3⟩ := g3 m rest hm hl
                   obtain ⟨t, ht⟩ := varU_head m'
                   rw [k2, ht, List.cons_append] at hdc
                   injection hdc with q1 _
                   have h9 : i = 9 → m' ≤ 1 := fun h => by
                     subst h
                     have : m' * 9223372036854775808 < 18446744073709551616 := by
                       have e : (128 ^ 9 : Nat) = 9223372036854775808 := by decide
                       rw [e] at k3
                       omega
                     omega
                   split at q1 <;> omega
                 exact Fin.result (O' := (r, ⟨0, false, [.slice a l.length c, I 2]⟩) :: O) (.inr rfl) rfl rfl (fun _ hs => hs) ⟨0, l, 2, rfl, by decide, ⟨a, c, rfl, fun _ h => h, hc, (fun q => by cases q)⟩, fun _ => by decide, Nat.le_refl _, hB, fun _ m rest hm hl => (hz m rest hm hl).elim⟩)
              | (have hdl : (l.drop (i + 1)).length = l.length - (i + 1) := List.length_drop
                 refine Fin.result (O' := (r, ⟨0, false, [.slice (some ⟨bb, off + (i + 1) * 1, none⟩) (l.length - (i + 1)) (l.length - (i + 1)), I e]⟩) :: O) (.inr rfl) rfl rfl (fun _ hs => hs) ⟨n + (c' % 128) * u, l.drop (i + 1), e, rfl, by omega, ⟨some ⟨bb, off + (i + 1) * 1, none⟩, l.length - (i + 1), by rw [hdl], fun O2 h => by rw [hdl, List.map_drop]; exact (ha ▸ h).suf (by omega), (fun q => by cases q), fun _ => ⟨_, _, rfl⟩⟩, id, by omega, fun z hz => hB z (List.mem_of_mem_drop hz), fun he m rest hm hl => ?_⟩
                 obtain ⟨m', k1, k2, k3⟩ := g3 m rest hm hl
                 rw [← hu] at k3
                 have hm2 : m' < 128 := by
                   rcases Nat.lt_or_ge m' 128 with q | q
                   · exact q
                   · rw [k2, varU_ge (by omega)] at hdc
                     injection hdc with q1 _
                     omega
                 rw [k2, varU_lt hm2] at hdc
                 injection hdc with q1 q2
                 have q3 : c' % 128 = m' := by omega
                 exact ⟨by rw [q3, k3], q2.symm, he⟩)
            · try simp only [cnd] at hc3
              refine WX.skip ?_
              refine Fin.block_normal ?_
              refine Fin.then_normal ?_
              refine WX.region rfl ?_
              refine WXL.move Met.none rfl ?_
              refine WXL.bin Met.none rfl rfl bvA ?_
              refine WXL.assign Met.none rfl ?_
              refine WXL.nil ?_
              refine Fin.loop_next (i + 1, n + (c' % 128) * u) ⟨by simp only; omega, ?_, ?_⟩ (by simp only; omega) ?_
              · simp only
                rw [Nat.pow_succ, ← hu]
                omega
              · intro m rest hm hl
                obtain ⟨m', k1, k2, k3⟩ := g3 m rest hm hl
                rw [← hu] at k3
                have hm2 : ¬ m' < 128 := fun q => by
                  rw [k2, varU_lt q] at hdc
                  injection hdc with q1 _
                  omega
                rw [k2, varU_ge hm2] at hdc
                injection hdc with q1 q2
                have q3 : m' % 128 = c' % 128 := by omega
                refine ⟨m' / 128, .inr (by omega), q2.symm, ?_⟩
                simp only
                rw [Nat.pow_succ, ← hu, ← k3]
                have q4 : m' = m' % 128 + 128 * (m' / 128) := by omega
                conv => rhs; rw [q4, Nat.add_mul, q3]
                rw [Nat.add_assoc]
                congr 2
                rw [Nat.mul_comm u 128, ← Nat.mul_assoc, Nat.mul_comm (m' / 128) 128]
              · rw [show IntKind.wrap .u64 ((u : Int) * 128) = ((128 ^ (i + 1) : Nat) : Int) from by
                  rw [Nat.pow_succ, ← hu]
                  exact (wrap_u64 (by omega) (by omega)).trans (by omega)]
                exact (fun s hs => hs.tl [0] 1)
        · try simp only [cnd] at hg40
          refine WXL.miss (j := 9) (d := 40) rfl rfl rfl ?_
          refine WXL.miss (j := 9) (d := 40) rfl rfl rfl ?_
          refine WXL.pick_f (Met.some rfl rfl rfl) rfl rfl ?_
          refine WXL.pick_f Met.none rfl rfl ?_
          refine WXL.nil ?_
          refine Fin.then_normal ?_
          refine WX.cond rfl (fun hc2 => nomatch hc2) (fun hc2 => ?_)
          refine WX.skip ?_
          refine Fin.then_normal ?_
          refine WX.seq ?_
          obtain ⟨u, hu⟩ : ∃ u, u = 128 ^ i := ⟨_, rfl⟩
          have hcu : (c' % 128) * u ≤ 127 * u := Nat.mul_le_mul_right _ (by omega)
          have hi8 : i ≤ 8 → 128 * u ≤ 9223372036854775808 := fun h => by
            rw [hu, Nat.mul_comm, ← Nat.pow_succ]
            exact (pow128 (i := i + 1) (by omega)).2
          have hi9 : i = 9 → (c' % 128) * u ≤ 1 * u := fun h => Nat.mul_le_mul_right _ (by omega)
          rw [← hu] at g2 p1 p2 ⊢
          refine WX.region rfl ?_
          refine WXL.move Met.none rfl ?_
          refine WXL.move Met.none rfl ?_
          refine WXL.rem Met.none rfl rfl (by decide) ?_
          refine WXL.conv Met.none rfl Try.underlying5 Try.underlying42 (show IntKind.wrap .u64 ((nth l i).tmod 128) = ((c' % 128 : Nat) : Int) from by rw [hc', Int.tmod_eq_emod_of_nonneg (by omega)]; exact (wrap_u64 (by omega) (by omega)).trans (by omega)) ?_
          refine WXL.move Met.none rfl ?_
          refine WXL.bin Met.none rfl rfl (show _ = some (U (((c' % 128) * u : Nat) : Int)) from congrArg (fun n => some (U n)) ((wrap_u64 (n := ((c' % 128 : Nat) : Int) * (u : Int)) (by rw [← Int.natCast_mul]; omega) (by rw [← Int.natCast_mul]; omega)).trans (Int.natCast_mul _ _).symm)) ?_
          refine WXL.bin Met.none rfl rfl (show _ = some (U ((n + (c' % 128) * u : Nat) : Int)) from congrArg (fun n => some (U n)) ((wrap_u64 (by omega) (by omega)).trans (by omega))) ?_
          refine WXL.assign Met.none rfl ?_
          refine WXL.nil ?_
          refine Fin.then_normal ?_
          refine WX.seq ?_
          refine WX.region rfl ?_
          refine WXL.move Met.none rfl ?_
          refine WXL.bin Met.none rfl rfl rfl ?_
          refine WXL.assign Met.none rfl ?_
          refine WXL.nil ?_
          refine Fin.then_normal ?_
          refine WX.seq ?_
          refine WX.region rfl ?_
          refine WXL.move Met.none rfl ?_
          refine WXL.bin Met.none rfl rfl rfl ?_
          refine WXL.nil ?_
          refine Fin.then_normal ?_
          refine WX.cond rfl (fun hc3 => ?_) (fun hc3 => ?_)
          · try simp only [cnd] at hc3
            refine WX.seq ?_
            obtain ⟨bb, off, ⟨qsz, qro, qc⟩, ha, hkq, hqs⟩ := hr.some (by omega)
            have hqs : qsz = 1 := hqs
            subst hqs
            refine WX.region rfl ?_
            refine WXL.move Met.none rfl ?_
            refine WXL.move Met.none rfl ?_
            refine WXL.nilCheck Met.none rfl ?_
            first | refine WXL.fieldAddr Met.none rfl Try.underlying106 rfl sz23 rfl ?_ | refine WXL.faS Met.none rfl Try.underlying106 rfl sz23 ?_
            first | refine WXL.ld Met.none rfl agg23 ?_ | refine WXL.ldS Met.none rfl agg23 ?_
            refine WXL.move Met.none rfl ?_
            refine WXL.bin Met.none rfl rfl bvA ?_
            refine WXL.suf (cs := []) (m := (i + 1)) Met.none rfl rfl elem23 sz5 ha hkq.cons rfl ?_
            refine WXL.nilCheck Met.none rfl ?_
            first | refine WXL.fieldAddr Met.none rfl Try.underlying106 rfl sz23 rfl ?_ | refine WXL.faS Met.none rfl Try.underlying106 rfl sz23 ?_
            refine WXL.st (vs := [_]) Met.none rfl rfl rfl sz23 ?_
            refine WXL.nil ?_
            refine Fin.then_normal ?_
            refine WX.seq ?_
            refine WX.region rfl ?_
            refine WXL.move Met.none rfl ?_
            refine WXL.assign Met.none rfl ?_
            refine WXL.nil ?_
            refine Fin.then_normal ?_
            refine WX.ret ?_
            refine Fin.block_ret ?_
            refine Fin.then_ret ?_
            refine Fin.loop_ret ?_
            refine Fin.block_ret ?_
            refine Fin.then_ret ?_
            first
            | (have hz : ∀ m rest, m < 18446744073709551616 → l = varU m ++ rest → False := fun m rest hm hl => by
                 obtain ⟨m', k1, k2, k3⟩ := g3 m rest hm hl
                 have := congrArg List.length k2
                 obtain ⟨t, ht⟩ := varU_head m'
                 rw [ht, List.length_drop, List.length_append, List.length_cons] at this
                 omega
               exact Fin.result (O' := (r, ⟨0, false, [.slice a l.length c, I 3]⟩) :: O) (.inr rfl) rfl rfl (fun _ hs => hs) ⟨0, l, 3, rfl, by decide, ⟨a, c, rfl, fun _ h => h, hc, (fun q => by cases q)⟩, fun _ => by decide, Nat.le_refl _, hB, fun _ m rest hm hl => (hz m rest hm hl).elim⟩)
            | exact Fin.result (O' := (r, ⟨0, false, [.slice a l.length c, I e]⟩) :: O) (.inr rfl) rfl rfl (fun _ hs => hs) ⟨0, l, e, rfl, by decide, ⟨a, c, rfl, fun _ h => h, hc, fun q => absurd q hc0⟩, fun _ => hc0, Nat.le_refl _, hB, fun q => absurd q hc0⟩
            | (have hz : ∀ m rest, m < 18446744073709551616 → l = varU m ++ rest → False := fun m rest hm hl => by
                 obtain ⟨m', k1, k2, k3⟩ := g3 m rest hm hl
                 obtain ⟨t, ht⟩ := varU_head m'
                 rw [k2, ht, List.cons_append] at hdc
                 injection hdc with q1 _
                 have h9 : i = 9 → m' ≤ 1 := fun h => by
                   subst h
                   have : m' * 9223372036854775808 < 18446744073709551616 := by
                     have e : (128 ^ 9 : Nat) = 9223372036854775808 := by decide
                     rw [e] at k3
                     omega
                   omega
                 split at q1 <;> omega
               exact Fin.result (O' := (r, ⟨0, false, [.slice a l.length c, I 2]⟩) :: O) (.inr rfl) rfl rfl (fun _ hs => hs) ⟨0, l, 2, rfl, by decide, ⟨a, c, rfl, fun _ h => h, hc, (fun q => by cases q)⟩, fun _ => by decide, Nat.le_refl _, hB, fun _ m rest hm hl => (hz m rest hm hl).elim⟩)
            | (have hdl : (l.drop (i + 1)).length = l.length - (i + 1) := List.length_drop
               refine Fin.result (O' := (r, ⟨0, false, [.slice (some ⟨bb, off + (i + 1) * 1, none⟩) (l.length - (i + 1)) (l.length - (i + 1)), I e]⟩) :: O) (.inr rfl) rfl rfl (fun _ hs => hs) ⟨n + (c' % 128) * u, l.drop (i + 1), e, rfl, by omega, ⟨some ⟨bb, off + (i + 1) * 1, none⟩, l.length - (i + 1), by rw [hdl], fun O2 h => by rw [hdl, List.map_drop]; exact (ha ▸ h).suf (by omega), (fun q => by cases q), fun _ => ⟨_, _, rfl⟩⟩, id, by omega, fun z hz => hB z (List.mem_of_mem_drop hz), fun he m rest hm hl => ?_⟩
               obtain ⟨m', k1, k2, k3⟩ := g3 m rest hm hl
               rw [← hu] at k3
               have hm2 : m' < 128 := by
                 rcases Nat.lt_or_ge m' 128 with q | q
                 · exact q
                 · rw [k2, varU_ge (by omega)] at hdc
                   injection hdc with q1 _
                   omega
               rw [k2, varU_lt hm2] at hdc
               injection hdc with q1 q2
               have q3 : c' % 128 = m' := by omega
               exact ⟨by rw [q3, k3], q2.symm, he⟩)
          · try simp only [cnd] at hc3
            refine WX.skip ?_
            refine Fin.block_normal ?_
            refine Fin.then_normal ?_
            refine WX.region rfl ?_
            refine WXL.move Met.none rfl ?_
            refine WXL.bin Met.none rfl rfl bvA ?_
            refine WXL.assign Met.none rfl ?_
            refine WXL.nil ?_
            refine Fin.loop_next (i + 1, n + (c' % 128) * u) ⟨by simp only; omega, ?_, ?_⟩ (by simp only; omega) ?_
            · simp only
              rw [Nat.pow_succ, ← hu]
              omega
            · intro m rest hm hl
              obtain ⟨m', k1, k2, k3⟩ := g3 m rest hm hl
              rw [← hu] at k3
              have hm2 : ¬ m' < 128 := fun q => by
                rw [k2, varU_lt q] at hdc
                injection hdc with q1 _
                omega
              rw [k2, varU_ge hm2] at hdc
              injection hdc with q1 q2
              have q3 : m' % 128 = c' % 128 := by omega
              refine ⟨m' / 128, .inr (by omega), q2.symm, ?_⟩
              simp only
              rw [Nat.pow_succ, ← hu, ← k3]
              have q4 : m' = m' % 128 + 128 * (m' / 128) := by omega
              conv => rhs; rw [q4, Nat.add_mul, q3]
              rw [Nat.add_assoc]
              congr 2
              rw [Nat.mul_comm u 128, ← Nat.mul_assoc, Nat.mul_comm (m' / 128) 128]
            · rw [show IntKind.wrap .u64 ((u : Int) * 128) = ((128 ^ (i + 1) : Nat) : Int) from by
                rw [Nat.pow_succ, ← hu]
                exact (wrap_u64 (by omega) (by omega)).trans (by omega)]
              exact (fun s hs => hs.tl [0] 1)
  · try simp only [cnd] at hc0
    refine WX.exit ?_
    refine Fin.then_exit ?_
    refine Fin.loop_exit ?_
    refine Fin.block_hit rfl ?_
    refine Fin.then_normal ?_
    refine WX.seq ?_
    refine WX.region rfl ?_
    refine WXL.assign Met.none rfl ?_
    refine WXL.nil ?_
    refine Fin.then_normal ?_
    refine WX.ret ?_
    first
    | (have hz : ∀ m rest, m < 18446744073709551616 → l = varU m ++ rest → False := fun m rest hm hl => by
         obtain ⟨m', k1, k2, k3⟩ := g3 m rest hm hl
         have := congrArg List.length k2
         obtain ⟨t, ht⟩ := varU_head m'
         rw [ht, List.length_drop, List.length_append, List.length_cons] at this
         omega
       exact Fin.result (O' := (r, ⟨0, false, [.slice a l.length c, I 3]⟩) :: O) (.inr rfl) rfl rfl (fun _ hs => hs) ⟨0, l, 3, rfl, by decide, ⟨a, c, rfl, fun _ h => h, hc, (fun q => by cases q)⟩, fun _ => by decide, Nat.le_refl _, hB, fun _ m rest hm hl => (hz m rest hm hl).elim⟩)
    | exact Fin.result (O' := (r, ⟨0, false, [.slice a l.length c, I e]⟩) :: O) (.inr rfl) rfl rfl (fun _ hs => hs) ⟨0, l, e, rfl, by decide, ⟨a, c, rfl, fun _ h => h, hc, fun q => absurd q hc0⟩, fun _ => hc0, Nat.le_refl _, hB, fun q => absurd q hc0⟩
    | (have hz : ∀ m rest, m < 18446744073709551616 → l = varU m ++ rest → False := fun m rest hm hl => by
         obtain ⟨m', k1, k2, k3⟩ := g3 m rest hm hl
         obtain ⟨t, ht⟩ := varU_head m'
         rw [k2, ht, List.cons_append] at hdc
         injection hdc with q1 _
         have h9 : i = 9 → m' ≤ 1 := fun h => by
           subst h
           have : m' * 9223372036854775808 < 18446744073709551616 := by
             have e : (128 ^ 9 : Nat) = 9223372036854775808 := by decide
             rw [e] at k3
             omega
           omega
         split at q1 <;> omega
       exact Fin.result (O' := (r, ⟨0, false, [.slice a l.length c, I 2]⟩) :: O) (.inr rfl) rfl rfl (fun _ hs => hs) ⟨0, l, 2, rfl, by decide, ⟨a, c, rfl, fun _ h => h, hc, (fun q => by cases q)⟩, fun _ => by decide, Nat.le_refl _, hB, fun _ m rest hm hl => (hz m rest hm hl).elim⟩)
    | (have hdl : (l.drop (i + 1)).length = l.length - (i + 1) := List.length_drop
       refine Fin.result (O' := (r, ⟨0, false, [.slice (some ⟨bb, off + (i + 1) * 1, none⟩) (l.length - (i + 1)) (l.length - (i + 1)), I e]⟩) :: O) (.inr rfl) rfl rfl (fun _ hs => hs) ⟨n + (c' % 128) * u, l.drop (i + 1), e, rfl, by omega, ⟨some ⟨bb, off + (i + 1) * 1, none⟩, l.length - (i + 1), by rw [hdl], fun O2 h => by rw [hdl, List.map_drop]; exact (ha ▸ h).suf (by omega), (fun q => by cases q), fun _ => ⟨_, _, rfl⟩⟩, id, by omega, fun z hz => hB z (List.mem_of_mem_drop hz), fun he m rest hm hl => ?_⟩
       obtain ⟨m', k1, k2, k3⟩ := g3 m rest hm hl
       rw [← hu] at k3
       have hm2 : m' < 128 := by
         rcases Nat.lt_or_ge m' 128 with q | q
         · exact q
         · rw [k2, varU_ge (by omega)] at hdc
           injection hdc with q1 _
           omega
       rw [k2, varU_lt hm2] at hdc
       injection hdc with q1 q2
       have q3 : c' % 128 = m' := by omega
       exact ⟨by rw [q3, k3], q2.symm, he⟩)

end Go.Proofs.Ythekokdpplobhaa.Eng

set_option linter.unusedVariables false
set_option linter.unusedSimpArgs false
namespace Go.Proofs.Ythekokdpplobhaa.Eng

theorem refLength_ok (O : Objs) (r : Nat) (l : List Int) (e : Int) (a : Option Addr) (c : Nat) (hB : Bytes l) (hlen : l.length ≤ 1000000000000) (hr : Rowy O 1 a l.length (l.map B8)) (hc : a = none → c = 0) :
    Spec Try.prog false 79 #[Ptr r 0] ((r, ⟨0, false, [.slice a l.length c, I e]⟩) :: O) fun v O' => ∃ n l' e', v = I (n : Nat) ∧ (e' = 0 → n ≤ l'.length) ∧ RrO O r a l l' e' O' ∧ (e ≠ 0 → e' ≠ 0) ∧ l'.length ≤ l.length ∧ Bytes l' ∧ (e = 0 → ∀ m rest, m < 18446744073709551616 → m ≤ rest.length → l = varU m ++ rest → n = m ∧ l' = rest ∧ e' = 0) := by
  refine Spec.enter (args := [_]) (m := 31) Try.func79 rfl rfl (by decide +kernel) fun h0 => ?_
  refine WX.seq ?_
  refine WX.region rfl ?_
  refine WXL.assign Met.none rfl ?_
  refine WXL.nil ?_
  refine Fin.then_normal ?_
  refine WX.seq ?_
  refine WX.region rfl ?_
  refine WXL.move Met.none rfl ?_
  refine WXL.cl (O1 := _) Met.none rfl (fnOk_of Try.func81 (by decide +kernel)) rfl (fun _ h => h) (refRUint_ok O r l e a c hB hlen hr hc) (fun v O' hp => ?_)
  obtain ⟨n, l1, e1, rfl, hn, ⟨a1, c1, rfl, kr1, kc1, ka1⟩, he1, hl1, hB1, hm1⟩ := hp
  have hr1 := kr1 O hr
  refine WXL.assign Met.none rfl ?_
  refine WXL.nil ?_
  refine Fin.then_normal ?_
  refine WX.seq ?_
  refine WX.seq ?_
  refine WX.region rfl ?_
  refine WXL.move Met.none rfl ?_
  refine WXL.nilCheck Met.none rfl ?_
  first | refine WXL.fieldAddr Met.none rfl Try.underlying106 rfl sz47 rfl ?_ | refine WXL.faS Met.none rfl Try.underlying106 rfl sz47 ?_
  first | refine WXL.ld Met.none rfl agg47 ?_ | refine WXL.ldS Met.none rfl agg47 ?_
  refine WXL.bin Met.none rfl rfl rfl ?_
  refine WXL.move Met.none rfl ?_
  refine WXL.split (d := 11) rfl (fun hg11 => ?_) (fun hg11 => ?_)
  · try simp only [cnd] at hg11
    refine WXL.move (Met.some rfl rfl rfl) rfl ?_
    refine WXL.move (Met.some rfl rfl rfl) rfl ?_
    refine WXL.nilCheck (Met.some rfl rfl rfl) rfl ?_
    first | refine WXL.fieldAddr (Met.some rfl rfl rfl) rfl Try.underlying106 rfl sz23 rfl ?_ | refine WXL.faS (Met.some rfl rfl rfl) rfl Try.underlying106 rfl sz23 ?_
    first | refine WXL.ld (Met.some rfl rfl rfl) rfl agg23 ?_ | refine WXL.ldS (Met.some rfl rfl rfl) rfl agg23 ?_
    refine WXL.len (Met.some rfl rfl rfl) rfl Try.underlying23 ?_
    refine WXL.conv (Met.some rfl rfl rfl) rfl Try.underlying3 Try.underlying42 (wrap_u64 (by omega) (by omega)) ?_
    refine WXL.bin (Met.some rfl rfl rfl) rfl rfl rfl ?_
    refine WXL.pick_t Met.none rfl rfl ?_
    refine WXL.nil ?_
    refine Fin.then_normal ?_
    refine WX.cond rfl (fun hc0 => ?_) (fun hc0 => ?_)
    · try simp only [cnd] at hc0
      refine WX.region rfl ?_
      refine WXL.move Met.none rfl ?_
      refine WXL.nilCheck Met.none rfl ?_
      first | refine WXL.fieldAddr Met.none rfl Try.underlying106 rfl sz47 rfl ?_ | refine WXL.faS Met.none rfl Try.underlying106 rfl sz47 ?_
      refine WXL.st (vs := [_]) Met.none rfl rfl rfl sz47 ?_
      refine WXL.nil ?_
      refine Fin.then_normal ?_
      refine WX.seq ?_
      refine WX.seq ?_
      refine WX.region rfl ?_
      refine WXL.move Met.none rfl ?_
      refine WXL.nilCheck Met.none rfl ?_
      first | refine WXL.fieldAddr Met.none rfl Try.underlying106 rfl sz47 rfl ?_ | refine WXL.faS Met.none rfl Try.underlying106 rfl sz47 ?_
      first | refine WXL.ld Met.none rfl agg47 ?_ | refine WXL.ldS Met.none rfl agg47 ?_
      refine WXL.bin Met.none rfl rfl rfl ?_
      refine WXL.nil ?_
      refine Fin.then_normal ?_
      refine WX.cond rfl (fun hc1 => ?_) (fun hc1 => ?_)
      · try simp only [cnd] at hc1
        refine WX.seq ?_
        refine WX.region rfl ?_
        refine WXL.assign Met.none rfl ?_
        refine WXL.nil ?_
        refine Fin.then_normal ?_
        refine WX.ret ?_
        refine Fin.then_ret ?_
        first
        | exact Fin.result (O' := (r, ⟨0, false, [.slice a1 l1.length c1, I e1]⟩) :: O) (.inr rfl) rfl rfl (fun _ hs => hs) ⟨n, l1, e1, rfl, fun _ => by omega, ⟨a1, c1, rfl, kr1, kc1, ka1⟩, he1, hl1, hB1, fun he m rest hm _ hl => hm1 he m rest hm hl⟩
        | exact Fin.result (O' := (r, ⟨0, false, [.slice a1 l1.length c1, I 3]⟩) :: O) (.inr rfl) rfl rfl (fun _ hs => hs) ⟨0, l1, 3, rfl, fun _ => by omega, ⟨a1, c1, rfl, kr1, kc1, (fun q => by cases q)⟩, fun _ => by decide, hl1, hB1, fun he m rest hm hm2 hl => by
            obtain ⟨q1, q2, q3⟩ := hm1 he m rest hm hl
            subst q1 q2
            omega⟩
        | exact Fin.result (O' := (r, ⟨0, false, [.slice a1 l1.length c1, I e1]⟩) :: O) (.inr rfl) rfl rfl (fun _ hs => hs) ⟨0, l1, e1, rfl, fun _ => by omega, ⟨a1, c1, rfl, kr1, kc1, ka1⟩, he1, hl1, hB1, fun he m rest hm hm2 hl => by
            obtain ⟨q1, q2, q3⟩ := hm1 he m rest hm hl
            omega⟩
        | exact absurd hc1 (by decide)
      · try simp only [cnd] at hc1
        refine WX.skip ?_
        refine Fin.then_normal ?_
        refine WX.seq ?_
        refine WX.region rfl ?_
        refine WXL.move Met.none rfl ?_
        refine WXL.conv Met.none rfl Try.underlying42 Try.underlying3 (wrap_i64 (by omega) (by omega)) ?_
        refine WXL.assign Met.none rfl ?_
        refine WXL.nil ?_
        refine Fin.then_normal ?_
        refine WX.ret ?_
        first
        | exact Fin.result (O' := (r, ⟨0, false, [.slice a1 l1.length c1, I e1]⟩) :: O) (.inr rfl) rfl rfl (fun _ hs => hs) ⟨n, l1, e1, rfl, fun _ => by omega, ⟨a1, c1, rfl, kr1, kc1, ka1⟩, he1, hl1, hB1, fun he m rest hm _ hl => hm1 he m rest hm hl⟩
        | exact Fin.result (O' := (r, ⟨0, false, [.slice a1 l1.length c1, I 3]⟩) :: O) (.inr rfl) rfl rfl (fun _ hs => hs) ⟨0, l1, 3, rfl, fun _ => by omega, ⟨a1, c1, rfl, kr1, kc1, (fun q => by cases q)⟩, fun _ => by decide, hl1, hB1, fun he m rest hm hm2 hl => by
            obtain ⟨q1, q2, q3⟩ := hm1 he m rest hm hl
            subst q1 q2
            omega⟩
        | exact Fin.result (O' := (r, ⟨0, false, [.slice a1 l1.length c1, I e1]⟩) :: O) (.inr rfl) rfl rfl (fun _ hs => hs) ⟨0, l1, e1, rfl, fun _ => by omega, ⟨a1, c1, rfl, kr1, kc1, ka1⟩, he1, hl1, hB1, fun he m rest hm hm2 hl => by
            obtain ⟨q1, q2, q3⟩ := hm1 he m rest hm hl
            omega⟩
        | exact absurd hc1 (by decide)
    · try simp only [cnd] at hc0
      refine WX.skip ?_
      refine Fin.then_normal ?_
      refine WX.seq ?_
      refine WX.seq ?_
      refine WX.region rfl ?_
      refine WXL.move Met.none rfl ?_
      refine WXL.nilCheck Met.none rfl ?_
      first | refine WXL.fieldAddr Met.none rfl Try.underlying106 rfl sz47 rfl ?_ | refine WXL.faS Met.none rfl Try.underlying106 rfl sz47 ?_
      first | refine WXL.ld Met.none rfl agg47 ?_ | refine WXL.ldS Met.none rfl agg47 ?_
      refine WXL.bin Met.none rfl rfl rfl ?_
      refine WXL.nil ?_
      refine Fin.then_normal ?_
      refine WX.cond rfl (fun hc1 => ?_) (fun hc1 => ?_)
      · try simp only [cnd] at hc1
        refine WX.seq ?_
        refine WX.region rfl ?_
        refine WXL.assign Met.none rfl ?_
        refine WXL.nil ?_
        refine Fin.then_normal ?_
        refine WX.ret ?_
        refine Fin.then_ret ?_
        first
        | exact Fin.result (O' := (r, ⟨0, false, [.slice a1 l1.length c1, I e1]⟩) :: O) (.inr rfl) rfl rfl (fun _ hs => hs) ⟨n, l1, e1, rfl, fun _ => by omega, ⟨a1, c1, rfl, kr1, kc1, ka1⟩, he1, hl1, hB1, fun he m rest hm _ hl => hm1 he m rest hm hl⟩
        | exact Fin.result (O' := (r, ⟨0, false, [.slice a1 l1.length c1, I 3]⟩) :: O) (.inr rfl) rfl rfl (fun _ hs => hs) ⟨0, l1, 3, rfl, fun _ => by omega, ⟨a1, c1, rfl, kr1, kc1, (fun q => by cases q)⟩, fun _ => by decide, hl1, hB1, fun he m rest hm hm2 hl => by
            obtain ⟨q1, q2, q3⟩ := hm1 he m rest hm hl
            subst q1 q2
            omega⟩
        | exact Fin.result (O' := (r, ⟨0, false, [.slice a1 l1.length c1, I e1]⟩) :: O) (.inr rfl) rfl rfl (fun _ hs => hs) ⟨0, l1, e1, rfl, fun _ => by omega, ⟨a1, c1, rfl, kr1, kc1, ka1⟩, he1, hl1, hB1, fun he m rest hm hm2 hl => by
            obtain ⟨q1, q2, q3⟩ := hm1 he m rest hm hl
            omega⟩
        | exact absurd hc1 (by decide)
      · try simp only [cnd] at hc1
        refine WX.skip ?_
        refine Fin.then_normal ?_
        refine WX.seq ?_
        refine WX.region rfl ?_
        refine WXL.move Met.none rfl ?_
        refine WXL.conv Met.none rfl Try.underlying42 Try.underlying3 (wrap_i64 (by omega) (by omega)) ?_
        refine WXL.assign Met.none rfl ?_
        refine WXL.nil ?_
        refine Fin.then_normal ?_
        refine WX.ret ?_
        first
        | exact Fin.result (O' := (r, ⟨0, false, [.slice a1 l1.length c1, I e1]⟩) :: O) (.inr rfl) rfl rfl (fun _ hs => hs) ⟨n, l1, e1, rfl, fun _ => by omega, ⟨a1, c1, rfl, kr1, kc1, ka1⟩, he1, hl1, hB1, fun he m rest hm _ hl => hm1 he m rest hm hl⟩
        | exact Fin.result (O' := (r, ⟨0, false, [.slice a1 l1.length c1, I 3]⟩) :: O) (.inr rfl) rfl rfl (fun _ hs => hs) ⟨0, l1, 3, rfl, fun _ => by omega, ⟨a1, c1, rfl, kr1, kc1, (fun q => by cases q)⟩, fun _ => by decide, hl1, hB1, fun he m rest hm hm2 hl => by
            obtain ⟨q1, q2, q3⟩ := hm1 he m rest hm hl
            subst q1 q2
            omega⟩
        | exact Fin.result (O' := (r, ⟨0, false, [.slice a1 l1.length c1, I e1]⟩) :: O) (.inr rfl) rfl rfl (fun _ hs => hs) ⟨0, l1, e1, rfl, fun _ => by omega, ⟨a1, c1, rfl, kr1, kc1, ka1⟩, he1, hl1, hB1, fun he m rest hm hm2 hl => by
            obtain ⟨q1, q2, q3⟩ := hm1 he m rest hm hl
            omega⟩
        | exact absurd hc1 (by decide)
  · try simp only [cnd] at hg11
    refine WXL.miss (j := 5) (d := 11) rfl rfl rfl ?_
    refine WXL.miss (j := 5) (d := 11) rfl rfl rfl ?_
    refine WXL.miss (j := 5) (d := 11) rfl rfl rfl ?_
    refine WXL.miss (j := 5) (d := 11) rfl rfl rfl ?_
    refine WXL.miss (j := 5) (d := 11) rfl rfl rfl ?_
    refine WXL.miss (j := 5) (d := 11) rfl rfl rfl ?_
    refine WXL.miss (j := 5) (d := 11) rfl rfl rfl ?_
    refine WXL.miss (j := 5) (d := 11) rfl rfl rfl ?_
    refine WXL.pick_f Met.none rfl rfl ?_
    refine WXL.nil ?_
    refine Fin.then_normal ?_
    refine WX.cond rfl (fun hc0 => nomatch hc0) (fun hc0 => ?_)
    refine WX.skip ?_
    refine Fin.then_normal ?_
    refine WX.seq ?_
    refine WX.seq ?_
    refine WX.region rfl ?_
    refine WXL.move Met.none rfl ?_
    refine WXL.nilCheck Met.none rfl ?_
    first | refine WXL.fieldAddr Met.none rfl Try.underlying106 rfl sz47 rfl ?_ | refine WXL.faS Met.none rfl Try.underlying106 rfl sz47 ?_
    first | refine WXL.ld Met.none rfl agg47 ?_ | refine WXL.ldS Met.none rfl agg47 ?_
    refine WXL.bin Met.none rfl rfl rfl ?_
    refine WXL.nil ?_
    refine Fin.then_normal ?_
    refine WX.cond rfl (fun hc1 => ?_) (fun hc1 => ?_)
    · try simp only [cnd] at hc1
      refine WX.seq ?_
      refine WX.region rfl ?_
      refine WXL.assign Met.none rfl ?_
      refine WXL.nil ?_
      refine Fin.then_normal ?_
      refine WX.ret ?_
      refine Fin.then_ret ?_
      first
      | exact Fin.result (O' := (r, ⟨0, false, [.slice a1 l1.length c1, I e1]⟩) :: O) (.inr rfl) rfl rfl (fun _ hs => hs) ⟨n, l1, e1, rfl, fun _ => by omega, ⟨a1, c1, rfl, kr1, kc1, ka1⟩, he1, hl1, hB1, fun he m rest hm _ hl => hm1 he m rest hm hl⟩
      | exact Fin.result (O' := (r, ⟨0, false, [.slice a1 l1.length c1, I 3]⟩) :: O) (.inr rfl) rfl rfl (fun _ hs => hs) ⟨0, l1, 3, rfl, fun _ => by omega, ⟨a1, c1, rfl, kr1, kc1, (fun q => by cases q)⟩, fun _ => by decide, hl1, hB1, fun he m rest hm hm2 hl => by
          obtain ⟨q1, q2, q3⟩ := hm1 he m rest hm hl
          subst q1 q2
          omega⟩
      | exact Fin.result (O' := (r, ⟨0, false, [.slice a1 l1.length c1, I e1]⟩) :: O) (.inr rfl) rfl rfl (fun _ hs => hs) ⟨0, l1, e1, rfl, fun _ => by omega, ⟨a1, c1, rfl, kr1, kc1, ka1⟩, he1, hl1, hB1, fun he m rest hm hm2 hl => by
          obtain ⟨q1, q2, q3⟩ := hm1 he m rest hm hl
          omega⟩
      | exact absurd hc1 (by decide)
    · try simp only [cnd] at hc1
      refine WX.skip ?_
      refine Fin.then_normal ?_
      refine WX.seq ?_
      refine WX.region rfl ?_
      refine WXL.move Met.none rfl ?_
      refine WXL.conv Met.none rfl Try.underlying42 Try.underlying3 (wrap_i64 (by omega) (by omega)) ?_
      refine WXL.assign Met.none rfl ?_
      refine WXL.nil ?_
      refine Fin.then_normal ?_
      refine WX.ret ?_
      first
      | exact Fin.result (O' := (r, ⟨0, false, [.slice a1 l1.length c1, I e1]⟩) :: O) (.inr rfl) rfl rfl (fun _ hs => hs) ⟨n, l1, e1, rfl, fun _ => by omega, ⟨a1, c1, rfl, kr1, kc1, ka1⟩, he1, hl1, hB1, fun he m rest hm _ hl => hm1 he m rest hm hl⟩
      | exact Fin.result (O' := (r, ⟨0, false, [.slice a1 l1.length c1, I 3]⟩) :: O) (.inr rfl) rfl rfl (fun _ hs => hs) ⟨0, l1, 3, rfl, fun _ => by omega, ⟨a1, c1, rfl, kr1, kc1, (fun q => by cases q)⟩, fun _ => by decide, hl1, hB1, fun he m rest hm hm2 hl => by
          obtain ⟨q1, q2, q3⟩ := hm1 he m rest hm hl
          subst q1 q2
          omega⟩
      | exact Fin.result (O' := (r, ⟨0, false, [.slice a1 l1.length c1, I e1]⟩) :: O) (.inr rfl) rfl rfl (fun _ hs => hs) ⟨0, l1, e1, rfl, fun _ => by omega, ⟨a1, c1, rfl, kr1, kc1, ka1⟩, he1, hl1, hB1, fun he m rest hm hm2 hl => by
          obtain ⟨q1, q2, q3⟩ := hm1 he m rest hm hl
          omega⟩
      | exact absurd hc1 (by decide)

theorem refRRaw_ok (O : Objs) (r : Nat) (l : List Int) (e : Int) (a : Option Addr) (c : Nat) (hB : Bytes l) (hlen : l.length ≤ 1000000000000) (hr : Rowy O 1 a l.length (l.map B8)) (hc : a = none → c = 0) :
    Spec Try.prog false 68 #[Ptr r 0] ((r, ⟨0, false, [.slice a l.length c, I e]⟩) :: O) fun v O' => ∃ x l' e' ax cx, v = .slice ax (x : List Int).length cx ∧ (∀ O2, Rowy O2 1 a l.length (l.map B8) → Rowy O2 1 ax x.length (x.map B8)) ∧ (ax = none → cx = 0) ∧ RrO O r a l l' e' O' ∧ (e ≠ 0 → e' ≠ 0) ∧ x.length ≤ l.length ∧ Bytes x ∧ l'.length ≤ l.length ∧ Bytes l' ∧ (e = 0 → ∀ y rest, y.length < 18446744073709551616 → l = rawB y ++ rest → x = y ∧ l' = rest ∧ e' = 0) := by
  refine Spec.enter (args := [_]) (m := 28) Try.func68 rfl rfl (by decide +kernel) fun h0 => ?_
  refine WX.seq ?_
  refine WX.region rfl ?_
  refine WXL.assign Met.none rfl ?_
  refine WXL.nil ?_
  refine Fin.then_normal ?_
  refine WX.seq ?_
  refine WX.region rfl ?_
  refine WXL.move Met.none rfl ?_
  refine WXL.cl (O1 := _) Met.none rfl (fnOk_of Try.func79 (by decide +kernel)) rfl (fun _ h => h) (refLength_ok O r l e a c hB hlen hr hc) (fun v O' hp => ?_)
  obtain ⟨n, l1, e1, rfl, hn, ⟨a1, c1, rfl, kr1, kc1, ka1⟩, he1, hl1, hB1, hm1⟩ := hp
  have hr1 := kr1 O hr
  refine WXL.assign Met.none rfl ?_
  refine WXL.nil ?_
  refine Fin.then_normal ?_
  refine WX.seq ?_
  refine WX.seq ?_
  refine WX.region rfl ?_
  refine WXL.move Met.none rfl ?_
  refine WXL.nilCheck Met.none rfl ?_
  first | refine WXL.fieldAddr Met.none rfl Try.underlying106 rfl sz47 rfl ?_ | refine WXL.faS Met.none rfl Try.underlying106 rfl sz47 ?_
  first | refine WXL.ld Met.none rfl agg47 ?_ | refine WXL.ldS Met.none rfl agg47 ?_
  refine WXL.bin Met.none rfl rfl rfl ?_
  refine WXL.nil ?_
  refine Fin.then_normal ?_
  refine WX.cond rfl (fun hc0 => ?_) (fun hc0 => ?_)
  · try simp only [cnd] at hc0
    refine WX.seq ?_
    refine WX.region rfl ?_
    refine WXL.assign Met.none rfl ?_
    refine WXL.nil ?_
    refine Fin.then_normal ?_
    refine WX.ret ?_
    refine Fin.then_ret ?_
    first
    | exact Fin.result (O' := (r, ⟨0, false, [.slice a1 l1.length c1, I e1]⟩) :: O) (.inr rfl) rfl rfl (fun _ hs => hs) ⟨[], l1, e1, none, 0, rfl, fun _ _ => .inl ⟨rfl, rfl, rfl⟩, fun _ => rfl, ⟨a1, c1, rfl, kr1, kc1, ka1⟩, he1, Nat.zero_le _, (fun z hz => by simp at hz), hl1, hB1, fun he y rest hy hl => by
        have := (hm1 he y.length (y ++ rest) hy (by rw [List.length_append]; omega) (by rw [hl]; unfold rawB; rw [List.append_assoc])).2.2
        omega⟩
    | (refine Fin.result (O' := (r, ⟨0, false, [.slice (some ⟨bb, off + n * 1, none⟩) (l1.length - n) (l1.length - n), I e1]⟩) :: O) (.inr rfl) rfl rfl (fun _ hs => hs) ⟨l1.take n, l1.drop n, e1, some ⟨bb, off, none⟩, n, by rw [htl]; rfl, fun O2 h => by have h4 := (kr1 O2 h).pre (m := n) (by omega); rw [Nat.mul_one, ← List.map_take] at h4; rw [htl]; exact h4, (fun q => by cases q), ⟨some ⟨bb, off + n * 1, none⟩, l1.length - n, by rw [hdl], fun O2 h => by rw [hdl, List.map_drop]; exact (kr1 O2 h).suf (by omega), (fun q => by cases q), fun _ => ⟨_, _, rfl⟩⟩, he1, by omega, fun z hz => hB1 z (List.mem_of_mem_take hz), by omega, fun z hz => hB1 z (List.mem_of_mem_drop hz), fun he y rest hy hl => ?_⟩
       obtain ⟨q1, q2, q3⟩ := hm1 he y.length (y ++ rest) hy (by rw [List.length_append]; omega) (by rw [hl]; unfold rawB; rw [List.append_assoc])
       subst q1 q2
       exact ⟨List.take_left, List.drop_left, q3⟩)
  · try simp only [cnd] at hc0
    refine WX.skip ?_
    refine Fin.then_normal ?_
    refine WX.seq ?_
    have hnl := hn (by omega)
    obtain ⟨bb, off, rfl⟩ := ka1 (by omega)
    obtain ⟨⟨qsz, qro, qc⟩, hkq, hqs⟩ := hr1.known
    have hqs : qsz = 1 := hqs
    subst hqs
    have htl : (l1.take n).length = n := by rw [List.length_take]; omega
    have hdl : (l1.drop n).length = l1.length - n := List.length_drop
    refine WX.region rfl ?_
    refine WXL.move Met.none rfl ?_
    refine WXL.nilCheck Met.none rfl ?_
    first | refine WXL.fieldAddr Met.none rfl Try.underlying106 rfl sz23 rfl ?_ | refine WXL.faS Met.none rfl Try.underlying106 rfl sz23 ?_
    first | refine WXL.ld Met.none rfl agg23 ?_ | refine WXL.ldS Met.none rfl agg23 ?_
    refine WXL.move Met.none rfl ?_
    refine WXL.pre (m := n) Met.none rfl rfl elem23 sz5 hr1.cons (fun q => by cases q) ?_
    refine WXL.assign Met.none rfl ?_
    refine WXL.nil ?_
    refine Fin.then_normal ?_
    refine WX.seq ?_
    refine WX.region rfl ?_
    refine WXL.move Met.none rfl ?_
    refine WXL.move Met.none rfl ?_
    refine WXL.nilCheck Met.none rfl ?_
    first | refine WXL.fieldAddr Met.none rfl Try.underlying106 rfl sz23 rfl ?_ | refine WXL.faS Met.none rfl Try.underlying106 rfl sz23 ?_
    first | refine WXL.ld Met.none rfl agg23 ?_ | refine WXL.ldS Met.none rfl agg23 ?_
    refine WXL.move Met.none rfl ?_
    refine WXL.suf (cs := []) (m := n) Met.none rfl rfl elem23 sz5 rfl hkq.cons rfl ?_
    refine WXL.nilCheck Met.none rfl ?_
    first | refine WXL.fieldAddr Met.none rfl Try.underlying106 rfl sz23 rfl ?_ | refine WXL.faS Met.none rfl Try.underlying106 rfl sz23 ?_
    refine WXL.st (vs := [_]) Met.none rfl rfl rfl sz23 ?_
    refine WXL.nil ?_
    refine Fin.then_normal ?_
    refine WX.seq ?_
    refine WX.region rfl ?_
    refine WXL.move Met.none rfl ?_
    refine WXL.assign Met.none rfl ?_
    refine WXL.nil ?_
    refine Fin.then_normal ?_
    refine WX.ret ?_
    first
    | exact Fin.result (O' := (r, ⟨0, false, [.slice a1 l1.length c1, I e1]⟩) :: O) (.inr rfl) rfl rfl (fun _ hs => hs) ⟨[], l1, e1, none, 0, rfl, fun _ _ => .inl ⟨rfl, rfl, rfl⟩, fun _ => rfl, ⟨a1, c1, rfl, kr1, kc1, ka1⟩, he1, Nat.zero_le _, (fun z hz => by simp at hz), hl1, hB1, fun he y rest hy hl => by
        have := (hm1 he y.length (y ++ rest) hy (by rw [List.length_append]; omega) (by rw [hl]; unfold rawB; rw [List.append_assoc])).2.2
        omega⟩
    | (refine Fin.result (O' := (r, ⟨0, false, [.slice (some ⟨bb, off + n * 1, none⟩) (l1.length - n) (l1.length - n), I e1]⟩) :: O) (.inr rfl) rfl rfl (fun _ hs => hs) ⟨l1.take n, l1.drop n, e1, some ⟨bb, off, none⟩, n, by rw [htl]; rfl, fun O2 h => by have h4 := (kr1 O2 h).pre (m := n) (by omega); rw [Nat.mul_one, ← List.map_take] at h4; rw [htl]; exact h4, (fun q => by cases q), ⟨some ⟨bb, off + n * 1, none⟩, l1.length - n, by rw [hdl], fun O2 h => by rw [hdl, List.map_drop]; exact (kr1 O2 h).suf (by omega), (fun q => by cases q), fun _ => ⟨_, _, rfl⟩⟩, he1, by omega, fun z hz => hB1 z (List.mem_of_mem_take hz), by omega, fun z hz => hB1 z (List.mem_of_mem_drop hz), fun he y rest hy hl => ?_⟩
       obtain ⟨q1, q2, q3⟩ := hm1 he y.length (y ++ rest) hy (by rw [List.length_append]; omega) (by rw [hl]; unfold rawB; rw [List.append_assoc])
       subst q1 q2
       exact ⟨List.take_left, List.drop_left, q3⟩)

theorem refBack_ok (O : Objs) (z : Int) : Spec Try.prog true 80 #[U z] O fun v O' => ∃ n, v = I n ∧ O' = O := by
  refine Spec.enter (args := [_]) (m := 14) Try.func80 rfl rfl (by decide +kernel) fun h0 => ?_
  refine WX.seq ?_
  refine WX.region rfl ?_
  refine WXL.assign Met.none rfl ?_
  refine WXL.nil ?_
  refine Fin.then_normal ?_
  refine WX.seq ?_
  refine WX.seq ?_
  refine WX.region rfl ?_
  refine WXL.move Met.none rfl ?_
  refine WXL.rem Met.none rfl rfl (by decide) ?_
  refine WXL.bin Met.none rfl rfl rfl ?_
  refine WXL.nil ?_
  refine Fin.then_normal ?_
  refine WX.cond rfl (fun hc0 => ?_) (fun hc0 => ?_)
  · try simp only [cnd] at hc0
    refine WX.seq ?_
    refine WX.region rfl ?_
    refine WXL.move Met.none rfl ?_
    refine WXL.qu Met.none rfl rfl ?_ (hb := (by decide)) (hr := rfl)
    refine WXL.conv Met.none rfl Try.underlying42 Try.underlying3 rfl ?_
    refine WXL.neg Met.none rfl rfl ?_
    refine WXL.bin Met.none rfl rfl rfl ?_
    refine WXL.assign Met.none rfl ?_
    refine WXL.nil ?_
    refine Fin.then_normal ?_
    refine WX.ret ?_
    refine Fin.then_ret ?_
    exact Fin.result (O' := O) (.inr rfl) rfl rfl drop_ ⟨_, rfl, rfl⟩
  · try simp only [cnd] at hc0
    refine WX.skip ?_
    refine Fin.then_normal ?_
    refine WX.seq ?_
    refine WX.region rfl ?_
    refine WXL.move Met.none rfl ?_
    refine WXL.qu Met.none rfl rfl ?_ (hb := (by decide)) (hr := rfl)
    refine WXL.conv Met.none rfl Try.underlying42 Try.underlying3 rfl ?_
    refine WXL.assign Met.none rfl ?_
    refine WXL.nil ?_
    refine Fin.then_normal ?_
    refine WX.ret ?_
    exact Fin.result (O' := O) (.inr rfl) rfl rfl drop_ ⟨_, rfl, rfl⟩

theorem refRInt_ok (O : Objs) (r : Nat) (l : List Int) (e : Int) (a : Option Addr) (c : Nat) (hB : Bytes l) (hlen : l.length ≤ 1000000000000) (hr : Rowy O 1 a l.length (l.map B8)) (hc : a = none → c = 0) :
    Spec Try.prog false 69 #[Ptr r 0] ((r, ⟨0, false, [.slice a l.length c, I e]⟩) :: O) fun v O' => ∃ l' e', RrO O r a l l' e' O' ∧ (e ≠ 0 → e' ≠ 0) ∧ l'.length ≤ l.length ∧ Bytes l' ∧ (e = 0 → ∀ m rest, m < 18446744073709551616 → l = varU m ++ rest → l' = rest ∧ e' = 0) := by
  refine Spec.enter (args := [_]) (m := 6) Try.func69 rfl rfl (by decide +kernel) fun h0 => ?_
  refine WX.seq ?_
  refine WX.region rfl ?_
  refine WXL.assign Met.none rfl ?_
  refine WXL.nil ?_
  refine Fin.then_normal ?_
  refine WX.seq ?_
  refine WX.region rfl ?_
  refine WXL.move Met.none rfl ?_
  refine WXL.cl (O1 := _) Met.none rfl (fnOk_of Try.func81 (by decide +kernel)) rfl (fun _ h => h) (refRUint_ok O r l e a c hB hlen hr hc) (fun v O' hp => ?_)
  obtain ⟨n, l1, e1, rfl, hn, ⟨a1, c1, rfl, kr1, kc1, ka1⟩, he1, hl1, hB1, hm1⟩ := hp
  have hr1 := kr1 O hr
  refine WXL.cl (O1 := _) Met.none rfl (fnOk_of Try.func80 (by decide +kernel)) rfl (fun _ h => h) (refBack_ok _ _) (fun v O' hp => ?_)
  obtain ⟨z, rfl, rfl⟩ := hp
  refine WXL.assign Met.none rfl ?_
  refine WXL.nil ?_
  refine Fin.then_normal ?_
  refine WX.ret ?_
  exact Fin.result (O' := (r, ⟨0, false, [.slice a1 l1.length c1, I e1]⟩) :: O) (.inr rfl) rfl rfl (fun _ hs => hs) ⟨l1, e1, ⟨a1, c1, rfl, kr1, kc1, ka1⟩, he1, hl1, hB1, fun he m rest hm hl => (hm1 he m rest hm hl).2⟩

end Go.Proofs.Ythekokdpplobhaa.Eng

set_option linter.unusedVariables false
set_option linter.unusedSimpArgs false
namespace Go.Proofs.Ythekokdpplobhaa.Eng

theorem first_ok (O : Objs) (i : Int) (b : List Int) (a : Option Addr) (c : Nat) (hi : In64 i) (hB : Bytes b) (hlen : b.length ≤ 100000) (hr : Rowy O 1 a b.length (b.map B8)) (hc : a = none → c = 0) :
    Spec Try.prog false 43 #[I i, .slice a b.length c] O fun v O' => O' = O ∧ ((frameB i (recordP b) <+: b ∧ ∃ ax cx, v = .tuple #[.slice ax (recordP b).length cx, .bool true] ∧ (∀ O2, Rowy O2 1 a b.length (b.map B8) → Rowy O2 1 ax (recordP b).length ((recordP b).map B8)) ∧ (ax = none → cx = 0)) ∨ (¬ frameB i (recordP b) <+: b ∧ v = .tuple #[.slice none 0 0, .bool false])) := by
  have hzr := zigU_range hi
  unfold InU at hzr
  obtain ⟨f1, f2⟩ := recordP_facts b
  have hcl := coreB_len hi (b := recordP b) (by omega)
  refine Spec.enter (args := [_, _]) (m := 53) Try.func43 rfl rfl (by decide +kernel) fun h0 => ?_
  refine WX.seq ?_
  refine WX.region rfl ?_
  refine WXL.assign Met.none rfl ?_
  refine WXL.assign Met.none rfl ?_
  refine WXL.nil ?_
  refine Fin.then_normal ?_
  refine WX.seq ?_
  refine WX.region rfl ?_
  refine WXL.move Met.none rfl ?_
  refine WXL.build (c := [_, _]) Met.none rfl zero106 places106 rfl ?_
  refine WXL.box (c := [_, _]) Met.none rfl rfl rfl (fun b13 => ?_)
  refine WXL.assign Met.none rfl ?_
  refine WXL.nil ?_
  refine Fin.then_normal ?_
  refine WX.seq ?_
  refine WX.region rfl ?_
  refine WXL.move Met.none rfl ?_
  refine WXL.cl (O1 := _) Met.none rfl (fnOk_of Try.func68 (by decide +kernel)) rfl (fun _ h => h) (refRRaw_ok O b13 b 0 a c hB (by omega) hr hc) (fun v O' hp => ?_)
  obtain ⟨x, l1, e1, ax, cx, rfl, krx, kx, ⟨a1, c1, rfl, kr1, kc1, ka1⟩, he1, hxl, hxB, hl1, hB1, hm1⟩ := hp
  have hrx := krx O hr
  refine WXL.assign Met.none rfl ?_
  refine WXL.nil ?_
  refine Fin.then_normal ?_
  refine WX.seq ?_
  refine WX.region rfl ?_
  refine WXL.move Met.none rfl ?_
  refine WXL.build (c := [_, _]) Met.none rfl zero106 places106 rfl ?_
  refine WXL.box (c := [_, _]) Met.none rfl rfl rfl (fun b18 => ?_)
  refine WXL.assign Met.none rfl ?_
  refine WXL.nil ?_
  refine Fin.then_normal ?_
  refine WX.seq ?_
  refine WX.region rfl ?_
  refine WXL.move Met.none rfl ?_
  refine WXL.cl (O1 := _) Met.none rfl (fnOk_of Try.func69 (by decide +kernel)) rfl (fun _ h => h) (refRInt_ok _ b18 x 0 ax cx hxB (by omega) hrx.cons kx) (fun v O' hp => ?_)
  obtain ⟨l2, e2, ⟨a2, c2, rfl, kr2, kc2, ka2⟩, he2, hl2, hB2, hm2⟩ := hp
  have hr2 := kr2 O hrx
  refine WXL.nil ?_
  refine Fin.then_normal ?_
  refine WX.seq ?_
  refine WX.region rfl ?_
  refine WXL.move Met.none rfl ?_
  refine WXL.cl (O1 := _) Met.none rfl (fnOk_of Try.func68 (by decide +kernel)) rfl (fun _ h => h) (refRRaw_ok _ b18 l2 e2 a2 c2 hB2 (by omega) hr2.cons kc2) (fun v O' hp => ?_)
  obtain ⟨y, l3, e3, ay, cy, rfl, kry, ky, ⟨a3, c3, rfl, kr3, kc3, ka3⟩, he3, hyl, hyB, hl3, hB3, hm3⟩ := hp
  have hry := kry O hr2
  have hkey : frameB i (recordP b) <+: b → e1 = 0 ∧ e3 = 0 ∧ y = recordP b := by
    rintro ⟨t, ht⟩
    obtain ⟨q1, q2, q3⟩ := hm1 rfl (coreB i (recordP b)) (varU (hashB lblF (coreB i (recordP b))).toNat ++ t) (by omega) (by have e := List.append_assoc (rawB (coreB i (recordP b))) (varU (hashB lblF (coreB i (recordP b))).toNat) t; exact ht.symm.trans e)
    subst q1
    obtain ⟨q4, q5⟩ := hm2 rfl (zigU i).toNat (rawB (recordP b)) (by omega) rfl
    obtain ⟨q6, q7, q8⟩ := hm3 q5 (recordP b) [] (by omega) (by rw [q4, List.append_nil])
    exact ⟨q3, q8, q6⟩
  refine WXL.assign Met.none rfl ?_
  refine WXL.nil ?_
  refine Fin.then_normal ?_
  refine WX.seq ?_
  refine WX.seq ?_
  refine WX.region rfl ?_
  refine WXL.move Met.none rfl ?_
  refine WXL.nilCheck Met.none rfl ?_
  first | refine WXL.fieldAddr Met.none rfl Try.underlying106 rfl sz47 rfl ?_ | refine WXL.faS Met.none rfl Try.underlying106 rfl sz47 ?_
  first | refine WXL.ld Met.none rfl agg47 ?_ | refine WXL.ldS Met.none rfl agg47 ?_
  refine WXL.bin Met.none rfl rfl rfl ?_
  refine WXL.move Met.none rfl ?_
  refine WXL.split (d := 28) rfl (fun hg28 => ?_) (fun hg28 => ?_)
  · try simp only [cnd] at hg28
    refine WXL.miss (j := 5) (d := 28) rfl rfl rfl ?_
    refine WXL.miss (j := 5) (d := 28) rfl rfl rfl ?_
    refine WXL.miss (j := 5) (d := 28) rfl rfl rfl ?_
    refine WXL.miss (j := 5) (d := 28) rfl rfl rfl ?_
    refine WXL.miss (j := 5) (d := 28) rfl rfl rfl ?_
    refine WXL.pick_t Met.none rfl rfl ?_
    refine WXL.nil ?_
    refine Fin.then_normal ?_
    refine WX.cond rfl (fun hc0 => ?_) (fun hc0 => nomatch hc0)
    refine WX.seq ?_
    refine WX.region rfl ?_
    refine WXL.assign Met.none rfl ?_
    refine WXL.assign Met.none rfl ?_
    refine WXL.nil ?_
    refine Fin.then_normal ?_
    refine WX.ret ?_
    refine Fin.then_ret ?_
    first
    | exact Fin.result (O' := O) (.inr rfl) rfl rfl sub_ ⟨rfl, .inr ⟨fun h => by obtain ⟨q1, q2, q3⟩ := hkey h; omega, rfl⟩⟩
    | exact Fin.result (O' := O) (.inr rfl) rfl rfl sub_ ⟨rfl, .inr ⟨fun h => by
        obtain ⟨q1, q2, q3⟩ := hkey h
        have := h.length_le
        rw [← q3] at this
        omega, rfl⟩⟩
    | exact Fin.result (O' := O) (.inr rfl) rfl rfl sub_ ⟨rfl, .inr ⟨fun h => by
        obtain ⟨q1, q2, q3⟩ := hkey h
        rw [← q3] at h
        exact hc1 (List.prefix_iff_eq_take.1 h), rfl⟩⟩
    | (have hp : frameB i y <+: b := List.prefix_iff_eq_take.2 hc1
       have hy : recordP b = y := recordP_frame hi (by omega) hp
       subst hy
       exact Fin.result (O' := O) (.inr rfl) rfl rfl sub_ ⟨rfl, .inl ⟨hp, ay, cy, rfl, fun O2 h => kry O2 (kr2 O2 (krx O2 h)), ky⟩⟩)
  · try simp only [cnd] at hg28
    refine WXL.move (Met.some rfl rfl rfl) rfl ?_
    refine WXL.nilCheck (Met.some rfl rfl rfl) rfl ?_
    first | refine WXL.fieldAddr (Met.some rfl rfl rfl) rfl Try.underlying106 rfl sz47 rfl ?_ | refine WXL.faS (Met.some rfl rfl rfl) rfl Try.underlying106 rfl sz47 ?_
    first | refine WXL.ld (Met.some rfl rfl rfl) rfl agg47 ?_ | refine WXL.ldS (Met.some rfl rfl rfl) rfl agg47 ?_
    refine WXL.bin (Met.some rfl rfl rfl) rfl rfl rfl ?_
    refine WXL.pick_f Met.none rfl rfl ?_
    refine WXL.nil ?_
    refine Fin.then_normal ?_
    refine WX.cond rfl (fun hc0 => ?_) (fun hc0 => ?_)
    · try simp only [cnd] at hc0
      refine WX.seq ?_
      refine WX.region rfl ?_
      refine WXL.assign Met.none rfl ?_
      refine WXL.assign Met.none rfl ?_
      refine WXL.nil ?_
      refine Fin.then_normal ?_
      refine WX.ret ?_
      refine Fin.then_ret ?_
      first
      | exact Fin.result (O' := O) (.inr rfl) rfl rfl sub_ ⟨rfl, .inr ⟨fun h => by obtain ⟨q1, q2, q3⟩ := hkey h; omega, rfl⟩⟩
      | exact Fin.result (O' := O) (.inr rfl) rfl rfl sub_ ⟨rfl, .inr ⟨fun h => by
          obtain ⟨q1, q2, q3⟩ := hkey h
          have := h.length_le
          rw [← q3] at this
          omega, rfl⟩⟩
      | exact Fin.result (O' := O) (.inr rfl) rfl rfl sub_ ⟨rfl, .inr ⟨fun h => by
          obtain ⟨q1, q2, q3⟩ := hkey h
          rw [← q3] at h
          exact hc1 (List.prefix_iff_eq_take.1 h), rfl⟩⟩
      | (have hp : frameB i y <+: b := List.prefix_iff_eq_take.2 hc1
         have hy : recordP b = y := recordP_frame hi (by omega) hp
         subst hy
         exact Fin.result (O' := O) (.inr rfl) rfl rfl sub_ ⟨rfl, .inl ⟨hp, ay, cy, rfl, fun O2 h => kry O2 (kr2 O2 (krx O2 h)), ky⟩⟩)
    · try simp only [cnd] at hc0
      refine WX.skip ?_
      refine Fin.then_normal ?_
      refine WX.seq ?_
      refine WX.region rfl ?_
      refine WXL.move Met.none rfl ?_
      refine WXL.move Met.none rfl ?_
      refine WXL.cl (O1 := _) Met.none rfl (fnOk_of Try.func13 (by decide +kernel)) rfl (fun _ h => h) (refFrame_ok _ i y ay cy hi hyB (by omega) ((hry.src ky).cons.cons)) (fun v O' hp => ?_)
      obtain ⟨a5, c5, G5, rfl, hG5, rfl⟩ := hp
      refine WXL.assign Met.none rfl ?_
      refine WXL.nil ?_
      refine Fin.then_normal ?_
      refine WX.seq ?_
      refine WX.seq ?_
      refine WX.region rfl ?_
      refine WXL.move Met.none rfl ?_
      refine WXL.len Met.none rfl Try.underlying23 ?_
      refine WXL.move Met.none rfl ?_
      refine WXL.len Met.none rfl Try.underlying23 ?_
      refine WXL.bin Met.none rfl rfl rfl ?_
      refine WXL.move Met.none rfl ?_
      refine WXL.split (d := 43) rfl (fun hg43 => ?_) (fun hg43 => ?_)
      · try simp only [cnd] at hg43
        refine WXL.miss (j := 5) (d := 43) rfl rfl rfl ?_
        refine WXL.miss (j := 5) (d := 43) rfl rfl rfl ?_
        refine WXL.miss (j := 5) (d := 43) rfl rfl rfl ?_
        refine WXL.miss (j := 5) (d := 43) rfl rfl rfl ?_
        refine WXL.miss (j := 5) (d := 43) rfl rfl rfl ?_
        refine WXL.miss (j := 5) (d := 43) rfl rfl rfl ?_
        refine WXL.miss (j := 5) (d := 43) rfl rfl rfl ?_
        refine WXL.pick_t Met.none rfl rfl ?_
        refine WXL.nil ?_
        refine Fin.then_normal ?_
        refine WX.cond rfl (fun hc1 => ?_) (fun hc1 => nomatch hc1)
        refine WX.seq ?_
        refine WX.region rfl ?_
        refine WXL.assign Met.none rfl ?_
        refine WXL.assign Met.none rfl ?_
        refine WXL.nil ?_
        refine Fin.then_normal ?_
        refine WX.ret ?_
        refine Fin.then_ret ?_
        first
        | exact Fin.result (O' := O) (.inr rfl) rfl rfl sub_ ⟨rfl, .inr ⟨fun h => by obtain ⟨q1, q2, q3⟩ := hkey h; omega, rfl⟩⟩
        | exact Fin.result (O' := O) (.inr rfl) rfl rfl sub_ ⟨rfl, .inr ⟨fun h => by
            obtain ⟨q1, q2, q3⟩ := hkey h
            have := h.length_le
            rw [← q3] at this
            omega, rfl⟩⟩
        | exact Fin.result (O' := O) (.inr rfl) rfl rfl sub_ ⟨rfl, .inr ⟨fun h => by
            obtain ⟨q1, q2, q3⟩ := hkey h
            rw [← q3] at h
            exact hc1 (List.prefix_iff_eq_take.1 h), rfl⟩⟩
        | (have hp : frameB i y <+: b := List.prefix_iff_eq_take.2 hc1
           have hy : recordP b = y := recordP_frame hi (by omega) hp
           subst hy
           exact Fin.result (O' := O) (.inr rfl) rfl rfl sub_ ⟨rfl, .inl ⟨hp, ay, cy, rfl, fun O2 h => kry O2 (kr2 O2 (krx O2 h)), ky⟩⟩)
      · try simp only [cnd] at hg43
        refine WXL.move (Met.some rfl rfl rfl) rfl ?_
        refine WXL.move (Met.some rfl rfl rfl) rfl ?_
        refine WXL.move (Met.some rfl rfl rfl) rfl ?_
        refine WXL.len (Met.some rfl rfl rfl) rfl Try.underlying23 ?_
        refine WXL.pre (m := (frameB i y).length) (Met.some rfl rfl rfl) rfl rfl elem23 sz5 (hr.cons.cons.app) hc ?_
        have hfl : (b.take (frameB i y).length).length = (frameB i y).length := by rw [List.length_take]; omega
        have hr5 := hr.pre (m := (frameB i y).length) (by omega)
        rw [Nat.mul_one, ← List.map_take] at hr5
        have hfy := coreB_len hi (b := y) (by omega)
        refine WXL.cl (O1 := _) (Met.some rfl rfl rfl) rfl (fnOk_of Try.func11 (by decide +kernel)) rfl (fun _ h => h) ((by
        have := sameB_ok (G5 ++ ((b18, ⟨0, false, [.slice a3 l3.length c3, I e3]⟩) :: (b13, ⟨0, false, [.slice a1 l1.length c1, I e1]⟩) :: O)) (frameB i y) (b.take (frameB i y).length) a5 a c5 (frameB i y).length (by unfold Short; omega) hG5.src (by rw [hfl]; exact Src.app (Src.cons (Src.cons (hr5.src (fun q => hr5.nil0 q)))))
        rw [hfl] at this
        exact this)) (fun v O' hp => ?_)
        obtain ⟨rfl, hO⟩ := hp
        subst O'
        refine WXL.not (Met.some rfl rfl rfl) rfl ?_
        refine WXL.pick_f Met.none rfl rfl ?_
        refine WXL.nil ?_
        refine Fin.then_normal ?_
        refine WX.cond rfl (fun hc1 => ?_) (fun hc1 => ?_)
        · try simp only [cnd] at hc1
          refine WX.seq ?_
          refine WX.region rfl ?_
          refine WXL.assign Met.none rfl ?_
          refine WXL.assign Met.none rfl ?_
          refine WXL.nil ?_
          refine Fin.then_normal ?_
          refine WX.ret ?_
          refine Fin.then_ret ?_
          first
          | exact Fin.result (O' := O) (.inr rfl) rfl rfl sub_ ⟨rfl, .inr ⟨fun h => by obtain ⟨q1, q2, q3⟩ := hkey h; omega, rfl⟩⟩
          | exact Fin.result (O' := O) (.inr rfl) rfl rfl sub_ ⟨rfl, .inr ⟨fun h => by
              obtain ⟨q1, q2, q3⟩ := hkey h
              have := h.length_le
              rw [← q3] at this
              omega, rfl⟩⟩
          | exact Fin.result (O' := O) (.inr rfl) rfl rfl sub_ ⟨rfl, .inr ⟨fun h => by
              obtain ⟨q1, q2, q3⟩ := hkey h
              rw [← q3] at h
              exact hc1 (List.prefix_iff_eq_take.1 h), rfl⟩⟩
          | (have hp : frameB i y <+: b := List.prefix_iff_eq_take.2 hc1
             have hy : recordP b = y := recordP_frame hi (by omega) hp
             subst hy
             exact Fin.result (O' := O) (.inr rfl) rfl rfl sub_ ⟨rfl, .inl ⟨hp, ay, cy, rfl, fun O2 h => kry O2 (kr2 O2 (krx O2 h)), ky⟩⟩)
        · try simp only [cnd] at hc1
          refine WX.skip ?_
          refine Fin.then_normal ?_
          refine WX.seq ?_
          refine WX.region rfl ?_
          refine WXL.move Met.none rfl ?_
          refine WXL.assign Met.none rfl ?_
          refine WXL.assign Met.none rfl ?_
          refine WXL.nil ?_
          refine Fin.then_normal ?_
          refine WX.ret ?_
          first
          | exact Fin.result (O' := O) (.inr rfl) rfl rfl sub_ ⟨rfl, .inr ⟨fun h => by obtain ⟨q1, q2, q3⟩ := hkey h; omega, rfl⟩⟩
          | exact Fin.result (O' := O) (.inr rfl) rfl rfl sub_ ⟨rfl, .inr ⟨fun h => by
              obtain ⟨q1, q2, q3⟩ := hkey h
              have := h.length_le
              rw [← q3] at this
              omega, rfl⟩⟩
          | exact Fin.result (O' := O) (.inr rfl) rfl rfl sub_ ⟨rfl, .inr ⟨fun h => by
              obtain ⟨q1, q2, q3⟩ := hkey h
              rw [← q3] at h
              exact hc1 (List.prefix_iff_eq_take.1 h), rfl⟩⟩
          | (have hp : frameB i y <+: b := List.prefix_iff_eq_take.2 hc1
             have hy : recordP b = y := recordP_frame hi (by omega) hp
             subst hy
             exact Fin.result (O' := O) (.inr rfl) rfl rfl sub_ ⟨rfl, .inl ⟨hp, ay, cy, rfl, fun O2 h => kry O2 (kr2 O2 (krx O2 h)), ky⟩⟩)

end Go.Proofs.Ythekokdpplobhaa.Eng

set_option linter.unusedVariables false
set_option linter.unusedSimpArgs false
namespace Go.Proofs.Ythekokdpplobhaa.Eng

theorem refScan_ok (O : Objs) (b : List Int) (a : Option Addr) (c : Nat) (hB : Bytes b) (hlen : b.length ≤ 100000) (hr : Rowy O 1 a b.length (b.map B8)) (hc : a = none → c = 0) :
    Spec Try.prog false 16 #[.slice a b.length c] O fun v O' => ∃ ao co vs G, v = .tuple #[.slice ao (recsP b).length co, I (endP b (recsP b).length : Nat)] ∧ Grow 1 ao (recsP b).length co vs G ∧ AreB O vs (recsP b) ∧ O' = G ++ O := by
  have hrl := recsP_len b
  have hend := endP_le b
  refine Spec.enter (args := [_]) (m := 36) Try.func16 rfl rfl (by decide +kernel) fun h0 => ?_
  refine WX.seq ?_
  refine WX.region rfl ?_
  refine WXL.assign Met.none rfl ?_
  refine WXL.assign Met.none rfl ?_
  refine WXL.nil ?_
  refine Fin.then_normal ?_
  refine WX.seq ?_
  refine WX.region rfl ?_
  refine WXL.assign Met.none rfl ?_
  refine WXL.nil ?_
  refine Fin.then_normal ?_
  refine WX.seq ?_
  refine WX.region rfl ?_
  refine WXL.assign Met.none rfl ?_
  refine WXL.nil ?_
  refine Fin.then_normal ?_
  refine WX.seq ?_
  refine WX.block ?_
  refine WX.loop (fun q : Nat × Option Addr × Nat × List Value × Objs => [(0, .slice a b.length c), (4, .slice q.2.1 q.1 q.2.2.1), (5, I (endP b q.1 : Nat))]) (fun q => q.2.2.2.2 ++ O) (fun q => q.1 ≤ (recsP b).length ∧ Grow 1 q.2.1 q.1 q.2.2.1 q.2.2.2.1 q.2.2.2.2 ∧ AreB O q.2.2.2.1 ((recsP b).take q.1)) (fun q => (recsP b).length - q.1) (0, none, 0, [], []) ⟨Nat.zero_le _, .nil, .nil⟩ (fun s hs => hs.tl [] 0) (fun q hq => ?_)
  obtain ⟨k, ao, co, vs, G⟩ := q
  obtain ⟨hk, hG, hvs⟩ := hq
  simp only at hk hG hvs
  dsimp only
  have hek := hend k
  have hat := scanP_at b k hk
  refine WX.seq ?_
  refine WX.seq ?_
  refine WX.region rfl ?_
  refine WXL.move Met.none rfl ?_
  refine WXL.move Met.none rfl ?_
  refine WXL.len Met.none rfl Try.underlying23 ?_
  refine WXL.bin Met.none rfl rfl rfl ?_
  refine WXL.nil ?_
  refine Fin.then_normal ?_
  refine WX.cond rfl (fun hc0 => ?_) (fun hc0 => ?_)
  · try simp only [cnd] at hc0
    refine WX.skip ?_
    refine Fin.then_normal ?_
    refine WX.block ?_
    refine WX.seq ?_
    obtain ⟨bb, off, ⟨qsz, qro, qc⟩, rfl, hkq, hqs⟩ := hr.some (by omega)
    have hqs : qsz = 1 := hqs
    subst hqs
    have hr2 := hr.suf (m := endP b k) hek
    obtain ⟨t, ht⟩ : ∃ t, t = b.drop (endP b k) := ⟨_, rfl⟩
    rw [← List.map_drop, ← ht] at hr2
    rw [← ht] at hat
    have htl : t.length = b.length - endP b k := by rw [ht, List.length_drop]
    have htB : Bytes t := fun z hz => hB z (List.mem_of_mem_drop (ht ▸ hz))
    obtain ⟨f1, f2⟩ := recordP_facts t
    have htn : t ≠ [] := fun q => by rw [q] at htl; simp at htl; omega
    refine WX.region rfl ?_
    refine WXL.move Met.none rfl ?_
    refine WXL.len Met.none rfl Try.underlying27 ?_
    refine WXL.move Met.none rfl ?_
    refine WXL.move Met.none rfl ?_
    refine WXL.suf (cs := []) (m := (endP b k)) Met.none rfl rfl elem23 sz5 rfl hkq.app rfl ?_
    refine WXL.cl (O1 := _) Met.none rfl (fnOk_of Try.func43 (by decide +kernel)) rfl (fun _ h => h) ((by
    have := first_ok (G ++ O) (k : Int) t (some ⟨bb, off + endP b k * 1, none⟩) (b.length - endP b k) (by unfold In64; omega) htB (by omega) (by rw [htl]; exact hr2.app) (fun q => by cases q)
    rw [htl] at this
    exact this)) (fun v O' hp => ?_)
    obtain ⟨rfl, hf⟩ := hp
    obtain ⟨v1, y, rfl, hy⟩ : ∃ v1 y, v = .tuple #[v1, .bool y] ∧ ((y = true ∧ frameB k (recordP t) <+: t ∧ ∃ ax cx, v1 = .slice ax (recordP t).length cx ∧ Rowy O 1 ax (recordP t).length ((recordP t).map B8) ∧ (ax = none → cx = 0)) ∨ (y = false ∧ ¬ frameB k (recordP t) <+: t)) := by
      rcases hf with ⟨h1, ax, cx, rfl, h2, h3⟩ | ⟨h1, rfl⟩
      · exact ⟨_, _, rfl, .inl ⟨rfl, h1, ax, cx, rfl, h2 O hr2, h3⟩⟩
      · exact ⟨_, _, rfl, .inr ⟨rfl, h1⟩⟩
    refine WXL.move Met.none rfl ?_
    refine WXL.extract Met.none rfl rfl ?_
    refine WXL.extract Met.none rfl rfl ?_
    refine WXL.assign Met.none rfl ?_
    refine WXL.assign Met.none rfl ?_
    refine WXL.nil ?_
    refine Fin.then_normal ?_
    refine WX.seq ?_
    refine WX.seq ?_
    refine WX.region rfl ?_
    refine WXL.move Met.none rfl ?_
    refine WXL.not Met.none rfl ?_
    refine WXL.nil ?_
    refine Fin.then_normal ?_
    refine WX.cond rfl (fun hc1 => ?_) (fun hc1 => ?_)
    · try simp only [cnd] at hc1
      refine WX.exit ?_
      refine Fin.then_exit ?_
      refine Fin.block_miss rfl ?_
      refine Fin.loop_exit ?_
      refine Fin.block_hit rfl ?_
      refine Fin.then_normal ?_
      refine WX.seq ?_
      refine WX.region rfl ?_
      refine WXL.move Met.none rfl ?_
      refine WXL.move Met.none rfl ?_
      refine WXL.assign Met.none rfl ?_
      refine WXL.assign Met.none rfl ?_
      refine WXL.nil ?_
      refine Fin.then_normal ?_
      refine WX.ret ?_
      first
      | (have hkk : k = (recsP b).length := by
           have hd : b.drop (endP b k) = [] := List.drop_eq_nil_of_le (by omega)
           rw [hd, scanP, dif_neg (fun q => q.1 rfl)] at hat
           have := congrArg List.length hat
           rw [List.length_drop, List.length_nil] at this
           omega
         subst hkk
         rw [List.take_length] at hvs
         exact Fin.result (O' := G ++ O) (.inr rfl) rfl rfl (fun _ h => h) ⟨ao, co, vs, G, rfl, hG, hvs, rfl⟩)
      | (have hkk : k = (recsP b).length := by
           have hnp := (hy.resolve_left (fun q => by rw [hc1] at q; exact nomatch q.1)).2
           rw [scanP, dif_neg (fun q => hnp q.2)] at hat
           have := congrArg List.length hat
           rw [List.length_drop, List.length_nil] at this
           omega
         subst hkk
         rw [List.take_length] at hvs
         exact Fin.result (O' := G ++ O) (.inr rfl) rfl rfl (fun _ h => h) ⟨ao, co, vs, G, rfl, hG, hvs, rfl⟩)
    · try simp only [cnd] at hc1
      refine WX.skip ?_
      refine Fin.then_normal ?_
      refine WX.seq ?_
      obtain ⟨hpf, ax, cx, rfl, hrx, kx⟩ := hy.resolve_right (fun q => by rw [hc1] at q; exact nomatch q.1) |>.2
      have hst : (recsP b).drop k = recordP t :: (scanP (k + 1) (t.drop (frameB k (recordP t)).length)).1 := by
        rw [hat, scanP, dif_pos ⟨htn, hpf⟩]
      have hk1 : k < (recsP b).length := by
        have := congrArg List.length hst
        rw [List.length_drop, List.length_cons] at this
        omega
      have hnth : nth (recsP b) k = recordP t := by
        rw [drop_cons_nth' hk1] at hst
        injection hst
      have hes : endP b (k + 1) = endP b k + (frameB k (recordP t)).length := by rw [endP_succ b k hk1, hnth]
      have hek1 := hend (k + 1)
      refine WX.region rfl ?_
      refine WXL.move Met.none rfl ?_
      refine WXL.move Met.none rfl ?_
      refine WXL.len Met.none rfl Try.underlying27 ?_
      refine WXL.move Met.none rfl ?_
      refine WXL.cl (O1 := _) Met.none rfl (fnOk_of Try.func13 (by decide +kernel)) rfl (fun _ h => h) (refFrame_ok _ (k : Int) (recordP t) ax cx (by unfold In64; omega) (f2 htB) (by omega) ((hrx.src kx).app)) (fun v O' hp => ?_)
      obtain ⟨a6, c6, G6, rfl, hG6, rfl⟩ := hp
      refine WXL.len Met.none rfl Try.underlying23 ?_
      refine WXL.bin Met.none rfl rfl (show _ = some (I (endP b (k + 1) : Nat)) from (binV_add (by omega) (by omega)).trans (congrArg (fun n => some (I n)) (by omega))) ?_
      refine WXL.assign Met.none rfl ?_
      refine WXL.nil ?_
      refine Fin.then_normal ?_
      refine WX.re (O' := G ++ O) ?_
      refine WX.region rfl ?_
      refine WXL.move Met.none rfl ?_
      refine WXL.move Met.none rfl ?_
      refine WXL.buildSlice (c := [_]) Met.none rfl elem27 sz23 zero23 (by decide) (by decide) rfl rfl rfl rfl (fun b32 => ?_)
      refine WXL.apG [_] Met.none rfl rfl isrow27 elem27 sz23 by23 zero23 (Src.lit (cs := [_])) (fun a33 c33 G33 hG33 => ?_)
      refine WXL.assign Met.none rfl ?_
      refine WXL.nil ?_
      refine Fin.block_normal ?_
      refine Fin.loop_next (k + 1, a33, c33, vs ++ [.slice ax (recordP t).length cx], G33) ⟨by simp only; omega, hG33, ?_⟩ (by simp only; omega) (fun s hs => hs.tl [] 1)
      rw [take_succ_nth hk1]
      exact hvs.snoc ⟨ax, cx, by rw [hnth], by rw [hnth]; exact hrx.src kx⟩
  · try simp only [cnd] at hc0
    refine WX.exit ?_
    refine Fin.then_exit ?_
    refine Fin.loop_exit ?_
    refine Fin.block_hit rfl ?_
    refine Fin.then_normal ?_
    refine WX.seq ?_
    refine WX.region rfl ?_
    refine WXL.move Met.none rfl ?_
    refine WXL.move Met.none rfl ?_
    refine WXL.assign Met.none rfl ?_
    refine WXL.assign Met.none rfl ?_
    refine WXL.nil ?_
    refine Fin.then_normal ?_
    refine WX.ret ?_
    first
    | (have hkk : k = (recsP b).length := by
         have hd : b.drop (endP b k) = [] := List.drop_eq_nil_of_le (by omega)
         rw [hd, scanP, dif_neg (fun q => q.1 rfl)] at hat
         have := congrArg List.length hat
         rw [List.length_drop, List.length_nil] at this
         omega
       subst hkk
       rw [List.take_length] at hvs
       exact Fin.result (O' := G ++ O) (.inr rfl) rfl rfl (fun _ h => h) ⟨ao, co, vs, G, rfl, hG, hvs, rfl⟩)
    | (have hkk : k = (recsP b).length := by
         have hnp := (hy.resolve_left (fun q => by rw [hc1] at q; exact nomatch q.1)).2
         rw [scanP, dif_neg (fun q => hnp q.2)] at hat
         have := congrArg List.length hat
         rw [List.length_drop, List.length_nil] at this
         omega
       subst hkk
       rw [List.take_length] at hvs
       exact Fin.result (O' := G ++ O) (.inr rfl) rfl rfl (fun _ h => h) ⟨ao, co, vs, G, rfl, hG, hvs, rfl⟩)

end Go.Proofs.Ythekokdpplobhaa.Eng

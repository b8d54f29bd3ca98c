/- The reader's next byte. Own work; no condition. | The reader's numbers, in plain lists. Own work; no condition. | A varint is read as its number. Own work; no condition. | The reader's numbers, walked. Own work; no condition. | Records, read in plain lists. Own work; no condition. | The reader's byte slices, walked. Own work; no condition. | Records, read by the program. Own work; no condition. | Prefixes; the iterator of records. Own work; no condition. | The iterator of records. Own work; no condition. | The iterator of records, walked. Own work; no condition. | The program's Scan. Own work; no condition. | Few, Records and the comparison of lists. Own work; no condition. | Records out of numbers. Own work; no condition. | The section's examples. Own work; no condition. | Lengths of frames, and what they are made of. Own work; no condition. | Disks in plain lists. Own work; no condition. | Small functions of disks: exists, step, set, New, Read. Own work; no condition. | Used, harden, Sync, Truncate. Own work; no condition. | The numbers of a disk's files, in order. Own work; no condition. | A crash in plain lists; the numbers of the files as a contract. Own work; no condition. | What a crash keeps of the files, in plain lists. Own work; no condition. -/
import Derived.Test.YthekokdpplobhaaJournalDurableM1
import Derived.Test.YthekokdpplobhaaJournalDurableM2
import Derived.Test.YthekokdpplobhaaJournalDurableM3
set_option linter.unusedVariables false
set_option linter.unusedSimpArgs false
namespace Go.Proofs.Ythekokdpplobhaa.Eng

/-- A reader: what is left, and its error. -/
abbrev RdP := List Int × Int
/-- Its object. -/
def RdO (O : Objs) (r : Nat) (q : RdP) (N : Objs) : Prop := ∃ a c, N = (r, ⟨0, false, [.slice a q.1.length c, I q.2]⟩) :: O ∧ Rowy O 1 a q.1.length (q.1.map B8) ∧ (a = none → c = 0)

/-- The same, with the row told out of the one before, whatever else lies there. -/
def RdT (O : Objs) (r : Nat) (a0 : Option Addr) (q0 q : RdP) (N : Objs) : Prop := ∃ a c, N = (r, ⟨0, false, [.slice a q.1.length c, I q.2]⟩) :: O ∧ (∀ O2, Rowy O2 1 a0 q0.1.length (q0.1.map B8) → Rowy O2 1 a q.1.length (q.1.map B8)) ∧ (a = none → c = 0)

def nextP : RdP → Int × RdP
  | (b :: l, 0) => (b, (l, 0))
  | ([], 0) => (0, ([], 3))
  | q => (0, q)

theorem Rowy.tail {O : Objs} {a : Option Addr} {x : Value} {cs : List Value} {n : Nat} (h : Rowy O 1 a (n + 1) (x :: cs)) : ∃ b off y, a = some ⟨b, off, none⟩ ∧ Knows O b y ∧ y.sz = 1 ∧ Rowy O 1 (some ⟨b, off + 1, none⟩) n cs := by
  rcases h with ⟨_, h, _⟩ | ⟨b, off, y, h1, h2, h3, h4, h5⟩
  · omega
  · refine ⟨b, off, y, h1, h2, h3, .inr ⟨b, off + 1, y, rfl, h2, h3, by omega, ?_⟩⟩
    have := congrArg (List.drop 1) h5
    rw [List.drop_take, List.drop_drop] at this
    simpa using this

theorem Rowy.tl {O : Objs} {b off n : Nat} {x : Value} {cs : List Value} (h : Rowy O 1 (some ⟨b, off, none⟩) (n + 1) (x :: cs)) : Rowy O 1 (some ⟨b, off + 1, none⟩) n cs := by
  obtain ⟨b2, off2, y, h1, h2, h3, h4⟩ := Rowy.tail h
  injection h1 with h1
  injection h1 with h1 h5
  subst h1 h5
  exact h4

theorem next_nil (O : Objs) (r : Nat) (e : Int) (a : Option Addr) (c : Nat) (hr : Rowy O 1 a 0 []) (hc : a = none → c = 0) :
    Spec Try.prog false 48 #[Ptr r 0] ((r, ⟨0, false, [.slice a 0 c, I e]⟩) :: O) fun v O' => v = B8 (nextP ([], e)).1 ∧ RdT O r a ([], e) (nextP ([], e)).2 O' := by
  refine Spec.enter (args := [_]) (m := 32) Try.func48 rfl rfl (by decide +kernel) fun h0 => ?_
  refine WX.seq ?_
  refine WX.region rfl ?_
  refine WXL.assign Met.none rfl ?_
  refine WXL.nil ?_
  refine Fin.then_normal ?_
  refine WX.seq ?_
  refine WX.seq ?_
  refine WX.region rfl ?_
  refine WXL.move Met.none rfl ?_
  refine WXL.nilCheck Met.none rfl ?_
  first | refine WXL.fieldAddr Met.none rfl Try.underlying75 rfl sz23 rfl ?_ | refine WXL.faS Met.none rfl Try.underlying75 rfl sz23 ?_
  first | refine WXL.ld Met.none rfl agg23 ?_ | refine WXL.ldS Met.none rfl agg23 ?_
  refine WXL.len Met.none rfl Try.underlying23 ?_
  refine WXL.bin Met.none rfl rfl rfl ?_
  refine WXL.nil ?_
  refine Fin.then_normal ?_
  refine WX.cond rfl (fun hc0 => ?_) (fun hc0 => ?_)
  · try simp only [cnd] at hc0
    refine WX.region rfl ?_
    refine WXL.move Met.none rfl ?_
    refine WXL.cl (O1 := _) Met.none rfl (fnOk_of Try.func49 (by decide +kernel)) rfl (fun _ h => h) (fail_ok _ r _ 3 e) (fun v O' hp => ?_)
    obtain rfl := hp
    refine WXL.nil ?_
    refine Fin.then_normal ?_
    refine WX.seq ?_
    refine WX.seq ?_
    refine WX.region rfl ?_
    refine WXL.move Met.none rfl ?_
    refine WXL.nilCheck Met.none rfl ?_
    first | refine WXL.fieldAddr Met.none rfl Try.underlying75 rfl sz47 rfl ?_ | refine WXL.faS Met.none rfl Try.underlying75 rfl sz47 ?_
    first | refine WXL.ld Met.none rfl agg47 ?_ | refine WXL.ldS Met.none rfl agg47 ?_
    refine WXL.bin Met.none rfl rfl rfl ?_
    refine WXL.nil ?_
    refine Fin.then_normal ?_
    refine WX.cond rfl (fun hc1 => ?_) (fun hc1 => ?_)
    · try simp only [cnd] at hc1
      refine WX.seq ?_
      refine WX.region rfl ?_
      refine WXL.assign Met.none rfl ?_
      refine WXL.nil ?_
      refine Fin.then_normal ?_
      refine WX.ret ?_
      refine Fin.then_ret ?_
      refine Fin.result (O' := (r, ⟨0, false, [.slice a 0 c, I (if e = 0 then 3 else e)]⟩) :: O) (.inr rfl) rfl rfl (fun _ hs => hs) ?_
      by_cases q : e = 0
      · subst q; exact ⟨rfl, a, c, rfl, fun _ h => h, hc⟩
      · have e1 : nextP ([], e) = (0, ([], e)) := by unfold nextP; split <;> simp_all
        rw [e1, if_neg q]
        exact ⟨rfl, a, c, rfl, fun _ h => h, hc⟩
    · try simp only [cnd] at hc1
      exact absurd hc1 (by split <;> omega) --end
  · try simp only [cnd] at hc0
    exact absurd rfl hc0 --end

theorem next_cons (O : Objs) (r : Nat) (x : Int) (l : List Int) (e : Int) (a : Option Addr) (c : Nat) (hlen : l.length ≤ 1000000000000) (hr : Rowy O 1 a (l.length + 1) ((x :: l).map B8)) (hc : a = none → c = 0) :
    Spec Try.prog false 48 #[Ptr r 0] ((r, ⟨0, false, [.slice a (l.length + 1) c, I e]⟩) :: O) fun v O' => v = B8 (nextP (x :: l, e)).1 ∧ RdT O r a (x :: l, e) (nextP (x :: l, e)).2 O' := by
  have hs := hr.src hc
  obtain ⟨b, off, ⟨ysz, yro, yc⟩, h1, h2, h3, h4⟩ := Rowy.tail hr
  have h3 : ysz = 1 := h3
  subst h3
  refine Spec.enter (args := [_]) (m := 32) Try.func48 rfl rfl (by decide +kernel) fun h0 => ?_
  refine WX.seq ?_
  refine WX.region rfl ?_
  refine WXL.assign Met.none rfl ?_
  refine WXL.nil ?_
  refine Fin.then_normal ?_
  refine WX.seq ?_
  refine WX.seq ?_
  refine WX.region rfl ?_
  refine WXL.move Met.none rfl ?_
  refine WXL.nilCheck Met.none rfl ?_
  first | refine WXL.fieldAddr Met.none rfl Try.underlying75 rfl sz23 rfl ?_ | refine WXL.faS Met.none rfl Try.underlying75 rfl sz23 ?_
  first | refine WXL.ld Met.none rfl agg23 ?_ | refine WXL.ldS Met.none rfl agg23 ?_
  refine WXL.len Met.none rfl Try.underlying23 ?_
  refine WXL.bin Met.none rfl rfl rfl ?_
  refine WXL.nil ?_
  refine Fin.then_normal ?_
  refine WX.cond rfl (fun hc0 => ?_) (fun hc0 => ?_)
  · try simp only [cnd] at hc0
    exact absurd hc0 (by omega) --end
  · try simp only [cnd] at hc0
    refine WX.skip ?_
    refine Fin.then_normal ?_
    refine WX.seq ?_
    refine WX.seq ?_
    refine WX.region rfl ?_
    refine WXL.move Met.none rfl ?_
    refine WXL.nilCheck Met.none rfl ?_
    first | refine WXL.fieldAddr Met.none rfl Try.underlying75 rfl sz47 rfl ?_ | refine WXL.faS Met.none rfl Try.underlying75 rfl sz47 ?_
    first | refine WXL.ld Met.none rfl agg47 ?_ | refine WXL.ldS Met.none rfl agg47 ?_
    refine WXL.bin Met.none rfl rfl rfl ?_
    refine WXL.nil ?_
    refine Fin.then_normal ?_
    refine WX.cond rfl (fun hc1 => ?_) (fun hc1 => ?_)
    · try simp only [cnd] at hc1
      refine WX.seq ?_
      refine WX.region rfl ?_
      refine WXL.assign Met.none rfl ?_
      refine WXL.nil ?_
      refine Fin.then_normal ?_
      refine WX.ret ?_
      refine Fin.then_ret ?_
      first
      | (refine Fin.result (O' := (r, ⟨0, false, [.slice a (l.length + 1) c, I e]⟩) :: O) (.inr rfl) rfl rfl (fun _ hs => hs) ?_
         have e1 : nextP (x :: l, e) = (0, (x :: l, e)) := by unfold nextP; split <;> simp_all
         rw [e1]
         exact ⟨rfl, a, c, rfl, fun _ h => h, hc⟩)
      | (have he : e = 0 := by omega
         subst he
         exact Fin.result (O' := (r, ⟨0, false, [.slice (some ⟨b, off + 1, none⟩) l.length l.length, I 0]⟩) :: O) (.inr rfl) rfl rfl (fun _ hs => hs) ⟨rfl, _, _, rfl, fun O2 h => Rowy.tl (h1 ▸ h), fun q => by cases q⟩)
    · try simp only [cnd] at hc1
      refine WX.skip ?_
      refine Fin.then_normal ?_
      refine WX.seq ?_
      refine WX.region rfl ?_
      refine WXL.move Met.none rfl ?_
      refine WXL.nilCheck Met.none rfl ?_
      first | refine WXL.fieldAddr Met.none rfl Try.underlying75 rfl sz23 rfl ?_ | refine WXL.faS Met.none rfl Try.underlying75 rfl sz23 ?_
      first | refine WXL.ld Met.none rfl agg23 ?_ | refine WXL.ldS Met.none rfl agg23 ?_
      first | refine WXL.ix Met.none rfl rfl elem23 sz5 ?_ | refine WXL.ixS Met.none rfl rfl elem23 sz5 ?_
      first | refine WXL.ld Met.none rfl agg5 ?_ (hv := (show _ = some (B8 x) from rfl)) | refine WXL.ldS Met.none rfl agg5 ?_ (hv := (show _ = some (B8 x) from rfl))
      refine WXL.assign Met.none rfl ?_
      refine WXL.nil ?_
      refine Fin.then_normal ?_
      refine WX.seq ?_
      refine WX.region rfl ?_
      refine WXL.move Met.none rfl ?_
      refine WXL.move Met.none rfl ?_
      refine WXL.nilCheck Met.none rfl ?_
      first | refine WXL.fieldAddr Met.none rfl Try.underlying75 rfl sz23 rfl ?_ | refine WXL.faS Met.none rfl Try.underlying75 rfl sz23 ?_
      first | refine WXL.ld Met.none rfl agg23 ?_ | refine WXL.ldS Met.none rfl agg23 ?_
      refine WXL.suf (cs := []) (m := 1) Met.none rfl rfl elem23 sz5 h1 h2.cons rfl ?_
      refine WXL.nilCheck Met.none rfl ?_
      first | refine WXL.fieldAddr Met.none rfl Try.underlying75 rfl sz23 rfl ?_ | refine WXL.faS Met.none rfl Try.underlying75 rfl sz23 ?_
      refine WXL.st (vs := [_]) Met.none rfl rfl rfl sz23 ?_
      refine WXL.nil ?_
      refine Fin.then_normal ?_
      refine WX.seq ?_
      refine WX.region rfl ?_
      refine WXL.move Met.none rfl ?_
      refine WXL.assign Met.none rfl ?_
      refine WXL.nil ?_
      refine Fin.then_normal ?_
      refine WX.ret ?_
      first
      | (refine Fin.result (O' := (r, ⟨0, false, [.slice a (l.length + 1) c, I e]⟩) :: O) (.inr rfl) rfl rfl (fun _ hs => hs) ?_
         have e1 : nextP (x :: l, e) = (0, (x :: l, e)) := by unfold nextP; split <;> simp_all
         rw [e1]
         exact ⟨rfl, a, c, rfl, fun _ h => h, hc⟩)
      | (have he : e = 0 := by omega
         subst he
         exact Fin.result (O' := (r, ⟨0, false, [.slice (some ⟨b, off + 1, none⟩) l.length l.length, I 0]⟩) :: O) (.inr rfl) rfl rfl (fun _ hs => hs) ⟨rfl, _, _, rfl, fun O2 h => Rowy.tl (h1 ▸ h), fun q => by cases q⟩)

end Go.Proofs.Ythekokdpplobhaa.Eng

set_option linter.unusedVariables false
set_option linter.unusedSimpArgs false
namespace Go.Proofs.Ythekokdpplobhaa.Eng

def failP (q : RdP) (e : Int) : RdP := (q.1, if q.2 = 0 then e else q.2)
/-- Does this byte not belong at this place? -/
def badB (i : Nat) (c : Int) : Prop := (i = 9 ∧ 1 < c) ∨ (0 < i ∧ c = 0)
instance (i : Nat) (c : Int) : Decidable (badB i c) := by unfold badB; infer_instance
/-- Seven bits more. -/
def bitsU (n c : Int) (i : Nat) : Int :=
  IntKind.wrap .u64 (((BitVec.ofInt 64 n) ||| (BitVec.ofInt 64 (IntKind.wrap .u64 (IntKind.wrap .u8 ((BitVec.ofInt 8 c) &&& ~~~(BitVec.ofInt 8 128)).toNat * 2 ^ (min (7 * (i : Int)).toNat 64))))).toNat : Int)

theorem nextP_len (q : RdP) (h : q.2 = 0) : (nextP q).2.2 ≠ 0 ∨ (nextP q).2.1.length < q.1.length := by
  obtain ⟨l, e⟩ := q
  simp only at h
  subst h
  cases l with
  | nil => exact .inl (by decide)
  | cons b l => exact .inr (by show l.length < l.length + 1; omega)

/-- A round's state behind the byte. -/
def roundP (i : Nat) (q : RdP) : RdP := if badB i (nextP q).1 then failP (nextP q).2 2 else (nextP q).2

theorem roundP_len (i : Nat) (q : RdP) (h : q.2 = 0) : (roundP i q).2 ≠ 0 ∨ (roundP i q).1.length < q.1.length := by
  unfold roundP failP
  rcases nextP_len q h with q1 | q1
  · left
    split
    · simp only [if_neg q1]; exact q1
    · exact q1
  · split
    · right; exact q1
    · exact .inr q1

/-- What a reader makes of a number from round `i` on. -/
def uintP (i : Nat) (n : Int) (q : RdP) : Int × RdP :=
  if h : q.2 = 0 then
    if (nextP q).1 < 128 ∧ (roundP i q).2 = 0 then (bitsU n (nextP q).1 i, roundP i q)
    else if h2 : (roundP i q).2 = 0 then uintP (i + 1) (bitsU n (nextP q).1 i) (roundP i q) else (0, roundP i q)
  else (0, q)
termination_by q.1.length
decreasing_by
  rcases roundP_len i q h with w | w
  · exact absurd h2 w
  · exact w

end Go.Proofs.Ythekokdpplobhaa.Eng

set_option linter.unusedVariables false
set_option linter.unusedSimpArgs false
namespace Go.Proofs.Ythekokdpplobhaa.Eng

theorem and127 : ∀ x : BitVec 8, (x &&& ~~~(128#8)).toNat = x.toNat % 128 := by decide +kernel

theorem bitsU_eq {acc c i : Nat} (hc : c < 256) (hi : i ≤ 9) (hacc : acc < 2 ^ (7 * i)) (h : acc + (c % 128) * 2 ^ (7 * i) < 18446744073709551616) : bitsU acc c i = ((acc + (c % 128) * 2 ^ (7 * i) : Nat) : Int) := by
  have e0 : (BitVec.ofInt 8 128) = 128#8 := rfl
  have e1 : ((BitVec.ofInt 8 (c : Int)) &&& ~~~(BitVec.ofInt 8 128)).toNat = c % 128 := by
    rw [e0, and127, BitVec.toNat_ofInt]
    omega
  have e2 : min (7 * (i : Int)).toNat 64 = 7 * i := by omega
  have e4 : (((c % 128 : Nat) : Int) * 2 ^ (7 * i)) = (((c % 128) * 2 ^ (7 * i) : Nat) : Int) := by rw [Int.natCast_mul, Int.natCast_pow]; rfl
  have hb : (c % 128) * 2 ^ (7 * i) < 18446744073709551616 := by omega
  have ha : acc < 18446744073709551616 := by omega
  unfold bitsU
  rw [e1, e2, wrap_u8 (n := ((c % 128 : Nat) : Int)) (by omega) (by omega), e4, wrap_u64 (n := (((c % 128) * 2 ^ (7 * i) : Nat) : Int)) (by omega) (by omega)]
  have e5 : ((BitVec.ofInt 64 (acc : Int)) ||| (BitVec.ofInt 64 (((c % 128) * 2 ^ (7 * i) : Nat) : Int))).toNat = acc + (c % 128) * 2 ^ (7 * i) := by
    rw [BitVec.toNat_or, BitVec.toNat_ofInt, BitVec.toNat_ofInt, ← or_above hacc]
    congr 1 <;> omega
  rw [e5, wrap_u64 (by omega) (by omega)]

theorem uintP_var (rest : List Int) : ∀ (m i acc : Nat), i ≤ 9 → acc < 2 ^ (7 * i) → acc + m * 2 ^ (7 * i) < 18446744073709551616 → (0 < i → 0 < m) →
    uintP i acc (varU m ++ rest, 0) = (((acc + m * 2 ^ (7 * i) : Nat) : Int), (rest, 0)) := by
  intro m
  induction m using Nat.strongRecOn with
  | _ m ih =>
    intro i acc hi hacc hsum hpos
    by_cases hm : m < 128
    · have e1 : nextP (varU m ++ rest, 0) = ((m : Int), (rest, 0)) := by rw [varU_lt hm]; rfl
      have hnb : ¬ badB i (m : Int) := by
        unfold badB
        rintro (⟨h9, h1⟩ | ⟨h1, h2⟩)
        · subst h9
          have : m * 2 ^ 63 < 18446744073709551616 := by omega
          have : m < 2 := by omega
          omega
        · have := hpos h1; omega
      have e2 : roundP i (varU m ++ rest, 0) = (rest, 0) := by unfold roundP; rw [e1, if_neg hnb]
      rw [uintP, dif_pos rfl, e1, e2, if_pos ⟨by show (m : Int) < 128; omega, rfl⟩]
      have := bitsU_eq (acc := acc) (c := m) (i := i) (by omega) hi hacc (by rw [Nat.mod_eq_of_lt hm]; exact hsum)
      rw [Nat.mod_eq_of_lt hm] at this
      rw [this]
    · have hm1 : m % 128 + 128 * (m / 128) = m := by omega
      have e1 : nextP (varU m ++ rest, 0) = (((128 + m % 128 : Nat) : Int), (varU (m / 128) ++ rest, 0)) := by rw [varU_ge hm]; rfl
      have hi9 : i < 9 := by
        rcases Nat.lt_or_ge i 9 with q | q
        · exact q
        · have : i = 9 := by omega
          subst this
          have : m * 2 ^ 63 < 18446744073709551616 := by omega
          omega
      have hnb : ¬ badB i ((128 + m % 128 : Nat) : Int) := by
        unfold badB
        rintro (⟨h9, h1⟩ | ⟨h1, h2⟩) <;> omega
      have e2 : roundP i (varU m ++ rest, 0) = (varU (m / 128) ++ rest, 0) := by unfold roundP; rw [e1, if_neg hnb]
      have hp : 2 ^ (7 * (i + 1)) = 128 * 2 ^ (7 * i) := by rw [Nat.mul_add, Nat.pow_add, Nat.mul_comm]
      have hms : m * 2 ^ (7 * i) = (m % 128) * 2 ^ (7 * i) + (m / 128) * 2 ^ (7 * (i + 1)) := by
        rw [hp, ← Nat.mul_assoc, ← Nat.add_mul]
        congr 1
        omega
      have hb := bitsU_eq (acc := acc) (c := 128 + m % 128) (i := i) (by omega) (by omega) hacc (by
        have : (128 + m % 128) % 128 = m % 128 := by omega
        rw [this]; omega)
      rw [show (128 + m % 128) % 128 = m % 128 from by omega] at hb
      rw [uintP, dif_pos rfl, e1, e2, if_neg (fun q => by have := q.1; simp only at this; omega), dif_pos rfl, hb]
      have hlt : (m % 128) * 2 ^ (7 * i) ≤ 127 * 2 ^ (7 * i) := Nat.mul_le_mul_right _ (by omega)
      rw [ih (m / 128) (by omega) (i + 1) (acc + (m % 128) * 2 ^ (7 * i)) (by omega) (by rw [hp]; omega) (by omega) (fun _ => by omega)]
      congr 2
      omega

end Go.Proofs.Ythekokdpplobhaa.Eng

set_option linter.unusedVariables false
set_option linter.unusedSimpArgs false
namespace Go.Proofs.Ythekokdpplobhaa.Eng

/-- A byte is taken, whatever is left. -/
theorem next_ok (O : Objs) (r : Nat) (q : RdP) (a : Option Addr) (c : Nat) (hlen : q.1.length ≤ 1000000000000) (hr : Rowy O 1 a q.1.length (q.1.map B8)) (hc : a = none → c = 0) :
    Spec Try.prog false 48 #[Ptr r 0] ((r, ⟨0, false, [.slice a q.1.length c, I q.2]⟩) :: O) fun v O' => v = B8 (nextP q).1 ∧ RdT O r a q (nextP q).2 O' := by
  obtain ⟨l, e⟩ := q
  cases l with
  | nil => exact next_nil O r e a c hr hc
  | cons x l => exact next_cons O r x l e a c (by simp only [List.length_cons] at hlen; omega) hr hc

theorem nextP_le (q : RdP) : (nextP q).2.1.length ≤ q.1.length := by
  obtain ⟨l, e⟩ := q
  unfold nextP
  split <;> simp_all

theorem uintP_step {i : Nat} {n : Int} {q : RdP} (h : q.2 = 0) : uintP i n q = if (nextP q).1 < 128 ∧ (roundP i q).2 = 0 then (bitsU n (nextP q).1 i, roundP i q) else uintP (i + 1) (bitsU n (nextP q).1 i) (roundP i q) := by
  rw [uintP, dif_pos h]
  split
  · rfl
  · split
    · rfl
    · rename_i h2
      rw [uintP, dif_neg h2]

theorem failP_ne (q : RdP) : (failP q 2).2 ≠ 0 := by
  unfold failP
  simp only
  split <;> omega

theorem wrap8_range (n : Int) : 0 ≤ IntKind.wrap .u8 n ∧ IntKind.wrap .u8 n < 18446744073709551616 := by
  unfold IntKind.wrap
  have e1 : (2 : Int) ^ IntKind.bits .u8 = 256 := rfl
  have e3 : IntKind.signed .u8 = false := rfl
  simp only [e1, e3, Bool.false_and, Bool.false_eq_true, if_false]
  omega

theorem nextP_err {l : List Int} {e : Int} (h : e ≠ 0) : nextP (l, e) = (0, (l, e)) := by
  unfold nextP
  split <;> simp_all

theorem nextP_range {q : RdP} (h : Bytes q.1) : 0 ≤ (nextP q).1 ∧ (nextP q).1 < 256 ∧ Bytes (nextP q).2.1 := by
  obtain ⟨l, e⟩ := q
  by_cases he : e = 0
  · subst he
    cases l with
    | nil => exact ⟨by decide, by decide, fun x hx => by simp [nextP] at hx⟩
    | cons b l => exact ⟨(h b (List.mem_cons_self ..)).1, (h b (List.mem_cons_self ..)).2, fun x hx => h x (List.mem_cons_of_mem _ hx)⟩
  · rw [nextP_err he]
    exact ⟨Int.le_refl 0, by show (0 : Int) < 256; decide, h⟩

theorem uint_ok (O : Objs) (r : Nat) (q0 : RdP) (a0 : Option Addr) (c0 : Nat) (hB : Bytes q0.1) (hlen : q0.1.length ≤ 1000000000000) (hr : Rowy O 1 a0 q0.1.length (q0.1.map B8)) (hc : a0 = none → c0 = 0) :
    Spec Try.prog false 26 #[Ptr r 0] ((r, ⟨0, false, [.slice a0 q0.1.length c0, I q0.2]⟩) :: O) fun v O' => v = U (uintP 0 0 q0).1 ∧ RdO O r (uintP 0 0 q0).2 O' := by
  refine Spec.enter (args := [_]) (m := 49) Try.func26 rfl rfl (by decide +kernel) fun h0 => ?_
  refine WX.seq ?_
  refine WX.region rfl ?_
  refine WXL.assign Met.none rfl ?_
  refine WXL.nil ?_
  refine Fin.then_normal ?_
  refine WX.seq ?_
  refine WX.region rfl ?_
  refine WXL.assign Met.none rfl ?_
  refine WXL.nil ?_
  refine Fin.then_normal ?_
  refine WX.seq ?_
  refine WX.seq ?_
  refine WX.region rfl ?_
  refine WXL.assign Met.none rfl ?_
  refine WXL.nil ?_
  refine Fin.then_normal ?_
  refine WX.block ?_
  refine WX.loop (fun s : Nat × Int × RdP × Option Addr × Nat => [(0, Ptr r 0), (3, U s.2.1), (4, I (s.1 : Int))]) (fun s => (r, ⟨0, false, [.slice s.2.2.2.1 s.2.2.1.1.length s.2.2.2.2, I s.2.2.1.2]⟩) :: O) (fun s => uintP s.1 s.2.1 s.2.2.1 = uintP 0 0 q0 ∧ Bytes s.2.2.1.1 ∧ s.2.2.1.1.length ≤ q0.1.length ∧ (s.2.2.1.2 = 0 → s.1 + s.2.2.1.1.length ≤ q0.1.length) ∧ Rowy O 1 s.2.2.2.1 s.2.2.1.1.length (s.2.2.1.1.map B8) ∧ (s.2.2.2.1 = none → s.2.2.2.2 = 0)) (fun s => if s.2.2.1.2 = 0 then s.2.2.1.1.length + 1 else 0) (0, 0, q0, a0, c0) ⟨rfl, hB, Nat.le_refl _, fun _ => by simp, hr, hc⟩ (fun s hs => hs.tl [0] 1) (fun s hs => ?_)
  obtain ⟨i, n, q, a, c⟩ := s
  obtain ⟨g1, g2, g3, g4, g5, g6⟩ := hs
  simp only at g1 g2 g3 g4 g5 g6
  dsimp only
  refine WX.seq ?_
  refine WX.seq ?_
  refine WX.region rfl ?_
  refine WXL.move Met.none rfl ?_
  refine WXL.nilCheck Met.none rfl ?_
  first | refine WXL.fieldAddr Met.none rfl Try.underlying75 rfl sz47 rfl ?_ | refine WXL.faS Met.none rfl Try.underlying75 rfl sz47 ?_
  first | refine WXL.ld Met.none rfl agg47 ?_ | refine WXL.ldS Met.none rfl agg47 ?_
  refine WXL.bin Met.none rfl rfl rfl ?_
  refine WXL.nil ?_
  refine Fin.then_normal ?_
  refine WX.cond rfl (fun hc0 => ?_) (fun hc0 => ?_)
  · try simp only [cnd] at hc0
    refine WX.skip ?_
    refine Fin.then_normal ?_
    refine WX.seq ?_
    refine WX.block ?_
    refine WX.seq ?_
    refine WX.region rfl ?_
    refine WXL.move Met.none rfl ?_
    refine WXL.cl (O1 := _) Met.none rfl (fnOk_of Try.func48 (by decide +kernel)) rfl (fun _ h => h) (next_ok O r q a c (by omega) g5 g6) (fun v O' hp => ?_)
    obtain ⟨rfl, ⟨a2, c2, rfl, g7, g8⟩⟩ := hp
    have g7 := g7 O g5
    obtain ⟨hb1, hb2, hb3⟩ := nextP_range g2
    refine WXL.assign Met.none rfl ?_
    refine WXL.nil ?_
    refine Fin.then_normal ?_
    refine WX.seq ?_
    refine WX.seq ?_
    refine WX.region rfl ?_
    refine WXL.move Met.none rfl ?_
    refine WXL.bin Met.none rfl rfl rfl ?_
    refine WXL.move Met.none rfl ?_
    refine WXL.split (d := 17) rfl (fun hg17 => ?_) (fun hg17 => ?_)
    · try simp only [cnd] at hg17
      refine WXL.move (Met.some rfl rfl rfl) rfl ?_
      refine WXL.bin (Met.some rfl rfl rfl) rfl rfl rfl ?_
      refine WXL.pick_t Met.none rfl rfl ?_
      refine WXL.move Met.none rfl ?_
      refine WXL.split (d := 21) rfl (fun hg21 => ?_) (fun hg21 => ?_)
      · try simp only [cnd] at hg21
        refine WXL.miss (j := 6) (d := 21) rfl rfl rfl ?_
        refine WXL.miss (j := 6) (d := 21) rfl rfl rfl ?_
        refine WXL.miss (j := 6) (d := 21) rfl rfl rfl ?_
        refine WXL.missU (j := 9) (e := 24) rfl rfl ?_
        refine WXL.missU (j := 9) (e := 24) rfl rfl ?_
        refine WXL.miss (j := 6) (d := 21) rfl rfl rfl ?_
        refine WXL.pick_t Met.none rfl rfl ?_
        refine WXL.nil ?_
        refine Fin.then_normal ?_
        refine WX.cond rfl (fun hc1 => ?_) (fun hc1 => nomatch hc1)
        refine WX.region rfl ?_
        refine WXL.move Met.none rfl ?_
        refine WXL.cl (O1 := _) Met.none rfl (fnOk_of Try.func49 (by decide +kernel)) rfl (fun _ h => h) (fail_ok _ r _ 2 _) (fun v O' hp => ?_)
        obtain rfl := hp
        refine WXL.nil ?_
        refine Fin.then_normal ?_
        refine WX.seq ?_
        refine WX.region rfl ?_
        refine WXL.move Met.none rfl ?_
        refine WXL.move Met.none rfl ?_
        refine WXL.bin Met.none rfl rfl rfl ?_
        refine WXL.conv Met.none rfl Try.underlying5 Try.underlying42 (wrap_u64 (wrap8_range _).1 (wrap8_range _).2) ?_
        refine WXL.move Met.none rfl ?_
        refine WXL.bin Met.none rfl rfl bvM ?_
        refine WXL.shl Met.none rfl rfl (by omega) ?_
        refine WXL.bin Met.none rfl rfl rfl ?_
        refine WXL.assign Met.none rfl ?_
        refine WXL.nil ?_
        refine Fin.then_normal ?_
        refine WX.seq ?_
        refine WX.region rfl ?_
        refine WXL.move Met.none rfl ?_
        refine WXL.bin Met.none rfl rfl rfl ?_
        refine WXL.move Met.none rfl ?_
        refine WXL.split (d := 41) rfl (fun hg41 => ?_) (fun hg41 => ?_)
        · try simp only [cnd] at hg41
          refine WXL.move (Met.some rfl rfl rfl) rfl ?_
          refine WXL.nilCheck (Met.some rfl rfl rfl) rfl ?_
          first | refine WXL.fieldAddr (Met.some rfl rfl rfl) rfl Try.underlying75 rfl sz47 rfl ?_ | refine WXL.faS (Met.some rfl rfl rfl) rfl Try.underlying75 rfl sz47 ?_
          first | refine WXL.ld (Met.some rfl rfl rfl) rfl agg47 ?_ | refine WXL.ldS (Met.some rfl rfl rfl) rfl agg47 ?_
          refine WXL.bin (Met.some rfl rfl rfl) rfl rfl rfl ?_
          refine WXL.pick_t Met.none rfl rfl ?_
          refine WXL.nil ?_
          refine Fin.then_normal ?_
          refine WX.cond rfl (fun hc2 => ?_) (fun hc2 => ?_)
          · try simp only [cnd] at hc2
            refine WX.seq ?_
            refine WX.region rfl ?_
            refine WXL.move Met.none rfl ?_
            refine WXL.assign Met.none rfl ?_
            refine WXL.nil ?_
            refine Fin.then_normal ?_
            refine WX.ret ?_
            refine Fin.block_ret ?_
            refine Fin.then_ret ?_
            refine Fin.loop_ret ?_
            refine Fin.block_ret ?_
            refine Fin.then_ret ?_
            first
            | (have hz : uintP i n q = (0, q) := by rw [uintP, dif_neg hc0]
               refine Fin.result (O' := (r, ⟨0, false, [.slice a q.1.length c, I q.2]⟩) :: O) (.inr rfl) rfl rfl (fun _ hs => hs) ?_
               rw [← g1, hz]
               exact ⟨rfl, a, c, rfl, g5, g6⟩)
            | (exfalso; revert hc2; split <;> omega)
            | (have hrp : roundP i q = (nextP q).2 := if_neg (by unfold badB; omega)
               have hst := uintP_step (i := i) (n := n) hc0
               rw [if_pos (by rw [hrp]; omega), hrp] at hst
               refine Fin.result (O' := (r, ⟨0, false, [.slice a2 (nextP q).2.1.length c2, I (nextP q).2.2]⟩) :: O) (.inr rfl) rfl rfl (fun _ hs => hs) ?_
               rw [← g1, hst]
               exact ⟨rfl, a2, c2, rfl, g7, g8⟩)
          · try simp only [cnd] at hc2
            refine WX.skip ?_
            refine Fin.block_normal ?_
            refine Fin.then_normal ?_
            refine WX.region rfl ?_
            refine WXL.move Met.none rfl ?_
            refine WXL.bin Met.none rfl rfl bvA ?_
            refine WXL.assign Met.none rfl ?_
            refine WXL.nil ?_
            first
            | (have hrp : roundP i q = failP (nextP q).2 2 := if_pos (by unfold badB; omega)
               have hle := nextP_le q
               have hst := uintP_step (i := i) (n := n) hc0
               rw [if_neg (by rw [hrp]; exact fun w => failP_ne _ w.2), hrp] at hst
               refine Fin.loop_next (i + 1, bitsU n (nextP q).1 i, failP (nextP q).2 2, a2, c2) ⟨hst.symm.trans g1, hb3, by show (nextP q).2.1.length ≤ _; omega, fun w => ?_, g7, g8⟩ ?_ (fun s hs => hs.tl [0] 1)
               · exact absurd w (failP_ne _)
               · simp only; rw [if_neg (failP_ne _), if_pos hc0]; omega)
            | (have hrp : roundP i q = (nextP q).2 := if_neg (by unfold badB; omega)
               have hle := nextP_le q
               have hlt := nextP_len q hc0
               have hst := uintP_step (i := i) (n := n) hc0
               rw [if_neg (by rw [hrp]; omega), hrp] at hst
               refine Fin.loop_next (i + 1, bitsU n (nextP q).1 i, (nextP q).2, a2, c2) ⟨hst.symm.trans g1, hb3, by show (nextP q).2.1.length ≤ _; omega, fun w => ?_, g7, g8⟩ ?_ (fun s hs => hs.tl [0] 1)
               · simp only at w ⊢; have := g4 hc0; omega
               · simp only; rw [if_pos hc0]; split <;> omega)
        · try simp only [cnd] at hg41
          refine WXL.miss (j := 2) (d := 41) rfl rfl rfl ?_
          refine WXL.miss (j := 2) (d := 41) rfl rfl rfl ?_
          refine WXL.miss (j := 2) (d := 41) rfl rfl rfl ?_
          refine WXL.miss (j := 2) (d := 41) rfl rfl rfl ?_
          refine WXL.miss (j := 2) (d := 41) rfl rfl rfl ?_
          refine WXL.pick_f Met.none rfl rfl ?_
          refine WXL.nil ?_
          refine Fin.then_normal ?_
          refine WX.cond rfl (fun hc2 => nomatch hc2) (fun hc2 => ?_)
          refine WX.skip ?_
          refine Fin.block_normal ?_
          refine Fin.then_normal ?_
          refine WX.region rfl ?_
          refine WXL.move Met.none rfl ?_
          refine WXL.bin Met.none rfl rfl bvA ?_
          refine WXL.assign Met.none rfl ?_
          refine WXL.nil ?_
          first
          | (have hrp : roundP i q = failP (nextP q).2 2 := if_pos (by unfold badB; omega)
             have hle := nextP_le q
             have hst := uintP_step (i := i) (n := n) hc0
             rw [if_neg (by rw [hrp]; exact fun w => failP_ne _ w.2), hrp] at hst
             refine Fin.loop_next (i + 1, bitsU n (nextP q).1 i, failP (nextP q).2 2, a2, c2) ⟨hst.symm.trans g1, hb3, by show (nextP q).2.1.length ≤ _; omega, fun w => ?_, g7, g8⟩ ?_ (fun s hs => hs.tl [0] 1)
             · exact absurd w (failP_ne _)
             · simp only; rw [if_neg (failP_ne _), if_pos hc0]; omega)
          | (have hrp : roundP i q = (nextP q).2 := if_neg (by unfold badB; omega)
             have hle := nextP_le q
             have hlt := nextP_len q hc0
             have hst := uintP_step (i := i) (n := n) hc0
             rw [if_neg (by rw [hrp]; omega), hrp] at hst
             refine Fin.loop_next (i + 1, bitsU n (nextP q).1 i, (nextP q).2, a2, c2) ⟨hst.symm.trans g1, hb3, by show (nextP q).2.1.length ≤ _; omega, fun w => ?_, g7, g8⟩ ?_ (fun s hs => hs.tl [0] 1)
             · simp only at w ⊢; have := g4 hc0; omega
             · simp only; rw [if_pos hc0]; split <;> omega)
      · try simp only [cnd] at hg21
        refine WXL.move (Met.some rfl rfl rfl) rfl ?_
        refine WXL.bin (Met.some rfl rfl rfl) rfl rfl rfl ?_
        refine WXL.move (Met.some rfl rfl rfl) rfl ?_
        refine WXL.split (d := 24) rfl (fun hg24 => ?_) (fun hg24 => ?_)
        · try simp only [cnd] at hg24
          refine WXL.move (Met.some rfl rfl rfl) rfl ?_
          refine WXL.bin (Met.some rfl rfl rfl) rfl rfl rfl ?_
          refine WXL.pick_t (Met.some rfl rfl rfl) rfl rfl ?_
          refine WXL.pick_f Met.none rfl rfl ?_
          refine WXL.nil ?_
          refine Fin.then_normal ?_
          refine WX.cond rfl (fun hc1 => ?_) (fun hc1 => ?_)
          · try simp only [cnd] at hc1
            refine WX.region rfl ?_
            refine WXL.move Met.none rfl ?_
            refine WXL.cl (O1 := _) Met.none rfl (fnOk_of Try.func49 (by decide +kernel)) rfl (fun _ h => h) (fail_ok _ r _ 2 _) (fun v O' hp => ?_)
            obtain rfl := hp
            refine WXL.nil ?_
            refine Fin.then_normal ?_
            refine WX.seq ?_
            refine WX.region rfl ?_
            refine WXL.move Met.none rfl ?_
            refine WXL.move Met.none rfl ?_
            refine WXL.bin Met.none rfl rfl rfl ?_
            refine WXL.conv Met.none rfl Try.underlying5 Try.underlying42 (wrap_u64 (wrap8_range _).1 (wrap8_range _).2) ?_
            refine WXL.move Met.none rfl ?_
            refine WXL.bin Met.none rfl rfl bvM ?_
            refine WXL.shl Met.none rfl rfl (by omega) ?_
            refine WXL.bin Met.none rfl rfl rfl ?_
            refine WXL.assign Met.none rfl ?_
            refine WXL.nil ?_
            refine Fin.then_normal ?_
            refine WX.seq ?_
            refine WX.region rfl ?_
            refine WXL.move Met.none rfl ?_
            refine WXL.bin Met.none rfl rfl rfl ?_
            refine WXL.move Met.none rfl ?_
            refine WXL.split (d := 41) rfl (fun hg41 => ?_) (fun hg41 => ?_)
            · try simp only [cnd] at hg41
              refine WXL.move (Met.some rfl rfl rfl) rfl ?_
              refine WXL.nilCheck (Met.some rfl rfl rfl) rfl ?_
              first | refine WXL.fieldAddr (Met.some rfl rfl rfl) rfl Try.underlying75 rfl sz47 rfl ?_ | refine WXL.faS (Met.some rfl rfl rfl) rfl Try.underlying75 rfl sz47 ?_
              first | refine WXL.ld (Met.some rfl rfl rfl) rfl agg47 ?_ | refine WXL.ldS (Met.some rfl rfl rfl) rfl agg47 ?_
              refine WXL.bin (Met.some rfl rfl rfl) rfl rfl rfl ?_
              refine WXL.pick_t Met.none rfl rfl ?_
              refine WXL.nil ?_
              refine Fin.then_normal ?_
              refine WX.cond rfl (fun hc2 => ?_) (fun hc2 => ?_)
              · try simp only [cnd] at hc2
                refine WX.seq ?_
                refine WX.region rfl ?_
                refine WXL.move Met.none rfl ?_
                refine WXL.assign Met.none rfl ?_
                refine WXL.nil ?_
                refine Fin.then_normal ?_
                refine WX.ret ?_
                refine Fin.block_ret ?_
                refine Fin.then_ret ?_
                refine Fin.loop_ret ?_
                refine Fin.block_ret ?_
                refine Fin.then_ret ?_
                first
                | (have hz : uintP i n q = (0, q) := by rw [uintP, dif_neg hc0]
                   refine Fin.result (O' := (r, ⟨0, false, [.slice a q.1.length c, I q.2]⟩) :: O) (.inr rfl) rfl rfl (fun _ hs => hs) ?_
                   rw [← g1, hz]
                   exact ⟨rfl, a, c, rfl, g5, g6⟩)
                | (exfalso; revert hc2; split <;> omega)
                | (have hrp : roundP i q = (nextP q).2 := if_neg (by unfold badB; omega)
                   have hst := uintP_step (i := i) (n := n) hc0
                   rw [if_pos (by rw [hrp]; omega), hrp] at hst
                   refine Fin.result (O' := (r, ⟨0, false, [.slice a2 (nextP q).2.1.length c2, I (nextP q).2.2]⟩) :: O) (.inr rfl) rfl rfl (fun _ hs => hs) ?_
                   rw [← g1, hst]
                   exact ⟨rfl, a2, c2, rfl, g7, g8⟩)
              · try simp only [cnd] at hc2
                refine WX.skip ?_
                refine Fin.block_normal ?_
                refine Fin.then_normal ?_
                refine WX.region rfl ?_
                refine WXL.move Met.none rfl ?_
                refine WXL.bin Met.none rfl rfl bvA ?_
                refine WXL.assign Met.none rfl ?_
                refine WXL.nil ?_
                first
                | (have hrp : roundP i q = failP (nextP q).2 2 := if_pos (by unfold badB; omega)
                   have hle := nextP_le q
                   have hst := uintP_step (i := i) (n := n) hc0
                   rw [if_neg (by rw [hrp]; exact fun w => failP_ne _ w.2), hrp] at hst
                   refine Fin.loop_next (i + 1, bitsU n (nextP q).1 i, failP (nextP q).2 2, a2, c2) ⟨hst.symm.trans g1, hb3, by show (nextP q).2.1.length ≤ _; omega, fun w => ?_, g7, g8⟩ ?_ (fun s hs => hs.tl [0] 1)
                   · exact absurd w (failP_ne _)
                   · simp only; rw [if_neg (failP_ne _), if_pos hc0]; omega)
                | (have hrp : roundP i q = (nextP q).2 := if_neg (by unfold badB; omega)
                   have hle := nextP_le q
                   have hlt := nextP_len q hc0
                   have hst := uintP_step (i := i) (n := n) hc0
                   rw [if_neg (by rw [hrp]; omega), hrp] at hst
                   refine Fin.loop_next (i + 1, bitsU n (nextP q).1 i, (nextP q).2, a2, c2) ⟨hst.symm.trans g1, hb3, by show (nextP q).2.1.length ≤ _; omega, fun w => ?_, g7, g8⟩ ?_ (fun s hs => hs.tl [0] 1)
                   · simp only at w ⊢; have := g4 hc0; omega
                   · simp only; rw [if_pos hc0]; split <;> omega)
            · try simp only [cnd] at hg41
              refine WXL.miss (j := 2) (d := 41) rfl rfl rfl ?_
              refine WXL.miss (j := 2) (d := 41) rfl rfl rfl ?_
              refine WXL.miss (j := 2) (d := 41) rfl rfl rfl ?_
              refine WXL.miss (j := 2) (d := 41) rfl rfl rfl ?_
              refine WXL.miss (j := 2) (d := 41) rfl rfl rfl ?_
              refine WXL.pick_f Met.none rfl rfl ?_
              refine WXL.nil ?_
              refine Fin.then_normal ?_
              refine WX.cond rfl (fun hc2 => nomatch hc2) (fun hc2 => ?_)
              refine WX.skip ?_
              refine Fin.block_normal ?_
              refine Fin.then_normal ?_
              refine WX.region rfl ?_
              refine WXL.move Met.none rfl ?_
              refine WXL.bin Met.none rfl rfl bvA ?_
              refine WXL.assign Met.none rfl ?_
              refine WXL.nil ?_
              first
              | (have hrp : roundP i q = failP (nextP q).2 2 := if_pos (by unfold badB; omega)
                 have hle := nextP_le q
                 have hst := uintP_step (i := i) (n := n) hc0
                 rw [if_neg (by rw [hrp]; exact fun w => failP_ne _ w.2), hrp] at hst
                 refine Fin.loop_next (i + 1, bitsU n (nextP q).1 i, failP (nextP q).2 2, a2, c2) ⟨hst.symm.trans g1, hb3, by show (nextP q).2.1.length ≤ _; omega, fun w => ?_, g7, g8⟩ ?_ (fun s hs => hs.tl [0] 1)
                 · exact absurd w (failP_ne _)
                 · simp only; rw [if_neg (failP_ne _), if_pos hc0]; omega)
              | (have hrp : roundP i q = (nextP q).2 := if_neg (by unfold badB; omega)
                 have hle := nextP_le q
                 have hlt := nextP_len q hc0
                 have hst := uintP_step (i := i) (n := n) hc0
                 rw [if_neg (by rw [hrp]; omega), hrp] at hst
                 refine Fin.loop_next (i + 1, bitsU n (nextP q).1 i, (nextP q).2, a2, c2) ⟨hst.symm.trans g1, hb3, by show (nextP q).2.1.length ≤ _; omega, fun w => ?_, g7, g8⟩ ?_ (fun s hs => hs.tl [0] 1)
                 · simp only at w ⊢; have := g4 hc0; omega
                 · simp only; rw [if_pos hc0]; split <;> omega)
          · try simp only [cnd] at hc1
            refine WX.skip ?_
            refine Fin.then_normal ?_
            refine WX.seq ?_
            refine WX.region rfl ?_
            refine WXL.move Met.none rfl ?_
            refine WXL.move Met.none rfl ?_
            refine WXL.bin Met.none rfl rfl rfl ?_
            refine WXL.conv Met.none rfl Try.underlying5 Try.underlying42 (wrap_u64 (wrap8_range _).1 (wrap8_range _).2) ?_
            refine WXL.move Met.none rfl ?_
            refine WXL.bin Met.none rfl rfl bvM ?_
            refine WXL.shl Met.none rfl rfl (by omega) ?_
            refine WXL.bin Met.none rfl rfl rfl ?_
            refine WXL.assign Met.none rfl ?_
            refine WXL.nil ?_
            refine Fin.then_normal ?_
            refine WX.seq ?_
            refine WX.region rfl ?_
            refine WXL.move Met.none rfl ?_
            refine WXL.bin Met.none rfl rfl rfl ?_
            refine WXL.move Met.none rfl ?_
            refine WXL.split (d := 41) rfl (fun hg41 => ?_) (fun hg41 => ?_)
            · try simp only [cnd] at hg41
              refine WXL.move (Met.some rfl rfl rfl) rfl ?_
              refine WXL.nilCheck (Met.some rfl rfl rfl) rfl ?_
              first | refine WXL.fieldAddr (Met.some rfl rfl rfl) rfl Try.underlying75 rfl sz47 rfl ?_ | refine WXL.faS (Met.some rfl rfl rfl) rfl Try.underlying75 rfl sz47 ?_
              first | refine WXL.ld (Met.some rfl rfl rfl) rfl agg47 ?_ | refine WXL.ldS (Met.some rfl rfl rfl) rfl agg47 ?_
              refine WXL.bin (Met.some rfl rfl rfl) rfl rfl rfl ?_
              refine WXL.pick_t Met.none rfl rfl ?_
              refine WXL.nil ?_
              refine Fin.then_normal ?_
              refine WX.cond rfl (fun hc2 => ?_) (fun hc2 => ?_)
              · try simp only [cnd] at hc2
                refine WX.seq ?_
                refine WX.region rfl ?_
                refine WXL.move Met.none rfl ?_
                refine WXL.assign Met.none rfl ?_
                refine WXL.nil ?_
                refine Fin.then_normal ?_
                refine WX.ret ?_
                refine Fin.block_ret ?_
                refine Fin.then_ret ?_
                refine Fin.loop_ret ?_
                refine Fin.block_ret ?_
                refine Fin.then_ret ?_
                first
                | (have hz : uintP i n q = (0, q) := by rw [uintP, dif_neg hc0]
                   refine Fin.result (O' := (r, ⟨0, false, [.slice a q.1.length c, I q.2]⟩) :: O) (.inr rfl) rfl rfl (fun _ hs => hs) ?_
                   rw [← g1, hz]
                   exact ⟨rfl, a, c, rfl, g5, g6⟩)
                | (exfalso; revert hc2; split <;> omega)
                | (have hrp : roundP i q = (nextP q).2 := if_neg (by unfold badB; omega)
                   have hst := uintP_step (i := i) (n := n) hc0
                   rw [if_pos (by rw [hrp]; omega), hrp] at hst
                   refine Fin.result (O' := (r, ⟨0, false, [.slice a2 (nextP q).2.1.length c2, I (nextP q).2.2]⟩) :: O) (.inr rfl) rfl rfl (fun _ hs => hs) ?_
                   rw [← g1, hst]
                   exact ⟨rfl, a2, c2, rfl, g7, g8⟩)
              · try simp only [cnd] at hc2
                refine WX.skip ?_
                refine Fin.block_normal ?_
                refine Fin.then_normal ?_
                refine WX.region rfl ?_
                refine WXL.move Met.none rfl ?_
                refine WXL.bin Met.none rfl rfl bvA ?_
                refine WXL.assign Met.none rfl ?_
                refine WXL.nil ?_
                first
                | (have hrp : roundP i q = failP (nextP q).2 2 := if_pos (by unfold badB; omega)
                   have hle := nextP_le q
                   have hst := uintP_step (i := i) (n := n) hc0
                   rw [if_neg (by rw [hrp]; exact fun w => failP_ne _ w.2), hrp] at hst
                   refine Fin.loop_next (i + 1, bitsU n (nextP q).1 i, failP (nextP q).2 2, a2, c2) ⟨hst.symm.trans g1, hb3, by show (nextP q).2.1.length ≤ _; omega, fun w => ?_, g7, g8⟩ ?_ (fun s hs => hs.tl [0] 1)
                   · exact absurd w (failP_ne _)
                   · simp only; rw [if_neg (failP_ne _), if_pos hc0]; omega)
                | (have hrp : roundP i q = (nextP q).2 := if_neg (by unfold badB; omega)
                   have hle := nextP_le q
                   have hlt := nextP_len q hc0
                   have hst := uintP_step (i := i) (n := n) hc0
                   rw [if_neg (by rw [hrp]; omega), hrp] at hst
                   refine Fin.loop_next (i + 1, bitsU n (nextP q).1 i, (nextP q).2, a2, c2) ⟨hst.symm.trans g1, hb3, by show (nextP q).2.1.length ≤ _; omega, fun w => ?_, g7, g8⟩ ?_ (fun s hs => hs.tl [0] 1)
                   · simp only at w ⊢; have := g4 hc0; omega
                   · simp only; rw [if_pos hc0]; split <;> omega)
            · try simp only [cnd] at hg41
              refine WXL.miss (j := 2) (d := 41) rfl rfl rfl ?_
              refine WXL.miss (j := 2) (d := 41) rfl rfl rfl ?_
              refine WXL.miss (j := 2) (d := 41) rfl rfl rfl ?_
              refine WXL.miss (j := 2) (d := 41) rfl rfl rfl ?_
              refine WXL.miss (j := 2) (d := 41) rfl rfl rfl ?_
              refine WXL.pick_f Met.none rfl rfl ?_
              refine WXL.nil ?_
              refine Fin.then_normal ?_
              refine WX.cond rfl (fun hc2 => nomatch hc2) (fun hc2 => ?_)
              refine WX.skip ?_
              refine Fin.block_normal ?_
              refine Fin.then_normal ?_
              refine WX.region rfl ?_
              refine WXL.move Met.none rfl ?_
              refine WXL.bin Met.none rfl rfl bvA ?_
              refine WXL.assign Met.none rfl ?_
              refine WXL.nil ?_
              first
              | (have hrp : roundP i q = failP (nextP q).2 2 := if_pos (by unfold badB; omega)
                 have hle := nextP_le q
                 have hst := uintP_step (i := i) (n := n) hc0
                 rw [if_neg (by rw [hrp]; exact fun w => failP_ne _ w.2), hrp] at hst
                 refine Fin.loop_next (i + 1, bitsU n (nextP q).1 i, failP (nextP q).2 2, a2, c2) ⟨hst.symm.trans g1, hb3, by show (nextP q).2.1.length ≤ _; omega, fun w => ?_, g7, g8⟩ ?_ (fun s hs => hs.tl [0] 1)
                 · exact absurd w (failP_ne _)
                 · simp only; rw [if_neg (failP_ne _), if_pos hc0]; omega)
              | (have hrp : roundP i q = (nextP q).2 := if_neg (by unfold badB; omega)
                 have hle := nextP_le q
                 have hlt := nextP_len q hc0
                 have hst := uintP_step (i := i) (n := n) hc0
                 rw [if_neg (by rw [hrp]; omega), hrp] at hst
                 refine Fin.loop_next (i + 1, bitsU n (nextP q).1 i, (nextP q).2, a2, c2) ⟨hst.symm.trans g1, hb3, by show (nextP q).2.1.length ≤ _; omega, fun w => ?_, g7, g8⟩ ?_ (fun s hs => hs.tl [0] 1)
                 · simp only at w ⊢; have := g4 hc0; omega
                 · simp only; rw [if_pos hc0]; split <;> omega)
        · try simp only [cnd] at hg24
          refine WXL.miss (j := 9) (d := 24) rfl rfl rfl ?_
          refine WXL.miss (j := 9) (d := 24) rfl rfl rfl ?_
          refine WXL.pick_f (Met.some rfl rfl rfl) rfl rfl ?_
          refine WXL.pick_f Met.none rfl rfl ?_
          refine WXL.nil ?_
          refine Fin.then_normal ?_
          refine WX.cond rfl (fun hc1 => nomatch hc1) (fun hc1 => ?_)
          refine WX.skip ?_
          refine Fin.then_normal ?_
          refine WX.seq ?_
          refine WX.region rfl ?_
          refine WXL.move Met.none rfl ?_
          refine WXL.move Met.none rfl ?_
          refine WXL.bin Met.none rfl rfl rfl ?_
          refine WXL.conv Met.none rfl Try.underlying5 Try.underlying42 (wrap_u64 (wrap8_range _).1 (wrap8_range _).2) ?_
          refine WXL.move Met.none rfl ?_
          refine WXL.bin Met.none rfl rfl bvM ?_
          refine WXL.shl Met.none rfl rfl (by omega) ?_
          refine WXL.bin Met.none rfl rfl rfl ?_
          refine WXL.assign Met.none rfl ?_
          refine WXL.nil ?_
          refine Fin.then_normal ?_
          refine WX.seq ?_
          refine WX.region rfl ?_
          refine WXL.move Met.none rfl ?_
          refine WXL.bin Met.none rfl rfl rfl ?_
          refine WXL.move Met.none rfl ?_
          refine WXL.split (d := 41) rfl (fun hg41 => ?_) (fun hg41 => ?_)
          · try simp only [cnd] at hg41
            refine WXL.move (Met.some rfl rfl rfl) rfl ?_
            refine WXL.nilCheck (Met.some rfl rfl rfl) rfl ?_
            first | refine WXL.fieldAddr (Met.some rfl rfl rfl) rfl Try.underlying75 rfl sz47 rfl ?_ | refine WXL.faS (Met.some rfl rfl rfl) rfl Try.underlying75 rfl sz47 ?_
            first | refine WXL.ld (Met.some rfl rfl rfl) rfl agg47 ?_ | refine WXL.ldS (Met.some rfl rfl rfl) rfl agg47 ?_
            refine WXL.bin (Met.some rfl rfl rfl) rfl rfl rfl ?_
            refine WXL.pick_t Met.none rfl rfl ?_
            refine WXL.nil ?_
            refine Fin.then_normal ?_
            refine WX.cond rfl (fun hc2 => ?_) (fun hc2 => ?_)
            · try simp only [cnd] at hc2
              refine WX.seq ?_
              refine WX.region rfl ?_
              refine WXL.move Met.none rfl ?_
              refine WXL.assign Met.none rfl ?_
              refine WXL.nil ?_
              refine Fin.then_normal ?_
              refine WX.ret ?_
              refine Fin.block_ret ?_
              refine Fin.then_ret ?_
              refine Fin.loop_ret ?_
              refine Fin.block_ret ?_
              refine Fin.then_ret ?_
              first
              | (have hz : uintP i n q = (0, q) := by rw [uintP, dif_neg hc0]
                 refine Fin.result (O' := (r, ⟨0, false, [.slice a q.1.length c, I q.2]⟩) :: O) (.inr rfl) rfl rfl (fun _ hs => hs) ?_
                 rw [← g1, hz]
                 exact ⟨rfl, a, c, rfl, g5, g6⟩)
              | (exfalso; revert hc2; split <;> omega)
              | (have hrp : roundP i q = (nextP q).2 := if_neg (by unfold badB; omega)
                 have hst := uintP_step (i := i) (n := n) hc0
                 rw [if_pos (by rw [hrp]; omega), hrp] at hst
                 refine Fin.result (O' := (r, ⟨0, false, [.slice a2 (nextP q).2.1.length c2, I (nextP q).2.2]⟩) :: O) (.inr rfl) rfl rfl (fun _ hs => hs) ?_
                 rw [← g1, hst]
                 exact ⟨rfl, a2, c2, rfl, g7, g8⟩)
            · try simp only [cnd] at hc2
              refine WX.skip ?_
              refine Fin.block_normal ?_
              refine Fin.then_normal ?_
              refine WX.region rfl ?_
              refine WXL.move Met.none rfl ?_
              refine WXL.bin Met.none rfl rfl bvA ?_
              refine WXL.assign Met.none rfl ?_
              refine WXL.nil ?_
              first
              | (have hrp : roundP i q = failP (nextP q).2 2 := if_pos (by unfold badB; omega)
                 have hle := nextP_le q
                 have hst := uintP_step (i := i) (n := n) hc0
                 rw [if_neg (by rw [hrp]; exact fun w => failP_ne _ w.2), hrp] at hst
                 refine Fin.loop_next (i + 1, bitsU n (nextP q).1 i, failP (nextP q).2 2, a2, c2) ⟨hst.symm.trans g1, hb3, by show (nextP q).2.1.length ≤ _; omega, fun w => ?_, g7, g8⟩ ?_ (fun s hs => hs.tl [0] 1)
                 · exact absurd w (failP_ne _)
                 · simp only; rw [if_neg (failP_ne _), if_pos hc0]; omega)
              | (have hrp : roundP i q = (nextP q).2 := if_neg (by unfold badB; omega)
                 have hle := nextP_le q
                 have hlt := nextP_len q hc0
                 have hst := uintP_step (i := i) (n := n) hc0
                 rw [if_neg (by rw [hrp]; omega), hrp] at hst
                 refine Fin.loop_next (i + 1, bitsU n (nextP q).1 i, (nextP q).2, a2, c2) ⟨hst.symm.trans g1, hb3, by show (nextP q).2.1.length ≤ _; omega, fun w => ?_, g7, g8⟩ ?_ (fun s hs => hs.tl [0] 1)
                 · simp only at w ⊢; have := g4 hc0; omega
                 · simp only; rw [if_pos hc0]; split <;> omega)
          · try simp only [cnd] at hg41
            refine WXL.miss (j := 2) (d := 41) rfl rfl rfl ?_
            refine WXL.miss (j := 2) (d := 41) rfl rfl rfl ?_
            refine WXL.miss (j := 2) (d := 41) rfl rfl rfl ?_
            refine WXL.miss (j := 2) (d := 41) rfl rfl rfl ?_
            refine WXL.miss (j := 2) (d := 41) rfl rfl rfl ?_
            refine WXL.pick_f Met.none rfl rfl ?_
            refine WXL.nil ?_
            refine Fin.then_normal ?_
            refine WX.cond rfl (fun hc2 => nomatch hc2) (fun hc2 => ?_)
            refine WX.skip ?_
            refine Fin.block_normal ?_
            refine Fin.then_normal ?_
            refine WX.region rfl ?_
            refine WXL.move Met.none rfl ?_
            refine WXL.bin Met.none rfl rfl bvA ?_
            refine WXL.assign Met.none rfl ?_
            refine WXL.nil ?_
            first
            | (have hrp : roundP i q = failP (nextP q).2 2 := if_pos (by unfold badB; omega)
               have hle := nextP_le q
               have hst := uintP_step (i := i) (n := n) hc0
               rw [if_neg (by rw [hrp]; exact fun w => failP_ne _ w.2), hrp] at hst
               refine Fin.loop_next (i + 1, bitsU n (nextP q).1 i, failP (nextP q).2 2, a2, c2) ⟨hst.symm.trans g1, hb3, by show (nextP q).2.1.length ≤ _; omega, fun w => ?_, g7, g8⟩ ?_ (fun s hs => hs.tl [0] 1)
               · exact absurd w (failP_ne _)
               · simp only; rw [if_neg (failP_ne _), if_pos hc0]; omega)
            | (have hrp : roundP i q = (nextP q).2 := if_neg (by unfold badB; omega)
               have hle := nextP_le q
               have hlt := nextP_len q hc0
               have hst := uintP_step (i := i) (n := n) hc0
               rw [if_neg (by rw [hrp]; omega), hrp] at hst
               refine Fin.loop_next (i + 1, bitsU n (nextP q).1 i, (nextP q).2, a2, c2) ⟨hst.symm.trans g1, hb3, by show (nextP q).2.1.length ≤ _; omega, fun w => ?_, g7, g8⟩ ?_ (fun s hs => hs.tl [0] 1)
               · simp only at w ⊢; have := g4 hc0; omega
               · simp only; rw [if_pos hc0]; split <;> omega)
    · try simp only [cnd] at hg17
      refine WXL.miss (j := 2) (d := 17) rfl rfl rfl ?_
      refine WXL.miss (j := 2) (d := 17) rfl rfl rfl ?_
      refine WXL.pick_f Met.none rfl rfl ?_
      refine WXL.move Met.none rfl ?_
      refine WXL.move (Met.some rfl rfl rfl) rfl ?_
      refine WXL.bin (Met.some rfl rfl rfl) rfl rfl rfl ?_
      refine WXL.move (Met.some rfl rfl rfl) rfl ?_
      refine WXL.split (d := 24) rfl (fun hg24 => ?_) (fun hg24 => ?_)
      · try simp only [cnd] at hg24
        refine WXL.move (Met.some rfl rfl rfl) rfl ?_
        refine WXL.bin (Met.some rfl rfl rfl) rfl rfl rfl ?_
        refine WXL.pick_t (Met.some rfl rfl rfl) rfl rfl ?_
        refine WXL.pick_f Met.none rfl rfl ?_
        refine WXL.nil ?_
        refine Fin.then_normal ?_
        refine WX.cond rfl (fun hc1 => ?_) (fun hc1 => ?_)
        · try simp only [cnd] at hc1
          refine WX.region rfl ?_
          refine WXL.move Met.none rfl ?_
          refine WXL.cl (O1 := _) Met.none rfl (fnOk_of Try.func49 (by decide +kernel)) rfl (fun _ h => h) (fail_ok _ r _ 2 _) (fun v O' hp => ?_)
          obtain rfl := hp
          refine WXL.nil ?_
          refine Fin.then_normal ?_
          refine WX.seq ?_
          refine WX.region rfl ?_
          refine WXL.move Met.none rfl ?_
          refine WXL.move Met.none rfl ?_
          refine WXL.bin Met.none rfl rfl rfl ?_
          refine WXL.conv Met.none rfl Try.underlying5 Try.underlying42 (wrap_u64 (wrap8_range _).1 (wrap8_range _).2) ?_
          refine WXL.move Met.none rfl ?_
          refine WXL.bin Met.none rfl rfl bvM ?_
          refine WXL.shl Met.none rfl rfl (by omega) ?_
          refine WXL.bin Met.none rfl rfl rfl ?_
          refine WXL.assign Met.none rfl ?_
          refine WXL.nil ?_
          refine Fin.then_normal ?_
          refine WX.seq ?_
          refine WX.region rfl ?_
          refine WXL.move Met.none rfl ?_
          refine WXL.bin Met.none rfl rfl rfl ?_
          refine WXL.move Met.none rfl ?_
          refine WXL.split (d := 41) rfl (fun hg41 => ?_) (fun hg41 => ?_)
          · try simp only [cnd] at hg41
            refine WXL.move (Met.some rfl rfl rfl) rfl ?_
            refine WXL.nilCheck (Met.some rfl rfl rfl) rfl ?_
            first | refine WXL.fieldAddr (Met.some rfl rfl rfl) rfl Try.underlying75 rfl sz47 rfl ?_ | refine WXL.faS (Met.some rfl rfl rfl) rfl Try.underlying75 rfl sz47 ?_
            first | refine WXL.ld (Met.some rfl rfl rfl) rfl agg47 ?_ | refine WXL.ldS (Met.some rfl rfl rfl) rfl agg47 ?_
            refine WXL.bin (Met.some rfl rfl rfl) rfl rfl rfl ?_
            refine WXL.pick_t Met.none rfl rfl ?_
            refine WXL.nil ?_
            refine Fin.then_normal ?_
            refine WX.cond rfl (fun hc2 => ?_) (fun hc2 => ?_)
            · try simp only [cnd] at hc2
              refine WX.seq ?_
              refine WX.region rfl ?_
              refine WXL.move Met.none rfl ?_
              refine WXL.assign Met.none rfl ?_
              refine WXL.nil ?_
              refine Fin.then_normal ?_
              refine WX.ret ?_
              refine Fin.block_ret ?_
              refine Fin.then_ret ?_
              refine Fin.loop_ret ?_
              refine Fin.block_ret ?_
              refine Fin.then_ret ?_
              first
              | (have hz : uintP i n q = (0, q) := by rw [uintP, dif_neg hc0]
                 refine Fin.result (O' := (r, ⟨0, false, [.slice a q.1.length c, I q.2]⟩) :: O) (.inr rfl) rfl rfl (fun _ hs => hs) ?_
                 rw [← g1, hz]
                 exact ⟨rfl, a, c, rfl, g5, g6⟩)
              | (exfalso; revert hc2; split <;> omega)
              | (have hrp : roundP i q = (nextP q).2 := if_neg (by unfold badB; omega)
                 have hst := uintP_step (i := i) (n := n) hc0
                 rw [if_pos (by rw [hrp]; omega), hrp] at hst
                 refine Fin.result (O' := (r, ⟨0, false, [.slice a2 (nextP q).2.1.length c2, I (nextP q).2.2]⟩) :: O) (.inr rfl) rfl rfl (fun _ hs => hs) ?_
                 rw [← g1, hst]
                 exact ⟨rfl, a2, c2, rfl, g7, g8⟩)
            · try simp only [cnd] at hc2
              refine WX.skip ?_
              refine Fin.block_normal ?_
              refine Fin.then_normal ?_
              refine WX.region rfl ?_
              refine WXL.move Met.none rfl ?_
              refine WXL.bin Met.none rfl rfl bvA ?_
              refine WXL.assign Met.none rfl ?_
              refine WXL.nil ?_
              first
              | (have hrp : roundP i q = failP (nextP q).2 2 := if_pos (by unfold badB; omega)
                 have hle := nextP_le q
                 have hst := uintP_step (i := i) (n := n) hc0
                 rw [if_neg (by rw [hrp]; exact fun w => failP_ne _ w.2), hrp] at hst
                 refine Fin.loop_next (i + 1, bitsU n (nextP q).1 i, failP (nextP q).2 2, a2, c2) ⟨hst.symm.trans g1, hb3, by show (nextP q).2.1.length ≤ _; omega, fun w => ?_, g7, g8⟩ ?_ (fun s hs => hs.tl [0] 1)
                 · exact absurd w (failP_ne _)
                 · simp only; rw [if_neg (failP_ne _), if_pos hc0]; omega)
              | (have hrp : roundP i q = (nextP q).2 := if_neg (by unfold badB; omega)
                 have hle := nextP_le q
                 have hlt := nextP_len q hc0
                 have hst := uintP_step (i := i) (n := n) hc0
                 rw [if_neg (by rw [hrp]; omega), hrp] at hst
                 refine Fin.loop_next (i + 1, bitsU n (nextP q).1 i, (nextP q).2, a2, c2) ⟨hst.symm.trans g1, hb3, by show (nextP q).2.1.length ≤ _; omega, fun w => ?_, g7, g8⟩ ?_ (fun s hs => hs.tl [0] 1)
                 · simp only at w ⊢; have := g4 hc0; omega
                 · simp only; rw [if_pos hc0]; split <;> omega)
          · try simp only [cnd] at hg41
            refine WXL.miss (j := 2) (d := 41) rfl rfl rfl ?_
            refine WXL.miss (j := 2) (d := 41) rfl rfl rfl ?_
            refine WXL.miss (j := 2) (d := 41) rfl rfl rfl ?_
            refine WXL.miss (j := 2) (d := 41) rfl rfl rfl ?_
            refine WXL.miss (j := 2) (d := 41) rfl rfl rfl ?_
            refine WXL.pick_f Met.none rfl rfl ?_
            refine WXL.nil ?_
            refine Fin.then_normal ?_
            refine WX.cond rfl (fun hc2 => nomatch hc2) (fun hc2 => ?_)
            refine WX.skip ?_
            refine Fin.block_normal ?_
            refine Fin.then_normal ?_
            refine WX.region rfl ?_
            refine WXL.move Met.none rfl ?_
            refine WXL.bin Met.none rfl rfl bvA ?_
            refine WXL.assign Met.none rfl ?_
            refine WXL.nil ?_
            first
            | (have hrp : roundP i q = failP (nextP q).2 2 := if_pos (by unfold badB; omega)
               have hle := nextP_le q
               have hst := uintP_step (i := i) (n := n) hc0
               rw [if_neg (by rw [hrp]; exact fun w => failP_ne _ w.2), hrp] at hst
               refine Fin.loop_next (i + 1, bitsU n (nextP q).1 i, failP (nextP q).2 2, a2, c2) ⟨hst.symm.trans g1, hb3, by show (nextP q).2.1.length ≤ _; omega, fun w => ?_, g7, g8⟩ ?_ (fun s hs => hs.tl [0] 1)
               · exact absurd w (failP_ne _)
               · simp only; rw [if_neg (failP_ne _), if_pos hc0]; omega)
            | (have hrp : roundP i q = (nextP q).2 := if_neg (by unfold badB; omega)
               have hle := nextP_le q
               have hlt := nextP_len q hc0
               have hst := uintP_step (i := i) (n := n) hc0
               rw [if_neg (by rw [hrp]; omega), hrp] at hst
               refine Fin.loop_next (i + 1, bitsU n (nextP q).1 i, (nextP q).2, a2, c2) ⟨hst.symm.trans g1, hb3, by show (nextP q).2.1.length ≤ _; omega, fun w => ?_, g7, g8⟩ ?_ (fun s hs => hs.tl [0] 1)
               · simp only at w ⊢; have := g4 hc0; omega
               · simp only; rw [if_pos hc0]; split <;> omega)
        · try simp only [cnd] at hc1
          refine WX.skip ?_
          refine Fin.then_normal ?_
          refine WX.seq ?_
          refine WX.region rfl ?_
          refine WXL.move Met.none rfl ?_
          refine WXL.move Met.none rfl ?_
          refine WXL.bin Met.none rfl rfl rfl ?_
          refine WXL.conv Met.none rfl Try.underlying5 Try.underlying42 (wrap_u64 (wrap8_range _).1 (wrap8_range _).2) ?_
          refine WXL.move Met.none rfl ?_
          refine WXL.bin Met.none rfl rfl bvM ?_
          refine WXL.shl Met.none rfl rfl (by omega) ?_
          refine WXL.bin Met.none rfl rfl rfl ?_
          refine WXL.assign Met.none rfl ?_
          refine WXL.nil ?_
          refine Fin.then_normal ?_
          refine WX.seq ?_
          refine WX.region rfl ?_
          refine WXL.move Met.none rfl ?_
          refine WXL.bin Met.none rfl rfl rfl ?_
          refine WXL.move Met.none rfl ?_
          refine WXL.split (d := 41) rfl (fun hg41 => ?_) (fun hg41 => ?_)
          · try simp only [cnd] at hg41
            refine WXL.move (Met.some rfl rfl rfl) rfl ?_
            refine WXL.nilCheck (Met.some rfl rfl rfl) rfl ?_
            first | refine WXL.fieldAddr (Met.some rfl rfl rfl) rfl Try.underlying75 rfl sz47 rfl ?_ | refine WXL.faS (Met.some rfl rfl rfl) rfl Try.underlying75 rfl sz47 ?_
            first | refine WXL.ld (Met.some rfl rfl rfl) rfl agg47 ?_ | refine WXL.ldS (Met.some rfl rfl rfl) rfl agg47 ?_
            refine WXL.bin (Met.some rfl rfl rfl) rfl rfl rfl ?_
            refine WXL.pick_t Met.none rfl rfl ?_
            refine WXL.nil ?_
            refine Fin.then_normal ?_
            refine WX.cond rfl (fun hc2 => ?_) (fun hc2 => ?_)
            · try simp only [cnd] at hc2
              refine WX.seq ?_
              refine WX.region rfl ?_
              refine WXL.move Met.none rfl ?_
              refine WXL.assign Met.none rfl ?_
              refine WXL.nil ?_
              refine Fin.then_normal ?_
              refine WX.ret ?_
              refine Fin.block_ret ?_
              refine Fin.then_ret ?_
              refine Fin.loop_ret ?_
              refine Fin.block_ret ?_
              refine Fin.then_ret ?_
              first
              | (have hz : uintP i n q = (0, q) := by rw [uintP, dif_neg hc0]
                 refine Fin.result (O' := (r, ⟨0, false, [.slice a q.1.length c, I q.2]⟩) :: O) (.inr rfl) rfl rfl (fun _ hs => hs) ?_
                 rw [← g1, hz]
                 exact ⟨rfl, a, c, rfl, g5, g6⟩)
              | (exfalso; revert hc2; split <;> omega)
              | (have hrp : roundP i q = (nextP q).2 := if_neg (by unfold badB; omega)
                 have hst := uintP_step (i := i) (n := n) hc0
                 rw [if_pos (by rw [hrp]; omega), hrp] at hst
                 refine Fin.result (O' := (r, ⟨0, false, [.slice a2 (nextP q).2.1.length c2, I (nextP q).2.2]⟩) :: O) (.inr rfl) rfl rfl (fun _ hs => hs) ?_
                 rw [← g1, hst]
                 exact ⟨rfl, a2, c2, rfl, g7, g8⟩)
            · try simp only [cnd] at hc2
              refine WX.skip ?_
              refine Fin.block_normal ?_
              refine Fin.then_normal ?_
              refine WX.region rfl ?_
              refine WXL.move Met.none rfl ?_
              refine WXL.bin Met.none rfl rfl bvA ?_
              refine WXL.assign Met.none rfl ?_
              refine WXL.nil ?_
              first
              | (have hrp : roundP i q = failP (nextP q).2 2 := if_pos (by unfold badB; omega)
                 have hle := nextP_le q
                 have hst := uintP_step (i := i) (n := n) hc0
                 rw [if_neg (by rw [hrp]; exact fun w => failP_ne _ w.2), hrp] at hst
                 refine Fin.loop_next (i + 1, bitsU n (nextP q).1 i, failP (nextP q).2 2, a2, c2) ⟨hst.symm.trans g1, hb3, by show (nextP q).2.1.length ≤ _; omega, fun w => ?_, g7, g8⟩ ?_ (fun s hs => hs.tl [0] 1)
                 · exact absurd w (failP_ne _)
                 · simp only; rw [if_neg (failP_ne _), if_pos hc0]; omega)
              | (have hrp : roundP i q = (nextP q).2 := if_neg (by unfold badB; omega)
                 have hle := nextP_le q
                 have hlt := nextP_len q hc0
                 have hst := uintP_step (i := i) (n := n) hc0
                 rw [if_neg (by rw [hrp]; omega), hrp] at hst
                 refine Fin.loop_next (i + 1, bitsU n (nextP q).1 i, (nextP q).2, a2, c2) ⟨hst.symm.trans g1, hb3, by show (nextP q).2.1.length ≤ _; omega, fun w => ?_, g7, g8⟩ ?_ (fun s hs => hs.tl [0] 1)
                 · simp only at w ⊢; have := g4 hc0; omega
                 · simp only; rw [if_pos hc0]; split <;> omega)
          · try simp only [cnd] at hg41
            refine WXL.miss (j := 2) (d := 41) rfl rfl rfl ?_
            refine WXL.miss (j := 2) (d := 41) rfl rfl rfl ?_
            refine WXL.miss (j := 2) (d := 41) rfl rfl rfl ?_
            refine WXL.miss (j := 2) (d := 41) rfl rfl rfl ?_
            refine WXL.miss (j := 2) (d := 41) rfl rfl rfl ?_
            refine WXL.pick_f Met.none rfl rfl ?_
            refine WXL.nil ?_
            refine Fin.then_normal ?_
            refine WX.cond rfl (fun hc2 => nomatch hc2) (fun hc2 => ?_)
            refine WX.skip ?_
            refine Fin.block_normal ?_
            refine Fin.then_normal ?_
            refine WX.region rfl ?_
            refine WXL.move Met.none rfl ?_
            refine WXL.bin Met.none rfl rfl bvA ?_
            refine WXL.assign Met.none rfl ?_
            refine WXL.nil ?_
            first
            | (have hrp : roundP i q = failP (nextP q).2 2 := if_pos (by unfold badB; omega)
               have hle := nextP_le q
               have hst := uintP_step (i := i) (n := n) hc0
               rw [if_neg (by rw [hrp]; exact fun w => failP_ne _ w.2), hrp] at hst
               refine Fin.loop_next (i + 1, bitsU n (nextP q).1 i, failP (nextP q).2 2, a2, c2) ⟨hst.symm.trans g1, hb3, by show (nextP q).2.1.length ≤ _; omega, fun w => ?_, g7, g8⟩ ?_ (fun s hs => hs.tl [0] 1)
               · exact absurd w (failP_ne _)
               · simp only; rw [if_neg (failP_ne _), if_pos hc0]; omega)
            | (have hrp : roundP i q = (nextP q).2 := if_neg (by unfold badB; omega)
               have hle := nextP_le q
               have hlt := nextP_len q hc0
               have hst := uintP_step (i := i) (n := n) hc0
               rw [if_neg (by rw [hrp]; omega), hrp] at hst
               refine Fin.loop_next (i + 1, bitsU n (nextP q).1 i, (nextP q).2, a2, c2) ⟨hst.symm.trans g1, hb3, by show (nextP q).2.1.length ≤ _; omega, fun w => ?_, g7, g8⟩ ?_ (fun s hs => hs.tl [0] 1)
               · simp only at w ⊢; have := g4 hc0; omega
               · simp only; rw [if_pos hc0]; split <;> omega)
      · try simp only [cnd] at hg24
        refine WXL.miss (j := 9) (d := 24) rfl rfl rfl ?_
        refine WXL.miss (j := 9) (d := 24) rfl rfl rfl ?_
        refine WXL.pick_f (Met.some rfl rfl rfl) rfl rfl ?_
        refine WXL.pick_f Met.none rfl rfl ?_
        refine WXL.nil ?_
        refine Fin.then_normal ?_
        refine WX.cond rfl (fun hc1 => nomatch hc1) (fun hc1 => ?_)
        refine WX.skip ?_
        refine Fin.then_normal ?_
        refine WX.seq ?_
        refine WX.region rfl ?_
        refine WXL.move Met.none rfl ?_
        refine WXL.move Met.none rfl ?_
        refine WXL.bin Met.none rfl rfl rfl ?_
        refine WXL.conv Met.none rfl Try.underlying5 Try.underlying42 (wrap_u64 (wrap8_range _).1 (wrap8_range _).2) ?_
        refine WXL.move Met.none rfl ?_
        refine WXL.bin Met.none rfl rfl bvM ?_
        refine WXL.shl Met.none rfl rfl (by omega) ?_
        refine WXL.bin Met.none rfl rfl rfl ?_
        refine WXL.assign Met.none rfl ?_
        refine WXL.nil ?_
        refine Fin.then_normal ?_
        refine WX.seq ?_
        refine WX.region rfl ?_
        refine WXL.move Met.none rfl ?_
        refine WXL.bin Met.none rfl rfl rfl ?_
        refine WXL.move Met.none rfl ?_
        refine WXL.split (d := 41) rfl (fun hg41 => ?_) (fun hg41 => ?_)
        · try simp only [cnd] at hg41
          refine WXL.move (Met.some rfl rfl rfl) rfl ?_
          refine WXL.nilCheck (Met.some rfl rfl rfl) rfl ?_
          first | refine WXL.fieldAddr (Met.some rfl rfl rfl) rfl Try.underlying75 rfl sz47 rfl ?_ | refine WXL.faS (Met.some rfl rfl rfl) rfl Try.underlying75 rfl sz47 ?_
          first | refine WXL.ld (Met.some rfl rfl rfl) rfl agg47 ?_ | refine WXL.ldS (Met.some rfl rfl rfl) rfl agg47 ?_
          refine WXL.bin (Met.some rfl rfl rfl) rfl rfl rfl ?_
          refine WXL.pick_t Met.none rfl rfl ?_
          refine WXL.nil ?_
          refine Fin.then_normal ?_
          refine WX.cond rfl (fun hc2 => ?_) (fun hc2 => ?_)
          · try simp only [cnd] at hc2
            refine WX.seq ?_
            refine WX.region rfl ?_
            refine WXL.move Met.none rfl ?_
            refine WXL.assign Met.none rfl ?_
            refine WXL.nil ?_
            refine Fin.then_normal ?_
            refine WX.ret ?_
            refine Fin.block_ret ?_
            refine Fin.then_ret ?_
            refine Fin.loop_ret ?_
            refine Fin.block_ret ?_
            refine Fin.then_ret ?_
            first
            | (have hz : uintP i n q = (0, q) := by rw [uintP, dif_neg hc0]
               refine Fin.result (O' := (r, ⟨0, false, [.slice a q.1.length c, I q.2]⟩) :: O) (.inr rfl) rfl rfl (fun _ hs => hs) ?_
               rw [← g1, hz]
               exact ⟨rfl, a, c, rfl, g5, g6⟩)
            | (exfalso; revert hc2; split <;> omega)
            | (have hrp : roundP i q = (nextP q).2 := if_neg (by unfold badB; omega)
               have hst := uintP_step (i := i) (n := n) hc0
               rw [if_pos (by rw [hrp]; omega), hrp] at hst
               refine Fin.result (O' := (r, ⟨0, false, [.slice a2 (nextP q).2.1.length c2, I (nextP q).2.2]⟩) :: O) (.inr rfl) rfl rfl (fun _ hs => hs) ?_
               rw [← g1, hst]
               exact ⟨rfl, a2, c2, rfl, g7, g8⟩)
          · try simp only [cnd] at hc2
            refine WX.skip ?_
            refine Fin.block_normal ?_
            refine Fin.then_normal ?_
            refine WX.region rfl ?_
            refine WXL.move Met.none rfl ?_
            refine WXL.bin Met.none rfl rfl bvA ?_
            refine WXL.assign Met.none rfl ?_
            refine WXL.nil ?_
            first
            | (have hrp : roundP i q = failP (nextP q).2 2 := if_pos (by unfold badB; omega)
               have hle := nextP_le q
               have hst := uintP_step (i := i) (n := n) hc0
               rw [if_neg (by rw [hrp]; exact fun w => failP_ne _ w.2), hrp] at hst
               refine Fin.loop_next (i + 1, bitsU n (nextP q).1 i, failP (nextP q).2 2, a2, c2) ⟨hst.symm.trans g1, hb3, by show (nextP q).2.1.length ≤ _; omega, fun w => ?_, g7, g8⟩ ?_ (fun s hs => hs.tl [0] 1)
               · exact absurd w (failP_ne _)
               · simp only; rw [if_neg (failP_ne _), if_pos hc0]; omega)
            | (have hrp : roundP i q = (nextP q).2 := if_neg (by unfold badB; omega)
               have hle := nextP_le q
               have hlt := nextP_len q hc0
               have hst := uintP_step (i := i) (n := n) hc0
               rw [if_neg (by rw [hrp]; omega), hrp] at hst
               refine Fin.loop_next (i + 1, bitsU n (nextP q).1 i, (nextP q).2, a2, c2) ⟨hst.symm.trans g1, hb3, by show (nextP q).2.1.length ≤ _; omega, fun w => ?_, g7, g8⟩ ?_ (fun s hs => hs.tl [0] 1)
               · simp only at w ⊢; have := g4 hc0; omega
               · simp only; rw [if_pos hc0]; split <;> omega)
        · try simp only [cnd] at hg41
          refine WXL.miss (j := 2) (d := 41) rfl rfl rfl ?_
          refine WXL.miss (j := 2) (d := 41) rfl rfl rfl ?_
          refine WXL.miss (j := 2) (d := 41) rfl rfl rfl ?_
          refine WXL.miss (j := 2) (d := 41) rfl rfl rfl ?_
          refine WXL.miss (j := 2) (d := 41) rfl rfl rfl ?_
          refine WXL.pick_f Met.none rfl rfl ?_
          refine WXL.nil ?_
          refine Fin.then_normal ?_
          refine WX.cond rfl (fun hc2 => nomatch hc2) (fun hc2 => ?_)
          refine WX.skip ?_
          refine Fin.block_normal ?_
          refine Fin.then_normal ?_
          refine WX.region rfl ?_
          refine WXL.move Met.none rfl ?_
          refine WXL.bin Met.none rfl rfl bvA ?_
          refine WXL.assign Met.none rfl ?_
          refine WXL.nil ?_
          first
          | (have hrp : roundP i q = failP (nextP q).2 2 := if_pos (by unfold badB; omega)
             have hle := nextP_le q
             have hst := uintP_step (i := i) (n := n) hc0
             rw [if_neg (by rw [hrp]; exact fun w => failP_ne _ w.2), hrp] at hst
             refine Fin.loop_next (i + 1, bitsU n (nextP q).1 i, failP (nextP q).2 2, a2, c2) ⟨hst.symm.trans g1, hb3, by show (nextP q).2.1.length ≤ _; omega, fun w => ?_, g7, g8⟩ ?_ (fun s hs => hs.tl [0] 1)
             · exact absurd w (failP_ne _)
             · simp only; rw [if_neg (failP_ne _), if_pos hc0]; omega)
          | (have hrp : roundP i q = (nextP q).2 := if_neg (by unfold badB; omega)
             have hle := nextP_le q
             have hlt := nextP_len q hc0
             have hst := uintP_step (i := i) (n := n) hc0
             rw [if_neg (by rw [hrp]; omega), hrp] at hst
             refine Fin.loop_next (i + 1, bitsU n (nextP q).1 i, (nextP q).2, a2, c2) ⟨hst.symm.trans g1, hb3, by show (nextP q).2.1.length ≤ _; omega, fun w => ?_, g7, g8⟩ ?_ (fun s hs => hs.tl [0] 1)
             · simp only at w ⊢; have := g4 hc0; omega
             · simp only; rw [if_pos hc0]; split <;> omega)
  · try simp only [cnd] at hc0
    refine WX.exit ?_
    refine Fin.then_exit ?_
    refine Fin.loop_exit ?_
    refine Fin.block_hit rfl ?_
    refine Fin.then_normal ?_
    refine WX.seq ?_
    refine WX.region rfl ?_
    refine WXL.assign Met.none rfl ?_
    refine WXL.nil ?_
    refine Fin.then_normal ?_
    refine WX.ret ?_
    first
    | (have hz : uintP i n q = (0, q) := by rw [uintP, dif_neg hc0]
       refine Fin.result (O' := (r, ⟨0, false, [.slice a q.1.length c, I q.2]⟩) :: O) (.inr rfl) rfl rfl (fun _ hs => hs) ?_
       rw [← g1, hz]
       exact ⟨rfl, a, c, rfl, g5, g6⟩)
    | (exfalso; revert hc2; split <;> omega)
    | (have hrp : roundP i q = (nextP q).2 := if_neg (by unfold badB; omega)
       have hst := uintP_step (i := i) (n := n) hc0
       rw [if_pos (by rw [hrp]; omega), hrp] at hst
       refine Fin.result (O' := (r, ⟨0, false, [.slice a2 (nextP q).2.1.length c2, I (nextP q).2.2]⟩) :: O) (.inr rfl) rfl rfl (fun _ hs => hs) ?_
       rw [← g1, hst]
       exact ⟨rfl, a2, c2, rfl, g7, g8⟩)

end Go.Proofs.Ythekokdpplobhaa.Eng

set_option linter.unusedVariables false
set_option linter.unusedSimpArgs false
namespace Go.Proofs.Ythekokdpplobhaa.Eng

/-- What a reader makes of a byte slice with its length ahead. -/
def rawP (q : RdP) : List Int × RdP :=
  if (uintP 0 0 q).2.2 = 0 then
    if (uintP 0 0 q).1 ≤ ((uintP 0 0 q).2.1.length : Int) then ((uintP 0 0 q).2.1.take (uintP 0 0 q).1.toNat, ((uintP 0 0 q).2.1.drop (uintP 0 0 q).1.toNat, 0)) else ([], ((uintP 0 0 q).2.1, 3))
  else ([], (uintP 0 0 q).2)

theorem bitsU_range (n c : Int) (i : Nat) : 0 ≤ bitsU n c i ∧ bitsU n c i < 18446744073709551616 := by
  unfold bitsU
  exact wrapU_range _

theorem roundP_le (i : Nat) (q : RdP) : (roundP i q).1.length ≤ q.1.length := by
  unfold roundP failP
  split <;> exact nextP_le q

theorem roundP_bytes (i : Nat) {q : RdP} (h : Bytes q.1) : Bytes (roundP i q).1 := by
  unfold roundP failP
  split <;> exact (nextP_range h).2.2

theorem uintP_facts (i : Nat) (n : Int) (q : RdP) (hn : 0 ≤ n ∧ n < 18446744073709551616) : (0 ≤ (uintP i n q).1 ∧ (uintP i n q).1 < 18446744073709551616) ∧ (uintP i n q).2.1.length ≤ q.1.length ∧ (Bytes q.1 → Bytes (uintP i n q).2.1) ∧ ((uintP i n q).2.2 ≠ 0 → (uintP i n q).1 = 0) := by
  rw [uintP]
  split
  · rename_i h0
    split
    · rename_i h1
      exact ⟨bitsU_range _ _ _, roundP_le i q, roundP_bytes i, fun h => absurd h1.2 h⟩
    · split
      · rename_i h2
        obtain ⟨q1, q2, q3, q4⟩ := uintP_facts (i + 1) (bitsU n (nextP q).1 i) (roundP i q) (bitsU_range _ _ _)
        exact ⟨q1, Nat.le_trans q2 (roundP_le i q), fun h => q3 (roundP_bytes i h), q4⟩
      · exact ⟨⟨Int.le_refl 0, by show (0:Int) < _; decide⟩, roundP_le i q, roundP_bytes i, fun _ => rfl⟩
  · exact ⟨⟨Int.le_refl 0, by show (0:Int) < _; decide⟩, Nat.le_refl _, id, fun _ => rfl⟩
termination_by q.1.length
decreasing_by
  rename_i h0 _ h2
  rcases roundP_len i q h0 with w | w
  · exact absurd h2 w
  · exact w

theorem uintP0 (q : RdP) : (0 ≤ (uintP 0 0 q).1 ∧ (uintP 0 0 q).1 < 18446744073709551616) ∧ (uintP 0 0 q).2.1.length ≤ q.1.length ∧ (Bytes q.1 → Bytes (uintP 0 0 q).2.1) ∧ ((uintP 0 0 q).2.2 ≠ 0 → (uintP 0 0 q).1 = 0) :=
  uintP_facts 0 0 q ⟨Int.le_refl 0, by decide⟩

theorem rawP_facts (q : RdP) : (rawP q).1.length ≤ q.1.length ∧ (rawP q).2.1.length ≤ q.1.length ∧ (Bytes q.1 → Bytes (rawP q).1 ∧ Bytes (rawP q).2.1) := by
  obtain ⟨h1, h2, h3, h4⟩ := uintP0 q
  unfold rawP
  split
  · split
    · refine ⟨?_, ?_, fun h => ⟨fun x hx => h3 h x (List.mem_of_mem_take hx), fun x hx => h3 h x (List.mem_of_mem_drop hx)⟩⟩
      · rw [List.length_take]; omega
      · rw [List.length_drop]; omega
    · exact ⟨Nat.zero_le _, h2, fun h => ⟨fun x hx => by simp at hx, h3 h⟩⟩
  · exact ⟨Nat.zero_le _, h2, fun h => ⟨fun x hx => by simp at hx, h3 h⟩⟩

theorem uintP_varU (n : Nat) (h : n < 18446744073709551616) (rest : List Int) : uintP 0 0 (varU n ++ rest, 0) = ((n : Int), (rest, 0)) := by
  have := uintP_var rest n 0 0 (by decide) (by decide) (by simpa using h) (fun h => absurd h (by decide))
  simpa using this

theorem rawP_rawB (b rest : List Int) (h : b.length < 18446744073709551616) : rawP (rawB b ++ rest, 0) = (b, (rest, 0)) := by
  have e : rawB b ++ rest = varU b.length ++ (b ++ rest) := by unfold rawB; rw [List.append_assoc]
  unfold rawP
  rw [e, uintP_varU _ h]
  simp only [if_true]
  rw [if_pos (by rw [List.length_append]; omega), Int.toNat_natCast, List.take_left, List.drop_left]

/-- The record whose frame may be at the beginning of some bytes. -/
def coreP (b : List Int) : List Int :=
  let n := (uintP 0 0 (b.take (min b.length 10), 0)).1
  (rawP (b.take (min b.length (10 + min n.toNat b.length)), 0)).1
def recordP (b : List Int) : List Int := (rawP (uintP 0 0 (coreP b, 0)).2).1

theorem coreP_facts (b : List Int) : (coreP b).length ≤ b.length ∧ (Bytes b → Bytes (coreP b)) := by
  unfold coreP
  obtain ⟨h1, h2, h3⟩ := rawP_facts (b.take (min b.length (10 + min (uintP 0 0 (b.take (min b.length 10), 0)).1.toNat b.length)), 0)
  simp only [List.length_take] at h1
  exact ⟨by simp only; omega, fun h => (h3 fun x hx => h x (List.mem_of_mem_take hx)).1⟩

theorem recordP_facts (b : List Int) : (recordP b).length ≤ b.length ∧ (Bytes b → Bytes (recordP b)) := by
  obtain ⟨c1, c2⟩ := coreP_facts b
  obtain ⟨u1, u2, u3, u4⟩ := uintP0 (coreP b, 0)
  obtain ⟨h1, h2, h3⟩ := rawP_facts (uintP 0 0 (coreP b, 0)).2
  unfold recordP
  simp only at u2 u3
  exact ⟨by omega, fun h => (h3 (u3 (c2 h))).1⟩

theorem frameB_pos (i : Int) (x : List Int) : 0 < (frameB i x).length := by
  unfold frameB rawB
  simp only [List.length_append]
  have : 0 < (varU (coreB i x).length).length := by rw [varU]; split <;> simp
  omega

theorem rawB_len64 {b : List Int} (h : b.length < 18446744073709551616) : (varU b.length).length ≤ 10 := varU_len (k := 9) (by omega)

theorem recordP_frame {i : Int} {x b : List Int} (hi : In64 i) (hx : x.length ≤ 1000000000) (h : frameB i x <+: b) : recordP b = x := by
  obtain ⟨rest, rfl⟩ := h
  have hcl := coreB_len hi hx
  have hc : (coreB i x).length < 18446744073709551616 := by omega
  have hv := rawB_len64 hc
  have e0 : frameB i x ++ rest = varU (coreB i x).length ++ (coreB i x ++ (varU (hashB lblF (coreB i x)).toNat ++ rest)) := by
    unfold frameB rawB
    simp only [List.append_assoc]
  have hbl : (frameB i x ++ rest).length = (varU (coreB i x).length).length + ((coreB i x).length + ((varU (hashB lblF (coreB i x)).toNat).length + rest.length)) := by rw [e0]; simp only [List.length_append]
  have e1 : coreP (frameB i x ++ rest) = coreB i x := by
    unfold coreP
    have e2 : (frameB i x ++ rest).take (min (frameB i x ++ rest).length 10) = varU (coreB i x).length ++ (coreB i x ++ (varU (hashB lblF (coreB i x)).toNat ++ rest)).take (min (frameB i x ++ rest).length 10 - (varU (coreB i x).length).length) := by
      rw [e0, List.take_append, List.take_of_length_le (by rw [← e0, hbl]; omega)]
    simp only
    rw [e2, uintP_varU _ hc, Int.toNat_natCast]
    generalize hk : min (frameB i x ++ rest).length (10 + min (coreB i x).length (frameB i x ++ rest).length) = k
    have hk2 : (varU (coreB i x).length).length + (coreB i x).length ≤ k := by rw [← hk, hbl]; omega
    have e3 : (frameB i x ++ rest).take k = rawB (coreB i x) ++ (varU (hashB lblF (coreB i x)).toNat ++ rest).take (k - (rawB (coreB i x)).length) := by
      have e4 : frameB i x ++ rest = rawB (coreB i x) ++ (varU (hashB lblF (coreB i x)).toNat ++ rest) := by unfold frameB; rw [List.append_assoc]
      rw [e4, List.take_append, List.take_of_length_le (by unfold rawB; rw [List.length_append]; exact hk2)]
    rw [e3, rawP_rawB _ _ hc]
  unfold recordP
  rw [e1]
  have hz := zigU_range hi
  unfold InU at hz
  have e5 : uintP 0 0 (coreB i x, 0) = (((zigU i).toNat : Int), (rawB x, 0)) := by
    unfold coreB
    exact uintP_varU _ (by omega) _
  rw [e5]
  have := rawP_rawB x [] (by omega)
  rw [List.append_nil] at this
  rw [this]

/-- The records at the beginning of some bytes, and their length. -/
def scanP (i : Nat) (b : List Int) : List (List Int) × Nat :=
  if h : b ≠ [] ∧ frameB i (recordP b) <+: b then
    (recordP b :: (scanP (i + 1) (b.drop (frameB i (recordP b)).length)).1, (frameB i (recordP b)).length + (scanP (i + 1) (b.drop (frameB i (recordP b)).length)).2)
  else ([], 0)
termination_by b.length
decreasing_by
  all_goals
    have := frameB_pos i (recordP b)
    have : 0 < b.length := List.length_pos_iff.2 h.1
    rw [List.length_drop]
    omega

/-- Frames of records from a number on. -/
def framesB (i : Nat) : List (List Int) → List Int
  | [] => []
  | x :: l => frameB i x ++ framesB (i + 1) l
theorem framesB_cons (i : Nat) (x : List Int) (l : List (List Int)) : framesB i (x :: l) = frameB i x ++ framesB (i + 1) l := rfl

theorem scanP_frames (rest : List Int) : ∀ (l : List (List Int)) (i : Nat), i + l.length ≤ 1000000000 → (∀ x ∈ l, x.length ≤ 1000000000) →
    scanP i (framesB i l ++ rest) = (l ++ (scanP (i + l.length) rest).1, (framesB i l).length + (scanP (i + l.length) rest).2) := by
  intro l
  induction l with
  | nil => intro i _ _; simp [framesB]
  | cons x l ih =>
    intro i hi hl
    have e : framesB i (x :: l) ++ rest = frameB i x ++ (framesB (i + 1) l ++ rest) := by rw [framesB_cons, List.append_assoc]
    have hp : frameB i x <+: frameB i x ++ (framesB (i + 1) l ++ rest) := List.prefix_append _ _
    have hr := recordP_frame (by unfold In64; simp only [List.length_cons] at hi; omega) (hl x (List.mem_cons_self ..)) hp
    have hpos := frameB_pos i x
    rw [e, scanP, dif_pos ⟨fun q => by rw [q] at hp; have := hp.length_le; simp at this; rw [this] at hpos; simp at hpos, by rw [hr]; exact hp⟩, hr, List.drop_left, ih (i + 1) (by simp only [List.length_cons] at hi; omega) fun y hy => hl y (List.mem_cons_of_mem _ hy)]
    have e2 : i + 1 + l.length = i + (x :: l).length := by rw [List.length_cons]; omega
    rw [e2]
    refine Prod.ext (by simp) ?_
    show _ + (_ + _) = (framesB i (x :: l)).length + _
    rw [framesB_cons, List.length_append]
    omega

end Go.Proofs.Ythekokdpplobhaa.Eng

set_option linter.unusedVariables false
set_option linter.unusedSimpArgs false
namespace Go.Proofs.Ythekokdpplobhaa.Eng

/-- A reader behind some reading, with new rows. -/
def RdG (O : Objs) (r : Nat) (q : RdP) (G N : Objs) : Prop := ∃ a c, N = (r, ⟨0, false, [.slice a q.1.length c, I q.2]⟩) :: (G ++ O) ∧ Rowy O 1 a q.1.length (q.1.map B8) ∧ (a = none → c = 0)

theorem drop_cons_nth {l : List Int} {k : Nat} (h : k < l.length) : l.drop k = nth l k :: l.drop (k + 1) := by
  rw [nth_get h, List.drop_eq_getElem_cons h]

theorem list_ok (O : Objs) (r : Nat) (q0 : RdP) (a0 : Option Addr) (c0 : Nat) (hB : Bytes q0.1) (hlen : q0.1.length ≤ 1000000000000) (hr : Rowy O 1 a0 q0.1.length (q0.1.map B8)) (hc : a0 = none → c0 = 0) :
    Spec Try.prog false 47 #[Ptr r 0, .func (.func 48) #[Ptr r 0] #[]] ((r, ⟨0, false, [.slice a0 q0.1.length c0, I q0.2]⟩) :: O) fun v O' => ∃ ao co G, v = .slice ao (rawP q0).1.length co ∧ Grow 1 ao (rawP q0).1.length co ((rawP q0).1.map B8) G ∧ RdG O r (rawP q0).2 G O' := by
  obtain ⟨hu1, hu2, hu3, hu4⟩ := uintP0 q0
  obtain ⟨n, l, e, hu⟩ : ∃ n l e, uintP 0 0 q0 = (n, (l, e)) := ⟨_, _, _, rfl⟩
  rw [hu] at hu1 hu2 hu3 hu4
  simp only at hu1 hu2 hu3 hu4
  refine Spec.enter (args := [_, _]) (m := 43) Try.func47 rfl rfl (by decide +kernel) fun h0 => ?_
  refine WX.seq ?_
  refine WX.region rfl ?_
  refine WXL.assign Met.none rfl ?_
  refine WXL.nil ?_
  refine Fin.then_normal ?_
  refine WX.seq ?_
  refine WX.region rfl ?_
  refine WXL.move Met.none rfl ?_
  refine WXL.cl (O1 := _) Met.none rfl (fnOk_of Try.func26 (by decide +kernel)) rfl (fun _ h => h) (uint_ok O r q0 a0 c0 hB hlen hr hc) (fun v O' hp => ?_)
  obtain ⟨rfl, ⟨a1, c1, rfl, hr1, hc1⟩⟩ := hp
  rw [hu] at hr1 ⊢
  simp only at hr1 ⊢
  refine WXL.assign Met.none rfl ?_
  refine WXL.nil ?_
  refine Fin.then_normal ?_
  refine WX.seq ?_
  refine WX.seq ?_
  refine WX.region rfl ?_
  refine WXL.move Met.none rfl ?_
  refine WXL.move Met.none rfl ?_
  refine WXL.nilCheck Met.none rfl ?_
  first | refine WXL.fieldAddr Met.none rfl Try.underlying75 rfl sz23 rfl ?_ | refine WXL.faS Met.none rfl Try.underlying75 rfl sz23 ?_
  first | refine WXL.ld Met.none rfl agg23 ?_ | refine WXL.ldS Met.none rfl agg23 ?_
  refine WXL.len Met.none rfl Try.underlying23 ?_
  refine WXL.conv Met.none rfl Try.underlying3 Try.underlying42 (wrap_u64 (by omega) (by omega)) ?_
  refine WXL.bin Met.none rfl rfl rfl ?_
  refine WXL.nil ?_
  refine Fin.then_normal ?_
  refine WX.cond rfl (fun hc0 => ?_) (fun hc0 => ?_)
  · try simp only [cnd] at hc0
    refine WX.region rfl ?_
    refine WXL.move Met.none rfl ?_
    refine WXL.cl (O1 := _) Met.none rfl (fnOk_of Try.func49 (by decide +kernel)) rfl (fun _ h => h) (fail_ok _ r _ 3 e) (fun v O' hp => ?_)
    obtain rfl := hp
    refine WXL.nil ?_
    refine Fin.then_normal ?_
    refine WX.seq ?_
    refine WX.region rfl ?_
    obtain ⟨e1, he1, hraw, hn1⟩ : ∃ e1, e1 = (if n ≤ (l.length : Int) then e else if e = 0 then 3 else e) ∧ rawP q0 = (if e1 = 0 then (l.take n.toNat, (l.drop n.toNat, 0)) else ([], (l, e1))) ∧ (e1 = 0 → n ≤ l.length) := by
      refine ⟨_, rfl, ?_, ?_⟩
      · unfold rawP
        rw [hu]
        simp only
        by_cases q1 : e = 0
        · subst q1
          by_cases q2 : n ≤ (l.length : Int)
          · rw [if_pos rfl, if_pos q2, if_pos q2, if_pos rfl]
          · rw [if_pos rfl, if_neg q2, if_neg q2, if_pos rfl, if_neg (by decide)]
        · rw [if_neg q1]
          have q3 := hu4 q1
          have q4 : (if n ≤ (l.length : Int) then e else if e = 0 then 3 else e) = e := if_pos (by omega)
          rw [q4, if_neg q1]
      · intro q1
        by_cases q2 : n ≤ (l.length : Int)
        · exact q2
        · rw [if_neg q2] at q1
          split at q1
          · cases q1
          · exact absurd q1 (by assumption)
    first
    | rw [show (if e = 0 then 3 else e) = e1 from by rw [he1, if_neg (show ¬ n ≤ (l.length : Int) by omega)]]
    | rw [show e = e1 from by rw [he1, if_pos (show n ≤ (l.length : Int) by omega)]]
    rw [hraw]
    clear hraw
    refine WXL.assign Met.none rfl ?_
    refine WXL.nil ?_
    refine Fin.then_normal ?_
    refine WX.seq ?_
    refine WX.seq ?_
    refine WX.region rfl ?_
    refine WXL.assign Met.none rfl ?_
    refine WXL.nil ?_
    refine Fin.then_normal ?_
    refine WX.block ?_
    refine WX.loop (fun s : Nat × Option Addr × Nat × Objs × Option Addr × Nat => [(0, Ptr r 0), (1, .func (.func 48) #[Ptr r 0] #[]), (5, U n), (6, .slice s.2.1 s.1 s.2.2.1), (7, U (s.1 : Int))]) (fun s => (r, ⟨0, false, [.slice s.2.2.2.2.1 (l.drop s.1).length s.2.2.2.2.2, I e1]⟩) :: (s.2.2.2.1 ++ O)) (fun s => (s.1 : Int) ≤ n ∧ s.1 ≤ l.length ∧ (s.1 = 0 ∨ e1 = 0) ∧ Grow 1 s.2.1 s.1 s.2.2.1 ((l.take s.1).map B8) s.2.2.2.1 ∧ Rowy O 1 s.2.2.2.2.1 (l.drop s.1).length ((l.drop s.1).map B8) ∧ (s.2.2.2.2.1 = none → s.2.2.2.2.2 = 0)) (fun s => l.length - s.1) (0, none, 0, [], a1, c1) ⟨hu1.1, Nat.zero_le _, .inl rfl, .nil, hr1, hc1⟩ (fun s hs => hs.tl [0] 1) (fun s hs => ?_)
    obtain ⟨k, ao, co, G, a2, c2⟩ := s
    obtain ⟨g1, g2, g3, g4, g5, g6⟩ := hs
    simp only at g1 g2 g3 g4 g5 g6
    dsimp only
    refine WX.seq ?_
    refine WX.seq ?_
    refine WX.region rfl ?_
    refine WXL.move Met.none rfl ?_
    refine WXL.move Met.none rfl ?_
    refine WXL.bin Met.none rfl rfl rfl ?_
    refine WXL.move Met.none rfl ?_
    refine WXL.split (d := 23) rfl (fun hg23 => ?_) (fun hg23 => ?_)
    · try simp only [cnd] at hg23
      refine WXL.move (Met.some rfl rfl rfl) rfl ?_
      refine WXL.nilCheck (Met.some rfl rfl rfl) rfl ?_
      first | refine WXL.fieldAddr (Met.some rfl rfl rfl) rfl Try.underlying75 rfl sz47 rfl ?_ | refine WXL.faS (Met.some rfl rfl rfl) rfl Try.underlying75 rfl sz47 ?_
      first | refine WXL.ld (Met.some rfl rfl rfl) rfl agg47 ?_ | refine WXL.ldS (Met.some rfl rfl rfl) rfl agg47 ?_
      refine WXL.bin (Met.some rfl rfl rfl) rfl rfl rfl ?_
      refine WXL.pick_t Met.none rfl rfl ?_
      refine WXL.nil ?_
      refine Fin.then_normal ?_
      refine WX.cond rfl (fun hc1 => ?_) (fun hc1 => ?_)
      · try simp only [cnd] at hc1
        refine WX.skip ?_
        refine Fin.then_normal ?_
        refine WX.seq ?_
        refine WX.block ?_
        have he0 : e1 = 0 := by omega
        subst he0
        have hn2 := hn1 rfl
        have hkl : k < l.length := by omega
        have hdc := drop_cons_nth hkl
        refine WX.region rfl ?_
        refine WXL.move Met.none rfl ?_
        refine WXL.move Met.none rfl ?_
        refine WXL.cl (O1 := _) Met.none rfl (fnOk_of Try.func48 (by decide +kernel)) rfl (fun _ h => h) (next_ok (G ++ O) r (l.drop k, 0) a2 c2 (by simp only [List.length_drop]; omega) g5.app g6) (fun v O' hp => ?_)
        obtain ⟨rfl, ⟨a3, c3, rfl, g7, g8⟩⟩ := hp
        rw [show nextP (l.drop k, 0) = (nth l k, (l.drop (k + 1), 0)) from by rw [hdc]; rfl] at g7 ⊢
        have g7 := g7 O g5
        refine WXL.buildSlice (c := [_]) Met.none rfl elem23 sz5 zero5 (by decide) (by decide) rfl rfl rfl rfl (fun b35 => ?_)
        refine WXL.apG [_, _] Met.none rfl rfl isrow23 elem23 sz5 by5 zero5 (Src.lit (cs := [_])) (fun a36 c36 G36 hG36 => ?_)
        refine WXL.assign Met.none rfl ?_
        refine WXL.nil ?_
        refine Fin.block_normal ?_
        refine Fin.then_normal ?_
        refine WX.region rfl ?_
        refine WXL.move Met.none rfl ?_
        refine WXL.bin Met.none rfl rfl (congrArg (fun n => some (U n)) (wrap_u64 (n := (k : Int) + 1) (by omega) (by omega))) ?_
        refine WXL.assign Met.none rfl ?_
        refine WXL.nil ?_
        refine Fin.loop_next (k + 1, a36, c36, G36, a3, c3) ⟨by simp only; omega, by simp only; omega, .inr rfl, ?_, g7, g8⟩ (by simp only; omega) (fun s hs => hs.tl [1] 2)
        simp only
        rw [take_succ_nth hkl, List.map_append]
        exact hG36
      · try simp only [cnd] at hc1
        refine WX.exit ?_
        refine Fin.then_exit ?_
        refine Fin.loop_exit ?_
        refine Fin.block_hit rfl ?_
        refine Fin.then_normal ?_
        refine WX.seq ?_
        refine WX.seq ?_
        refine WX.region rfl ?_
        refine WXL.move Met.none rfl ?_
        refine WXL.nilCheck Met.none rfl ?_
        first | refine WXL.fieldAddr Met.none rfl Try.underlying75 rfl sz47 rfl ?_ | refine WXL.faS Met.none rfl Try.underlying75 rfl sz47 ?_
        first | refine WXL.ld Met.none rfl agg47 ?_ | refine WXL.ldS Met.none rfl agg47 ?_
        refine WXL.bin Met.none rfl rfl rfl ?_
        refine WXL.nil ?_
        refine Fin.then_normal ?_
        refine WX.cond rfl (fun hc2 => ?_) (fun hc2 => ?_)
        · try simp only [cnd] at hc2
          refine WX.seq ?_
          refine WX.region rfl ?_
          refine WXL.assign Met.none rfl ?_
          refine WXL.nil ?_
          refine Fin.then_normal ?_
          refine WX.ret ?_
          refine Fin.then_ret ?_
          first
          | (have hk0 : k = 0 := by omega
             subst hk0
             rw [if_neg hc2]
             rcases g4 with ⟨rfl, _, rfl, _, rfl⟩ | ⟨b, rfl, rfl, _⟩
             · exact Fin.result (O' := (r, ⟨0, false, [.slice a2 (l.drop 0).length c2, I e1]⟩) :: ([] ++ O)) (.inr rfl) rfl rfl (fun _ hs => hs) ⟨none, 0, [], rfl, .nil, a2, c2, rfl, g5, g6⟩
             · exact Fin.result (O' := (r, ⟨0, false, [.slice a2 (l.drop 0).length c2, I e1]⟩) :: ([] ++ O)) (.inr rfl) rfl rfl (fun _ hs => hs.tl [0] 2) ⟨none, 0, [], rfl, .nil, a2, c2, rfl, g5, g6⟩)
          | (have he0 : e1 = 0 := by omega
             subst he0
             rw [if_pos rfl]
             have hkn : n.toNat = k := by omega
             rw [hkn]
             have hlk : (l.take k).length = k := by rw [List.length_take]; omega
             exact Fin.result (O' := (r, ⟨0, false, [.slice a2 (l.drop k).length c2, I 0]⟩) :: (G ++ O)) (.inr rfl) rfl rfl (fun _ hs => hs) ⟨ao, co, G, by rw [hlk]; rfl, by rw [hlk]; exact g4, a2, c2, rfl, g5, g6⟩)
        · try simp only [cnd] at hc2
          refine WX.skip ?_
          refine Fin.then_normal ?_
          refine WX.seq ?_
          refine WX.region rfl ?_
          refine WXL.move Met.none rfl ?_
          refine WXL.assign Met.none rfl ?_
          refine WXL.nil ?_
          refine Fin.then_normal ?_
          refine WX.ret ?_
          first
          | (have hk0 : k = 0 := by omega
             subst hk0
             rw [if_neg hc2]
             rcases g4 with ⟨rfl, _, rfl, _, rfl⟩ | ⟨b, rfl, rfl, _⟩
             · exact Fin.result (O' := (r, ⟨0, false, [.slice a2 (l.drop 0).length c2, I e1]⟩) :: ([] ++ O)) (.inr rfl) rfl rfl (fun _ hs => hs) ⟨none, 0, [], rfl, .nil, a2, c2, rfl, g5, g6⟩
             · exact Fin.result (O' := (r, ⟨0, false, [.slice a2 (l.drop 0).length c2, I e1]⟩) :: ([] ++ O)) (.inr rfl) rfl rfl (fun _ hs => hs.tl [0] 2) ⟨none, 0, [], rfl, .nil, a2, c2, rfl, g5, g6⟩)
          | (have he0 : e1 = 0 := by omega
             subst he0
             rw [if_pos rfl]
             have hkn : n.toNat = k := by omega
             rw [hkn]
             have hlk : (l.take k).length = k := by rw [List.length_take]; omega
             exact Fin.result (O' := (r, ⟨0, false, [.slice a2 (l.drop k).length c2, I 0]⟩) :: (G ++ O)) (.inr rfl) rfl rfl (fun _ hs => hs) ⟨ao, co, G, by rw [hlk]; rfl, by rw [hlk]; exact g4, a2, c2, rfl, g5, g6⟩)
    · try simp only [cnd] at hg23
      refine WXL.miss (j := 3) (d := 23) rfl rfl rfl ?_
      refine WXL.miss (j := 3) (d := 23) rfl rfl rfl ?_
      refine WXL.miss (j := 3) (d := 23) rfl rfl rfl ?_
      refine WXL.miss (j := 3) (d := 23) rfl rfl rfl ?_
      refine WXL.miss (j := 3) (d := 23) rfl rfl rfl ?_
      refine WXL.pick_f Met.none rfl rfl ?_
      refine WXL.nil ?_
      refine Fin.then_normal ?_
      refine WX.cond rfl (fun hc1 => nomatch hc1) (fun hc1 => ?_)
      refine WX.exit ?_
      refine Fin.then_exit ?_
      refine Fin.loop_exit ?_
      refine Fin.block_hit rfl ?_
      refine Fin.then_normal ?_
      refine WX.seq ?_
      refine WX.seq ?_
      refine WX.region rfl ?_
      refine WXL.move Met.none rfl ?_
      refine WXL.nilCheck Met.none rfl ?_
      first | refine WXL.fieldAddr Met.none rfl Try.underlying75 rfl sz47 rfl ?_ | refine WXL.faS Met.none rfl Try.underlying75 rfl sz47 ?_
      first | refine WXL.ld Met.none rfl agg47 ?_ | refine WXL.ldS Met.none rfl agg47 ?_
      refine WXL.bin Met.none rfl rfl rfl ?_
      refine WXL.nil ?_
      refine Fin.then_normal ?_
      refine WX.cond rfl (fun hc2 => ?_) (fun hc2 => ?_)
      · try simp only [cnd] at hc2
        refine WX.seq ?_
        refine WX.region rfl ?_
        refine WXL.assign Met.none rfl ?_
        refine WXL.nil ?_
        refine Fin.then_normal ?_
        refine WX.ret ?_
        refine Fin.then_ret ?_
        first
        | (have hk0 : k = 0 := by omega
           subst hk0
           rw [if_neg hc2]
           rcases g4 with ⟨rfl, _, rfl, _, rfl⟩ | ⟨b, rfl, rfl, _⟩
           · exact Fin.result (O' := (r, ⟨0, false, [.slice a2 (l.drop 0).length c2, I e1]⟩) :: ([] ++ O)) (.inr rfl) rfl rfl (fun _ hs => hs) ⟨none, 0, [], rfl, .nil, a2, c2, rfl, g5, g6⟩
           · exact Fin.result (O' := (r, ⟨0, false, [.slice a2 (l.drop 0).length c2, I e1]⟩) :: ([] ++ O)) (.inr rfl) rfl rfl (fun _ hs => hs.tl [0] 2) ⟨none, 0, [], rfl, .nil, a2, c2, rfl, g5, g6⟩)
        | (have he0 : e1 = 0 := by omega
           subst he0
           rw [if_pos rfl]
           have hkn : n.toNat = k := by omega
           rw [hkn]
           have hlk : (l.take k).length = k := by rw [List.length_take]; omega
           exact Fin.result (O' := (r, ⟨0, false, [.slice a2 (l.drop k).length c2, I 0]⟩) :: (G ++ O)) (.inr rfl) rfl rfl (fun _ hs => hs) ⟨ao, co, G, by rw [hlk]; rfl, by rw [hlk]; exact g4, a2, c2, rfl, g5, g6⟩)
      · try simp only [cnd] at hc2
        refine WX.skip ?_
        refine Fin.then_normal ?_
        refine WX.seq ?_
        refine WX.region rfl ?_
        refine WXL.move Met.none rfl ?_
        refine WXL.assign Met.none rfl ?_
        refine WXL.nil ?_
        refine Fin.then_normal ?_
        refine WX.ret ?_
        first
        | (have hk0 : k = 0 := by omega
           subst hk0
           rw [if_neg hc2]
           rcases g4 with ⟨rfl, _, rfl, _, rfl⟩ | ⟨b, rfl, rfl, _⟩
           · exact Fin.result (O' := (r, ⟨0, false, [.slice a2 (l.drop 0).length c2, I e1]⟩) :: ([] ++ O)) (.inr rfl) rfl rfl (fun _ hs => hs) ⟨none, 0, [], rfl, .nil, a2, c2, rfl, g5, g6⟩
           · exact Fin.result (O' := (r, ⟨0, false, [.slice a2 (l.drop 0).length c2, I e1]⟩) :: ([] ++ O)) (.inr rfl) rfl rfl (fun _ hs => hs.tl [0] 2) ⟨none, 0, [], rfl, .nil, a2, c2, rfl, g5, g6⟩)
        | (have he0 : e1 = 0 := by omega
           subst he0
           rw [if_pos rfl]
           have hkn : n.toNat = k := by omega
           rw [hkn]
           have hlk : (l.take k).length = k := by rw [List.length_take]; omega
           exact Fin.result (O' := (r, ⟨0, false, [.slice a2 (l.drop k).length c2, I 0]⟩) :: (G ++ O)) (.inr rfl) rfl rfl (fun _ hs => hs) ⟨ao, co, G, by rw [hlk]; rfl, by rw [hlk]; exact g4, a2, c2, rfl, g5, g6⟩)
  · try simp only [cnd] at hc0
    refine WX.skip ?_
    refine Fin.then_normal ?_
    refine WX.seq ?_
    refine WX.region rfl ?_
    obtain ⟨e1, he1, hraw, hn1⟩ : ∃ e1, e1 = (if n ≤ (l.length : Int) then e else if e = 0 then 3 else e) ∧ rawP q0 = (if e1 = 0 then (l.take n.toNat, (l.drop n.toNat, 0)) else ([], (l, e1))) ∧ (e1 = 0 → n ≤ l.length) := by
      refine ⟨_, rfl, ?_, ?_⟩
      · unfold rawP
        rw [hu]
        simp only
        by_cases q1 : e = 0
        · subst q1
          by_cases q2 : n ≤ (l.length : Int)
          · rw [if_pos rfl, if_pos q2, if_pos q2, if_pos rfl]
          · rw [if_pos rfl, if_neg q2, if_neg q2, if_pos rfl, if_neg (by decide)]
        · rw [if_neg q1]
          have q3 := hu4 q1
          have q4 : (if n ≤ (l.length : Int) then e else if e = 0 then 3 else e) = e := if_pos (by omega)
          rw [q4, if_neg q1]
      · intro q1
        by_cases q2 : n ≤ (l.length : Int)
        · exact q2
        · rw [if_neg q2] at q1
          split at q1
          · cases q1
          · exact absurd q1 (by assumption)
    first
    | rw [show (if e = 0 then 3 else e) = e1 from by rw [he1, if_neg (show ¬ n ≤ (l.length : Int) by omega)]]
    | rw [show e = e1 from by rw [he1, if_pos (show n ≤ (l.length : Int) by omega)]]
    rw [hraw]
    clear hraw
    refine WXL.assign Met.none rfl ?_
    refine WXL.nil ?_
    refine Fin.then_normal ?_
    refine WX.seq ?_
    refine WX.seq ?_
    refine WX.region rfl ?_
    refine WXL.assign Met.none rfl ?_
    refine WXL.nil ?_
    refine Fin.then_normal ?_
    refine WX.block ?_
    refine WX.loop (fun s : Nat × Option Addr × Nat × Objs × Option Addr × Nat => [(0, Ptr r 0), (1, .func (.func 48) #[Ptr r 0] #[]), (5, U n), (6, .slice s.2.1 s.1 s.2.2.1), (7, U (s.1 : Int))]) (fun s => (r, ⟨0, false, [.slice s.2.2.2.2.1 (l.drop s.1).length s.2.2.2.2.2, I e1]⟩) :: (s.2.2.2.1 ++ O)) (fun s => (s.1 : Int) ≤ n ∧ s.1 ≤ l.length ∧ (s.1 = 0 ∨ e1 = 0) ∧ Grow 1 s.2.1 s.1 s.2.2.1 ((l.take s.1).map B8) s.2.2.2.1 ∧ Rowy O 1 s.2.2.2.2.1 (l.drop s.1).length ((l.drop s.1).map B8) ∧ (s.2.2.2.2.1 = none → s.2.2.2.2.2 = 0)) (fun s => l.length - s.1) (0, none, 0, [], a1, c1) ⟨hu1.1, Nat.zero_le _, .inl rfl, .nil, hr1, hc1⟩ (fun s hs => hs.tl [0] 1) (fun s hs => ?_)
    obtain ⟨k, ao, co, G, a2, c2⟩ := s
    obtain ⟨g1, g2, g3, g4, g5, g6⟩ := hs
    simp only at g1 g2 g3 g4 g5 g6
    dsimp only
    refine WX.seq ?_
    refine WX.seq ?_
    refine WX.region rfl ?_
    refine WXL.move Met.none rfl ?_
    refine WXL.move Met.none rfl ?_
    refine WXL.bin Met.none rfl rfl rfl ?_
    refine WXL.move Met.none rfl ?_
    refine WXL.split (d := 23) rfl (fun hg23 => ?_) (fun hg23 => ?_)
    · try simp only [cnd] at hg23
      refine WXL.move (Met.some rfl rfl rfl) rfl ?_
      refine WXL.nilCheck (Met.some rfl rfl rfl) rfl ?_
      first | refine WXL.fieldAddr (Met.some rfl rfl rfl) rfl Try.underlying75 rfl sz47 rfl ?_ | refine WXL.faS (Met.some rfl rfl rfl) rfl Try.underlying75 rfl sz47 ?_
      first | refine WXL.ld (Met.some rfl rfl rfl) rfl agg47 ?_ | refine WXL.ldS (Met.some rfl rfl rfl) rfl agg47 ?_
      refine WXL.bin (Met.some rfl rfl rfl) rfl rfl rfl ?_
      refine WXL.pick_t Met.none rfl rfl ?_
      refine WXL.nil ?_
      refine Fin.then_normal ?_
      refine WX.cond rfl (fun hc1 => ?_) (fun hc1 => ?_)
      · try simp only [cnd] at hc1
        refine WX.skip ?_
        refine Fin.then_normal ?_
        refine WX.seq ?_
        refine WX.block ?_
        have he0 : e1 = 0 := by omega
        subst he0
        have hn2 := hn1 rfl
        have hkl : k < l.length := by omega
        have hdc := drop_cons_nth hkl
        refine WX.region rfl ?_
        refine WXL.move Met.none rfl ?_
        refine WXL.move Met.none rfl ?_
        refine WXL.cl (O1 := _) Met.none rfl (fnOk_of Try.func48 (by decide +kernel)) rfl (fun _ h => h) (next_ok (G ++ O) r (l.drop k, 0) a2 c2 (by simp only [List.length_drop]; omega) g5.app g6) (fun v O' hp => ?_)
        obtain ⟨rfl, ⟨a3, c3, rfl, g7, g8⟩⟩ := hp
        rw [show nextP (l.drop k, 0) = (nth l k, (l.drop (k + 1), 0)) from by rw [hdc]; rfl] at g7 ⊢
        have g7 := g7 O g5
        refine WXL.buildSlice (c := [_]) Met.none rfl elem23 sz5 zero5 (by decide) (by decide) rfl rfl rfl rfl (fun b35 => ?_)
        refine WXL.apG [_, _] Met.none rfl rfl isrow23 elem23 sz5 by5 zero5 (Src.lit (cs := [_])) (fun a36 c36 G36 hG36 => ?_)
        refine WXL.assign Met.none rfl ?_
        refine WXL.nil ?_
        refine Fin.block_normal ?_
        refine Fin.then_normal ?_
        refine WX.region rfl ?_
        refine WXL.move Met.none rfl ?_
        refine WXL.bin Met.none rfl rfl (congrArg (fun n => some (U n)) (wrap_u64 (n := (k : Int) + 1) (by omega) (by omega))) ?_
        refine WXL.assign Met.none rfl ?_
        refine WXL.nil ?_
        refine Fin.loop_next (k + 1, a36, c36, G36, a3, c3) ⟨by simp only; omega, by simp only; omega, .inr rfl, ?_, g7, g8⟩ (by simp only; omega) (fun s hs => hs.tl [1] 2)
        simp only
        rw [take_succ_nth hkl, List.map_append]
        exact hG36
      · try simp only [cnd] at hc1
        refine WX.exit ?_
        refine Fin.then_exit ?_
        refine Fin.loop_exit ?_
        refine Fin.block_hit rfl ?_
        refine Fin.then_normal ?_
        refine WX.seq ?_
        refine WX.seq ?_
        refine WX.region rfl ?_
        refine WXL.move Met.none rfl ?_
        refine WXL.nilCheck Met.none rfl ?_
        first | refine WXL.fieldAddr Met.none rfl Try.underlying75 rfl sz47 rfl ?_ | refine WXL.faS Met.none rfl Try.underlying75 rfl sz47 ?_
        first | refine WXL.ld Met.none rfl agg47 ?_ | refine WXL.ldS Met.none rfl agg47 ?_
        refine WXL.bin Met.none rfl rfl rfl ?_
        refine WXL.nil ?_
        refine Fin.then_normal ?_
        refine WX.cond rfl (fun hc2 => ?_) (fun hc2 => ?_)
        · try simp only [cnd] at hc2
          refine WX.seq ?_
          refine WX.region rfl ?_
          refine WXL.assign Met.none rfl ?_
          refine WXL.nil ?_
          refine Fin.then_normal ?_
          refine WX.ret ?_
          refine Fin.then_ret ?_
          first
          | (have hk0 : k = 0 := by omega
             subst hk0
             rw [if_neg hc2]
             rcases g4 with ⟨rfl, _, rfl, _, rfl⟩ | ⟨b, rfl, rfl, _⟩
             · exact Fin.result (O' := (r, ⟨0, false, [.slice a2 (l.drop 0).length c2, I e1]⟩) :: ([] ++ O)) (.inr rfl) rfl rfl (fun _ hs => hs) ⟨none, 0, [], rfl, .nil, a2, c2, rfl, g5, g6⟩
             · exact Fin.result (O' := (r, ⟨0, false, [.slice a2 (l.drop 0).length c2, I e1]⟩) :: ([] ++ O)) (.inr rfl) rfl rfl (fun _ hs => hs.tl [0] 2) ⟨none, 0, [], rfl, .nil, a2, c2, rfl, g5, g6⟩)
          | (have he0 : e1 = 0 := by omega
             subst he0
             rw [if_pos rfl]
             have hkn : n.toNat = k := by omega
             rw [hkn]
             have hlk : (l.take k).length = k := by rw [List.length_take]; omega
             exact Fin.result (O' := (r, ⟨0, false, [.slice a2 (l.drop k).length c2, I 0]⟩) :: (G ++ O)) (.inr rfl) rfl rfl (fun _ hs => hs) ⟨ao, co, G, by rw [hlk]; rfl, by rw [hlk]; exact g4, a2, c2, rfl, g5, g6⟩)
        · try simp only [cnd] at hc2
          refine WX.skip ?_
          refine Fin.then_normal ?_
          refine WX.seq ?_
          refine WX.region rfl ?_
          refine WXL.move Met.none rfl ?_
          refine WXL.assign Met.none rfl ?_
          refine WXL.nil ?_
          refine Fin.then_normal ?_
          refine WX.ret ?_
          first
          | (have hk0 : k = 0 := by omega
             subst hk0
             rw [if_neg hc2]
             rcases g4 with ⟨rfl, _, rfl, _, rfl⟩ | ⟨b, rfl, rfl, _⟩
             · exact Fin.result (O' := (r, ⟨0, false, [.slice a2 (l.drop 0).length c2, I e1]⟩) :: ([] ++ O)) (.inr rfl) rfl rfl (fun _ hs => hs) ⟨none, 0, [], rfl, .nil, a2, c2, rfl, g5, g6⟩
             · exact Fin.result (O' := (r, ⟨0, false, [.slice a2 (l.drop 0).length c2, I e1]⟩) :: ([] ++ O)) (.inr rfl) rfl rfl (fun _ hs => hs.tl [0] 2) ⟨none, 0, [], rfl, .nil, a2, c2, rfl, g5, g6⟩)
          | (have he0 : e1 = 0 := by omega
             subst he0
             rw [if_pos rfl]
             have hkn : n.toNat = k := by omega
             rw [hkn]
             have hlk : (l.take k).length = k := by rw [List.length_take]; omega
             exact Fin.result (O' := (r, ⟨0, false, [.slice a2 (l.drop k).length c2, I 0]⟩) :: (G ++ O)) (.inr rfl) rfl rfl (fun _ hs => hs) ⟨ao, co, G, by rw [hlk]; rfl, by rw [hlk]; exact g4, a2, c2, rfl, g5, g6⟩)
    · try simp only [cnd] at hg23
      refine WXL.miss (j := 3) (d := 23) rfl rfl rfl ?_
      refine WXL.miss (j := 3) (d := 23) rfl rfl rfl ?_
      refine WXL.miss (j := 3) (d := 23) rfl rfl rfl ?_
      refine WXL.miss (j := 3) (d := 23) rfl rfl rfl ?_
      refine WXL.miss (j := 3) (d := 23) rfl rfl rfl ?_
      refine WXL.pick_f Met.none rfl rfl ?_
      refine WXL.nil ?_
      refine Fin.then_normal ?_
      refine WX.cond rfl (fun hc1 => nomatch hc1) (fun hc1 => ?_)
      refine WX.exit ?_
      refine Fin.then_exit ?_
      refine Fin.loop_exit ?_
      refine Fin.block_hit rfl ?_
      refine Fin.then_normal ?_
      refine WX.seq ?_
      refine WX.seq ?_
      refine WX.region rfl ?_
      refine WXL.move Met.none rfl ?_
      refine WXL.nilCheck Met.none rfl ?_
      first | refine WXL.fieldAddr Met.none rfl Try.underlying75 rfl sz47 rfl ?_ | refine WXL.faS Met.none rfl Try.underlying75 rfl sz47 ?_
      first | refine WXL.ld Met.none rfl agg47 ?_ | refine WXL.ldS Met.none rfl agg47 ?_
      refine WXL.bin Met.none rfl rfl rfl ?_
      refine WXL.nil ?_
      refine Fin.then_normal ?_
      refine WX.cond rfl (fun hc2 => ?_) (fun hc2 => ?_)
      · try simp only [cnd] at hc2
        refine WX.seq ?_
        refine WX.region rfl ?_
        refine WXL.assign Met.none rfl ?_
        refine WXL.nil ?_
        refine Fin.then_normal ?_
        refine WX.ret ?_
        refine Fin.then_ret ?_
        first
        | (have hk0 : k = 0 := by omega
           subst hk0
           rw [if_neg hc2]
           rcases g4 with ⟨rfl, _, rfl, _, rfl⟩ | ⟨b, rfl, rfl, _⟩
           · exact Fin.result (O' := (r, ⟨0, false, [.slice a2 (l.drop 0).length c2, I e1]⟩) :: ([] ++ O)) (.inr rfl) rfl rfl (fun _ hs => hs) ⟨none, 0, [], rfl, .nil, a2, c2, rfl, g5, g6⟩
           · exact Fin.result (O' := (r, ⟨0, false, [.slice a2 (l.drop 0).length c2, I e1]⟩) :: ([] ++ O)) (.inr rfl) rfl rfl (fun _ hs => hs.tl [0] 2) ⟨none, 0, [], rfl, .nil, a2, c2, rfl, g5, g6⟩)
        | (have he0 : e1 = 0 := by omega
           subst he0
           rw [if_pos rfl]
           have hkn : n.toNat = k := by omega
           rw [hkn]
           have hlk : (l.take k).length = k := by rw [List.length_take]; omega
           exact Fin.result (O' := (r, ⟨0, false, [.slice a2 (l.drop k).length c2, I 0]⟩) :: (G ++ O)) (.inr rfl) rfl rfl (fun _ hs => hs) ⟨ao, co, G, by rw [hlk]; rfl, by rw [hlk]; exact g4, a2, c2, rfl, g5, g6⟩)
      · try simp only [cnd] at hc2
        refine WX.skip ?_
        refine Fin.then_normal ?_
        refine WX.seq ?_
        refine WX.region rfl ?_
        refine WXL.move Met.none rfl ?_
        refine WXL.assign Met.none rfl ?_
        refine WXL.nil ?_
        refine Fin.then_normal ?_
        refine WX.ret ?_
        first
        | (have hk0 : k = 0 := by omega
           subst hk0
           rw [if_neg hc2]
           rcases g4 with ⟨rfl, _, rfl, _, rfl⟩ | ⟨b, rfl, rfl, _⟩
           · exact Fin.result (O' := (r, ⟨0, false, [.slice a2 (l.drop 0).length c2, I e1]⟩) :: ([] ++ O)) (.inr rfl) rfl rfl (fun _ hs => hs) ⟨none, 0, [], rfl, .nil, a2, c2, rfl, g5, g6⟩
           · exact Fin.result (O' := (r, ⟨0, false, [.slice a2 (l.drop 0).length c2, I e1]⟩) :: ([] ++ O)) (.inr rfl) rfl rfl (fun _ hs => hs.tl [0] 2) ⟨none, 0, [], rfl, .nil, a2, c2, rfl, g5, g6⟩)
        | (have he0 : e1 = 0 := by omega
           subst he0
           rw [if_pos rfl]
           have hkn : n.toNat = k := by omega
           rw [hkn]
           have hlk : (l.take k).length = k := by rw [List.length_take]; omega
           exact Fin.result (O' := (r, ⟨0, false, [.slice a2 (l.drop k).length c2, I 0]⟩) :: (G ++ O)) (.inr rfl) rfl rfl (fun _ hs => hs) ⟨ao, co, G, by rw [hlk]; rfl, by rw [hlk]; exact g4, a2, c2, rfl, g5, g6⟩)

theorem raw_ok (O : Objs) (r : Nat) (q0 : RdP) (a0 : Option Addr) (c0 : Nat) (hB : Bytes q0.1) (hlen : q0.1.length ≤ 1000000000000) (hr : Rowy O 1 a0 q0.1.length (q0.1.map B8)) (hc : a0 = none → c0 = 0) :
    Spec Try.prog false 25 #[Ptr r 0] ((r, ⟨0, false, [.slice a0 q0.1.length c0, I q0.2]⟩) :: O) fun v O' => ∃ ao co G, v = .slice ao (rawP q0).1.length co ∧ Grow 1 ao (rawP q0).1.length co ((rawP q0).1.map B8) G ∧ RdG O r (rawP q0).2 G O' := by
  refine Spec.enter (args := [_]) (m := 7) Try.func25 rfl rfl (by decide +kernel) fun h0 => ?_
  refine WX.seq ?_
  refine WX.region rfl ?_
  refine WXL.assign Met.none rfl ?_
  refine WXL.nil ?_
  refine Fin.then_normal ?_
  refine WX.seq ?_
  refine WX.region rfl ?_
  refine WXL.move Met.none rfl ?_
  refine WXL.move Met.none rfl ?_
  refine WXL.makeFunc Met.none rfl rfl ?_
  refine WXL.cl (O1 := _) Met.none rfl (fnOk_of Try.func47 (by decide +kernel)) rfl (fun _ h => h) (list_ok O r q0 a0 c0 hB hlen hr hc) (fun v O' hp => ?_)
  obtain ⟨ao, co, G, rfl, hG, a1, c1, rfl, hr1, hc1⟩ := hp
  refine WXL.assign Met.none rfl ?_
  refine WXL.nil ?_
  refine Fin.then_normal ?_
  refine WX.ret ?_
  exact Fin.result (O' := (r, ⟨0, false, [.slice a1 (rawP q0).2.1.length c1, I (rawP q0).2.2]⟩) :: (G ++ O)) (.inr rfl) rfl rfl (fun _ hs => hs) ⟨ao, co, G, rfl, hG, a1, c1, rfl, hr1, hc1⟩

theorem unzig_ok (O : Objs) (z : Int) : Spec Try.prog true 86 #[U z] O fun v O' => ∃ n, v = I n ∧ O' = O := by
  refine Spec.enter (args := [_]) (m := 11) Try.func86 rfl rfl (by decide +kernel) fun h0 => ?_
  refine WX.seq ?_
  refine WX.region rfl ?_
  refine WXL.assign Met.none rfl ?_
  refine WXL.nil ?_
  refine Fin.then_normal ?_
  refine WX.seq ?_
  refine WX.region rfl ?_
  refine WXL.move Met.none rfl ?_
  refine WXL.shr Met.none rfl rfl (by omega) ?_
  refine WXL.conv Met.none rfl Try.underlying42 Try.underlying3 rfl ?_
  refine WXL.move Met.none rfl ?_
  refine WXL.bin Met.none rfl rfl rfl ?_
  refine WXL.conv Met.none rfl Try.underlying42 Try.underlying3 rfl ?_
  refine WXL.neg Met.none rfl rfl ?_
  refine WXL.bin Met.none rfl rfl rfl ?_
  refine WXL.assign Met.none rfl ?_
  refine WXL.nil ?_
  refine Fin.then_normal ?_
  refine WX.ret ?_
  exact Fin.result (O' := O) (.inr rfl) rfl rfl drop_ ⟨_, rfl, rfl⟩

theorem int_ok (O : Objs) (r : Nat) (q0 : RdP) (a0 : Option Addr) (c0 : Nat) (hB : Bytes q0.1) (hlen : q0.1.length ≤ 1000000000000) (hr : Rowy O 1 a0 q0.1.length (q0.1.map B8)) (hc : a0 = none → c0 = 0) :
    Spec Try.prog false 77 #[Ptr r 0] ((r, ⟨0, false, [.slice a0 q0.1.length c0, I q0.2]⟩) :: O) fun v O' => (∃ n, v = I n) ∧ RdO O r (uintP 0 0 q0).2 O' := by
  refine Spec.enter (args := [_]) (m := 6) Try.func77 rfl rfl (by decide +kernel) fun h0 => ?_
  refine WX.seq ?_
  refine WX.region rfl ?_
  refine WXL.assign Met.none rfl ?_
  refine WXL.nil ?_
  refine Fin.then_normal ?_
  refine WX.seq ?_
  refine WX.region rfl ?_
  refine WXL.move Met.none rfl ?_
  refine WXL.cl (O1 := _) Met.none rfl (fnOk_of Try.func26 (by decide +kernel)) rfl (fun _ h => h) (uint_ok O r q0 a0 c0 hB hlen hr hc) (fun v O' hp => ?_)
  obtain ⟨rfl, ⟨a1, c1, rfl, hr1, hc1⟩⟩ := hp
  refine WXL.cl (O1 := _) Met.none rfl (fnOk_of Try.func86 (by decide +kernel)) rfl (fun _ h => h) (unzig_ok _ _) (fun v O' hp => ?_)
  obtain ⟨n, rfl, rfl⟩ := hp
  refine WXL.assign Met.none rfl ?_
  refine WXL.nil ?_
  refine Fin.then_normal ?_
  refine WX.ret ?_
  exact Fin.result (O' := (r, ⟨0, false, [.slice a1 (uintP 0 0 q0).2.1.length c1, I (uintP 0 0 q0).2.2]⟩) :: O) (.inr rfl) rfl rfl (fun _ hs => hs) ⟨⟨n, rfl⟩, a1, c1, rfl, hr1, hc1⟩

end Go.Proofs.Ythekokdpplobhaa.Eng

set_option linter.unusedVariables false
set_option linter.unusedSimpArgs false
namespace Go.Proofs.Ythekokdpplobhaa.Eng

theorem record_ok (O : Objs) (b : List Int) (a : Option Addr) (c : Nat) (hB : Bytes b) (hlen : b.length ≤ 1000000000) (hr : Rowy O 1 a b.length (b.map B8)) (hc : a = none → c = 0) :
    Spec Try.prog false 66 #[.slice a b.length c] O fun v O' => ∃ a' c' G, v = .slice a' (recordP b).length c' ∧ Grow 1 a' (recordP b).length c' ((recordP b).map B8) G ∧ O' = G ++ O := by
  have hpre : ∀ m, Rowy O 1 a (b.take m).length ((b.take m).map B8) := fun m => by
    have := hr.pre (m := (b.take m).length) (by rw [List.length_take]; omega)
    rw [Nat.mul_one, ← List.map_take] at this
    have e : b.take (b.take m).length = b.take m := by
      rw [List.length_take]
      rcases Nat.le_total m b.length with q | q
      · rw [Nat.min_eq_left q]
      · rw [Nat.min_eq_right q, List.take_of_length_le (Nat.le_refl _), List.take_of_length_le q]
    rw [e] at this
    exact this
  have hBt : ∀ m, Bytes (b.take m) := fun m x hx => hB x (List.mem_of_mem_take hx)
  have hlt : ∀ m, (b.take m).length ≤ b.length := fun m => by rw [List.length_take]; omega
  obtain ⟨hu1, hu2, hu3, hu4⟩ := uintP0 (b.take (min b.length 10), 0)
  obtain ⟨n, hn⟩ : ∃ n, n = (uintP 0 0 (b.take (min b.length 10), 0)).1 := ⟨_, rfl⟩
  rw [← hn] at hu1 hu4
  obtain ⟨m, hm⟩ : ∃ m, m = min b.length (10 + min n.toNat b.length) := ⟨_, rfl⟩
  have hm1 : m ≤ b.length := by omega
  have hlm : (b.take m).length = m := by rw [List.length_take]; omega
  have hcore : coreP b = (rawP (b.take m, 0)).1 := by unfold coreP; simp only [← hn, hm]
  obtain ⟨k1, k2⟩ := coreP_facts b
  rw [hcore] at k1 k2
  obtain ⟨j1, j2, j3, j4⟩ := uintP0 ((rawP (b.take m, 0)).1, 0)
  simp only at j2 j3
  have hrec : recordP b = (rawP (uintP 0 0 ((rawP (b.take m, 0)).1, 0)).2).1 := by unfold recordP; rw [hcore]
  have hcn := hc
  refine Spec.enter (args := [_]) (m := 33) Try.func66 rfl rfl (by decide +kernel) fun h0 => ?_
  refine WX.seq ?_
  refine WX.region rfl ?_
  refine WXL.assign Met.none rfl ?_
  refine WXL.nil ?_
  refine Fin.then_normal ?_
  refine WX.seq ?_
  refine WX.region rfl ?_
  refine WXL.move Met.none rfl ?_
  refine WXL.move Met.none rfl ?_
  refine WXL.len Met.none rfl Try.underlying23 ?_
  refine WXL.min Met.none rfl rfl ?_
  refine WXL.pre (m := (b.take (min b.length 10)).length) Met.none rfl rfl elem23 sz5 hr hcn ?_ (hj := (by rw [List.length_take]; omega)) (hm := (by rw [List.length_take]; omega))
  refine WXL.cl (O1 := _) Met.none rfl (fnOk_of Try.func24 (by decide +kernel)) rfl (fun _ h => h) (read_ok O (b.take (min b.length 10)) a _ (by have := hlt (min b.length 10); omega) (fun q => by have := (hpre (min b.length 10)).nil0 q; exact List.length_eq_zero_iff.1 this) ((hpre (min b.length 10)).src (fun q => (hpre (min b.length 10)).nil0 q))) (fun v O' hp => ?_)
  obtain ⟨r1, a1, c1, G1, rfl, hG1, rfl⟩ := hp
  refine WXL.cl (O1 := _) Met.none rfl (fnOk_of Try.func26 (by decide +kernel)) rfl (fun _ h => h) (uint_ok (G1 ++ O) r1 (b.take (min b.length 10), 0) a1 c1 (hBt _) (by have := hlt (min b.length 10); simp only; omega) hG1.rowy (fun q => (hG1.nil0 q).1)) (fun v O' hp => ?_)
  obtain ⟨rfl, ⟨a2, c2, rfl, hr2, hc2⟩⟩ := hp
  rw [← hn]
  refine WXL.assign Met.none rfl ?_
  refine WXL.nil ?_
  refine Fin.then_normal ?_
  refine WX.seq ?_
  refine WX.region rfl ?_
  refine WXL.move Met.none rfl ?_
  refine WXL.len Met.none rfl Try.underlying23 ?_
  refine WXL.conv Met.none rfl Try.underlying3 Try.underlying42 cv_ ?_
  refine WXL.assign Met.none rfl ?_
  refine WXL.nil ?_
  refine Fin.then_normal ?_
  refine WX.seq ?_
  refine WX.region rfl ?_
  refine WXL.move Met.none rfl ?_
  refine WXL.move Met.none rfl ?_
  refine WXL.move Met.none rfl ?_
  refine WXL.move Met.none rfl ?_
  refine WXL.min Met.none rfl rfl ?_
  refine WXL.bin Met.none rfl rfl (congrArg (fun n => some (U n)) (wrap_u64 (n := 10 + min n (b.length : Int)) (by omega) (by omega))) ?_
  refine WXL.min Met.none rfl rfl ?_
  refine WXL.pre (m := (b.take m).length) Met.none rfl rfl elem23 sz5 (hr.app.cons) hcn ?_ (hj := (by rw [hlm]; omega)) (hm := (by rw [hlm]; omega))
  refine WXL.cl (O1 := _) Met.none rfl (fnOk_of Try.func24 (by decide +kernel)) rfl (fun _ h => h) (read_ok _ (b.take m) a _ (by have := hlt m; omega) (fun q => by have := (hpre m).nil0 q; exact List.length_eq_zero_iff.1 this) (Src.cons (Src.app ((hpre m).src (fun q => (hpre m).nil0 q))))) (fun v O' hp => ?_)
  obtain ⟨r3, a3, c3, G3, rfl, hG3, rfl⟩ := hp
  refine WXL.assign Met.none rfl ?_
  refine WXL.nil ?_
  refine Fin.then_normal ?_
  refine WX.seq ?_
  refine WX.region rfl ?_
  refine WXL.move Met.none rfl ?_
  refine WXL.cl (O1 := _) Met.none rfl (fnOk_of Try.func25 (by decide +kernel)) rfl (fun _ h => h) (raw_ok _ r3 (b.take m, 0) a3 c3 (hBt _) (by have := hlt m; simp only; omega) hG3.rowy (fun q => (hG3.nil0 q).1)) (fun v O' hp => ?_)
  obtain ⟨a4, c4, G4, rfl, hG4, a5, c5, rfl, hr5, hc5⟩ := hp
  refine WXL.cl (O1 := _) Met.none rfl (fnOk_of Try.func24 (by decide +kernel)) rfl (fun _ h => h) (read_ok _ (rawP (b.take m, 0)).1 a4 c4 (by omega) (fun q => by have := (hG4.nil0 q).2; exact List.length_eq_zero_iff.1 this) (Src.cons hG4.src)) (fun v O' hp => ?_)
  obtain ⟨r6, a6, c6, G6, rfl, hG6, rfl⟩ := hp
  refine WXL.assign Met.none rfl ?_
  refine WXL.nil ?_
  refine Fin.then_normal ?_
  refine WX.seq ?_
  refine WX.region rfl ?_
  refine WXL.move Met.none rfl ?_
  refine WXL.cl (O1 := _) Met.none rfl (fnOk_of Try.func77 (by decide +kernel)) rfl (fun _ h => h) (int_ok _ r6 ((rawP (b.take m, 0)).1, 0) a6 c6 (k2 hB) (by simp only; omega) hG6.rowy (fun q => (hG6.nil0 q).1)) (fun v O' hp => ?_)
  obtain ⟨⟨z, rfl⟩, a7, c7, rfl, hr7, hc7⟩ := hp
  refine WXL.nil ?_
  refine Fin.then_normal ?_
  refine WX.seq ?_
  refine WX.region rfl ?_
  refine WXL.move Met.none rfl ?_
  refine WXL.cl (O1 := _) Met.none rfl (fnOk_of Try.func25 (by decide +kernel)) rfl (fun _ h => h) (raw_ok _ r6 (uintP 0 0 ((rawP (b.take m, 0)).1, 0)).2 a7 c7 (j3 (k2 hB)) (by omega) hr7 hc7) (fun v O' hp => ?_)
  obtain ⟨a8, c8, G8, rfl, hG8, a9, c9, rfl, hr9, hc9⟩ := hp
  rw [← hrec] at hG8 ⊢
  refine WXL.assign Met.none rfl ?_
  refine WXL.nil ?_
  refine Fin.then_normal ?_
  refine WX.ret ?_
  exact Fin.result (O' := G8 ++ O) (.inr rfl) rfl rfl sub_ ⟨a8, c8, G8, rfl, hG8, rfl⟩

end Go.Proofs.Ythekokdpplobhaa.Eng

set_option linter.unusedVariables false
set_option linter.unusedSimpArgs false
namespace Go.Proofs.Ythekokdpplobhaa.Eng

theorem Rowy.some {O : Objs} {a : Option Addr} {n : Nat} {cs : List Value} (h : Rowy O 1 a n cs) (hn : 0 < n) : ∃ b off q, a = some ⟨b, off, none⟩ ∧ Knows O b q ∧ q.sz = 1 := by
  rcases h with ⟨_, h, _⟩ | ⟨b, off, q, h1, h2, h3, _⟩
  · omega
  · exact ⟨b, off, q, h1, h2, h3⟩

theorem Rowy.suf {O : Objs} {b off n m : Nat} {cs : List Value} (h : Rowy O 1 (.some ⟨b, off, none⟩) n cs) (hm : m ≤ n) : Rowy O 1 (.some ⟨b, off + m * 1, none⟩) (n - m) (cs.drop m) := by
  rcases h with ⟨h, _⟩ | ⟨b2, off2, q, h1, h2, h3, h4, h5⟩
  · cases h
  · injection h1 with h1
    injection h1 with h1 h6
    subst h1 h6
    refine .inr ⟨b, off + m * 1, q, rfl, h2, h3, by omega, ?_⟩
    rw [← h5, ← List.drop_drop, List.drop_take, Nat.mul_one, Nat.mul_one, Nat.mul_one]

theorem equal_ok (O : Objs) (l m : List Int) (a b : Option Addr) (c e : Nat) (hBl : Bytes l) (hBm : Bytes m) (hl : Src O 1 (.slice a l.length c) l.length (l.map B8)) (hm : Src O 1 (.slice b m.length e) m.length (m.map B8)) :
    Spec Try.prog true 78 #[.slice a l.length c, .slice b m.length e] O fun v O' => v = .bool (decide (l = m)) ∧ O' = O := by
  refine Spec.enter (args := [_, _]) (m := 10) Try.func78 rfl rfl (by decide +kernel) fun h0 => ?_
  refine WX.seq ?_
  refine WX.region rfl ?_
  refine WXL.assign Met.none rfl ?_
  refine WXL.nil ?_
  refine Fin.then_normal ?_
  refine WX.seq ?_
  refine WX.region rfl ?_
  refine WXL.move Met.none rfl ?_
  refine WXL.toStr Met.none rfl Try.underlying23 Try.underlying9 Try.underlying5 src_ ?_
  refine WXL.move Met.none rfl ?_
  refine WXL.toStr Met.none rfl Try.underlying23 Try.underlying9 Try.underlying5 src_ ?_
  refine WXL.eqS Met.none rfl rfl (by assumption) (by assumption) ?_
  refine WXL.assign Met.none rfl ?_
  refine WXL.nil ?_
  refine Fin.then_normal ?_
  refine WX.ret ?_
  exact Fin.result (O' := O) (.inr rfl) rfl rfl drop_ ⟨rfl, rfl⟩

theorem prefix_dec (l m : List Int) : decide (m <+: l) = (decide (m.length ≤ l.length) && decide (l.take m.length = m)) := by
  rw [← Bool.decide_and]
  refine decide_eq_decide.2 ⟨fun h => ⟨h.length_le, (List.prefix_iff_eq_take.1 h).symm⟩, fun h => List.prefix_iff_eq_take.2 h.2.symm⟩

theorem hasPrefix_ok (O : Objs) (l m : List Int) (a b : Option Addr) (c e : Nat) (hBl : Bytes l) (hBm : Bytes m) (hl : Rowy O 1 a l.length (l.map B8)) (hc : a = none → c = 0) (hm : Src O 1 (.slice b m.length e) m.length (m.map B8)) :
    Spec Try.prog true 67 #[.slice a l.length c, .slice b m.length e] O fun v O' => ∃ x, v = .bool x ∧ x = decide (m <+: l) ∧ O' = O := by
  refine Spec.enter (args := [_, _]) (m := 18) Try.func67 rfl rfl (by decide +kernel) fun h0 => ?_
  refine WX.seq ?_
  refine WX.region rfl ?_
  refine WXL.assign Met.none rfl ?_
  refine WXL.nil ?_
  refine Fin.then_normal ?_
  refine WX.seq ?_
  refine WX.region rfl ?_
  refine WXL.move Met.none rfl ?_
  refine WXL.len Met.none rfl Try.underlying23 ?_
  refine WXL.move Met.none rfl ?_
  refine WXL.len Met.none rfl Try.underlying23 ?_
  refine WXL.bin Met.none rfl rfl rfl ?_
  refine WXL.move Met.none rfl ?_
  refine WXL.split (d := 10) rfl (fun hg10 => ?_) (fun hg10 => ?_)
  · try simp only [cnd] at hg10
    refine WXL.move (Met.some rfl rfl rfl) rfl ?_
    refine WXL.move (Met.some rfl rfl rfl) rfl ?_
    refine WXL.len (Met.some rfl rfl rfl) rfl Try.underlying23 ?_
    refine WXL.pre (m := m.length) (Met.some rfl rfl rfl) rfl rfl elem23 sz5 hl hc ?_
    refine WXL.move (Met.some rfl rfl rfl) rfl ?_
    have hml : (l.take m.length).length = m.length := by rw [List.length_take]; omega
    have hr2 := hl.pre (m := m.length) (by omega)
    rw [Nat.mul_one, ← List.map_take] at hr2
    refine WXL.cl (O1 := _) (Met.some rfl rfl rfl) rfl (fnOk_of Try.func78 (by decide +kernel)) rfl (fun _ h => h) ((by
    have := equal_ok O (l.take m.length) m a b m.length e (fun x hx => hBl x (List.mem_of_mem_take hx)) hBm (by rw [hml]; exact hr2.src (fun q => hr2.nil0 q)) hm
    rw [hml] at this
    exact this)) (fun v O' hp => ?_)
    obtain ⟨rfl, hO⟩ := hp
    subst O'
    refine WXL.pick_t Met.none rfl rfl ?_
    refine WXL.assign Met.none rfl ?_
    refine WXL.nil ?_
    refine Fin.then_normal ?_
    refine WX.ret ?_
    first
    | exact Fin.result (O' := O) (.inr rfl) rfl rfl drop_ ⟨_, rfl, by rw [prefix_dec, decide_eq_true (show m.length ≤ l.length by omega), Bool.true_and], rfl⟩
    | exact Fin.result (O' := O) (.inr rfl) rfl rfl drop_ ⟨_, rfl, by rw [prefix_dec, decide_eq_false (show ¬ m.length ≤ l.length by omega), Bool.false_and], rfl⟩
  · try simp only [cnd] at hg10
    refine WXL.miss (j := 5) (d := 10) rfl rfl rfl ?_
    refine WXL.miss (j := 5) (d := 10) rfl rfl rfl ?_
    refine WXL.miss (j := 5) (d := 10) rfl rfl rfl ?_
    refine WXL.miss (j := 5) (d := 10) rfl rfl rfl ?_
    refine WXL.miss (j := 5) (d := 10) rfl rfl rfl ?_
    refine WXL.miss (j := 5) (d := 10) rfl rfl rfl ?_
    refine WXL.pick_f Met.none rfl rfl ?_
    refine WXL.assign Met.none rfl ?_
    refine WXL.nil ?_
    refine Fin.then_normal ?_
    refine WX.ret ?_
    first
    | exact Fin.result (O' := O) (.inr rfl) rfl rfl drop_ ⟨_, rfl, by rw [prefix_dec, decide_eq_true (show m.length ≤ l.length by omega), Bool.true_and], rfl⟩
    | exact Fin.result (O' := O) (.inr rfl) rfl rfl drop_ ⟨_, rfl, by rw [prefix_dec, decide_eq_false (show ¬ m.length ≤ l.length by omega), Bool.false_and], rfl⟩

end Go.Proofs.Ythekokdpplobhaa.Eng

set_option linter.unusedVariables false
set_option linter.unusedSimpArgs false
namespace Go.Proofs.Ythekokdpplobhaa.Eng

/-- The records at the beginning, and where each of them ends. -/
def recsP (b : List Int) : List (List Int) := (scanP 0 b).1
def endP (b : List Int) (k : Nat) : Nat := (framesB 0 ((recsP b).take k)).length

theorem drop_cons_nth' {l : List (List Int)} {k : Nat} (h : k < l.length) : l.drop k = nth l k :: l.drop (k + 1) := by
  rw [nth_get h, List.drop_eq_getElem_cons h]

theorem framesB_append (l m : List (List Int)) : ∀ i, framesB i (l ++ m) = framesB i l ++ framesB (i + l.length) m := by
  induction l with
  | nil => intro i; rfl
  | cons x l ih =>
    intro i
    rw [List.cons_append, framesB_cons, framesB_cons, ih, List.append_assoc, List.length_cons]
    congr 3
    omega

theorem scanP_step (i : Nat) (b : List Int) : (scanP i b).1 = [] ∨ (b ≠ [] ∧ frameB i (recordP b) <+: b ∧ (scanP i b).1 = recordP b :: (scanP (i + 1) (b.drop (frameB i (recordP b)).length)).1) := by
  rw [scanP]
  split
  · rename_i h; exact .inr ⟨h.1, h.2, rfl⟩
  · exact .inl rfl

theorem scanP_len (b : List Int) (i : Nat) : (scanP i b).2 = (framesB i (scanP i b).1).length ∧ framesB i (scanP i b).1 <+: b := by
  rw [scanP]
  split
  · rename_i h
    have hlt : (b.drop (frameB i (recordP b)).length).length < b.length := by
      have := frameB_pos i (recordP b)
      have : 0 < b.length := List.length_pos_iff.2 h.1
      rw [List.length_drop]; omega
    obtain ⟨h1, h2⟩ := scanP_len (b.drop (frameB i (recordP b)).length) (i + 1)
    rw [framesB_cons, List.length_append, h1]
    refine ⟨rfl, ?_⟩
    obtain ⟨t1, e1⟩ := h.2
    obtain ⟨t2, e2⟩ := h2
    refine ⟨t2, ?_⟩
    rw [List.append_assoc, e2]
    conv => rhs; rw [← List.take_append_drop (frameB i (recordP b)).length b]
    rw [← List.prefix_iff_eq_take.1 h.2]
  · exact ⟨rfl, List.nil_prefix⟩
termination_by b.length
decreasing_by
  simpa only [List.length_drop] using hlt

theorem endP_le (b : List Int) (k : Nat) : endP b k ≤ b.length := by
  have h := (scanP_len b 0).2
  have : framesB 0 (recsP b) = framesB 0 ((recsP b).take k) ++ framesB (0 + ((recsP b).take k).length) ((recsP b).drop k) := by rw [← framesB_append, List.take_append_drop]
  have h2 := h.length_le
  change (framesB 0 (recsP b)).length ≤ _ at h2
  rw [this, List.length_append] at h2
  unfold endP
  omega

theorem endP_succ (b : List Int) (k : Nat) (hk : k < (recsP b).length) : endP b (k + 1) = endP b k + (frameB k (nth (recsP b) k)).length := by
  unfold endP
  rw [take_succ_nth hk, framesB_append, List.length_append, List.length_take, Nat.zero_add, Nat.min_eq_left (by omega), framesB_cons, List.length_append]
  rfl

theorem scanP_at (b : List Int) : ∀ k, k ≤ (recsP b).length → (recsP b).drop k = (scanP k (b.drop (endP b k))).1 := by
  intro k
  induction k with
  | zero => intro _; rfl
  | succ k ih =>
    intro hk
    have h1 := ih (by omega)
    rcases scanP_step k (b.drop (endP b k)) with h2 | ⟨h2, h3, h4⟩
    · rw [h2] at h1
      have := congrArg List.length h1
      rw [List.length_drop] at this
      simp at this
      omega
    · rw [h4, drop_cons_nth' (by omega)] at h1
      injection h1 with h5 h6
      rw [h6, List.drop_drop, endP_succ b k (by omega), h5]

end Go.Proofs.Ythekokdpplobhaa.Eng

set_option linter.unusedVariables false
set_option linter.unusedSimpArgs false
namespace Go.Proofs.Ythekokdpplobhaa.Eng

/-- What is yielded: a record in a new row, and where its frame ends. -/
def RecArg (b : List Int) (k : Nat) (vs : List Value) (N : Objs) : Prop :=
  ∃ a c, vs = [.slice a (nth (recsP b) k).length c, I (endP b (k + 1) : Nat)] ∧ Grow 1 a (nth (recsP b) k).length c ((nth (recsP b) k).map B8) N

theorem frameB_bytes {n : Int} {b : List Int} (h : Bytes b) : Bytes (frameB n b) := fun x hx => by
  rcases List.mem_append.1 hx with q | q
  · exact rawB_bytes (coreB_bytes h) x q
  · exact varU_bytes _ x q

theorem framesB_len : ∀ (l : List (List Int)) (i : Nat), l.length ≤ (framesB i l).length
  | [], i => Nat.le_refl _
  | x :: l, i => by
    have := framesB_len l (i + 1)
    have := frameB_pos i x
    rw [framesB_cons, List.length_append, List.length_cons]
    omega

theorem recsP_len (b : List Int) : (recsP b).length ≤ b.length := Nat.le_trans (framesB_len _ 0) (scanP_len b 0).2.length_le

theorem records_iter {β : Type} (OI : β → Objs) (Inv : Nat → β → Prop) (ρ : Rho) (y : Nat) (b : List Int) (hB : Bytes b) (cb : Nat) (a : Option Addr) (c : Nat) (hlen : b.length ≤ 100000)
    (hbox : ∀ x, Knows (OI x) cb ⟨0, false, [.slice a b.length c]⟩) (hr : ∀ x, Rowy (OI x) 1 a b.length (b.map B8)) (hc : a = none → c = 0) (x0 : β) (hI0 : Inv 0 x0)
    (hy : ∀ k x vs N, k < (recsP b).length → Inv k x → RecArg b k vs N → SpecY Try.prog ρ y vs (N ++ OI x) fun O' => ∃ x', Inv (k + 1) x' ∧ O' = OI x') :
    SpecIn Try.prog ρ false 65 #[Yd y, Ptr cb 0] (OI x0) fun v O' => ∃ x', Inv (recsP b).length x' ∧ O' = OI x' := by
  have hend := endP_le b
  have hrl := recsP_len b
  refine SpecIn.enter (args := [_, _]) (m := 35) Try.func65 rfl rfl (by decide +kernel) fun h0 => ?_
  refine WX.seq ?_
  refine WX.region rfl ?_
  refine WXL.assign Met.none rfl ?_
  refine WXL.nil ?_
  refine Fin.then_normal ?_
  refine WX.seq ?_
  refine WX.region rfl ?_
  refine WXL.assign Met.none rfl ?_
  refine WXL.nil ?_
  refine Fin.then_normal ?_
  refine WX.block ?_
  refine WX.loop (fun q : Nat × β => [(0, Yd y), (1, Ptr cb 0), (3, I (endP b q.1 : Nat)), (4, I (q.1 : Int))]) (fun q => OI q.2) (fun q => q.1 ≤ (recsP b).length ∧ Inv q.1 q.2) (fun q => (recsP b).length - q.1) (0, x0) ⟨Nat.zero_le _, hI0⟩ (fun s hs => hs.tl [] 0) (fun q hq => ?_)
  obtain ⟨k, x⟩ := q
  obtain ⟨hk, hI⟩ := hq
  simp only at hk hI
  dsimp only
  have hb1 := hbox x
  have hr1 := hr x
  have hek := hend k
  have hat := scanP_at b k hk
  refine WX.seq ?_
  refine WX.seq ?_
  refine WX.region rfl ?_
  refine WXL.move Met.none rfl ?_
  first | refine WXL.ld Met.none rfl agg23 ?_ | refine WXL.ldS Met.none rfl agg23 ?_
  refine WXL.len Met.none rfl Try.underlying23 ?_
  refine WXL.bin Met.none rfl rfl rfl ?_
  refine WXL.nil ?_
  refine Fin.then_normal ?_
  refine WX.cond rfl (fun hc0 => ?_) (fun hc0 => ?_)
  · try simp only [cnd] at hc0
    refine WX.skip ?_
    refine Fin.then_normal ?_
    refine WX.seq ?_
    refine WX.block ?_
    refine WX.seq ?_
    obtain ⟨bb, off, ⟨qsz, qro, qc⟩, rfl, hkq, hqs⟩ := hr1.some (by omega)
    have hqs : qsz = 1 := hqs
    subst hqs
    have hr2 := hr1.suf (m := endP b k) hek
    obtain ⟨t, ht⟩ : ∃ t, t = b.drop (endP b k) := ⟨_, rfl⟩
    rw [← List.map_drop, ← ht] at hr2
    rw [← ht] at hat
    have htl : t.length = b.length - endP b k := by rw [ht, List.length_drop]
    have htB : Bytes t := fun z hz => hB z (List.mem_of_mem_drop (ht ▸ hz))
    obtain ⟨f1, f2⟩ := recordP_facts t
    have htn : t ≠ [] := fun q => by rw [q] at htl; simp at htl; omega
    refine WX.region rfl ?_
    first | refine WXL.ld Met.none rfl agg23 ?_ | refine WXL.ldS Met.none rfl agg23 ?_
    refine WXL.move Met.none rfl ?_
    refine WXL.suf (cs := []) (m := (endP b k)) Met.none rfl rfl elem23 sz5 rfl hkq rfl ?_
    refine WXL.cl (O1 := _) Met.none rfl (fnOk_of Try.func66 (by decide +kernel)) rfl (fun _ h => h) ((by
    have := record_ok (OI x) t (some ⟨bb, off + endP b k * 1, none⟩) (b.length - endP b k) htB (by omega) (by rw [htl]; exact hr2) (fun q => by cases q)
    rw [htl] at this
    exact this)) (fun v O' hp => ?_)
    obtain ⟨a5, c5, G5, rfl, hG5, rfl⟩ := hp
    refine WXL.assign Met.none rfl ?_
    refine WXL.nil ?_
    refine Fin.then_normal ?_
    refine WX.seq ?_
    refine WX.region rfl ?_
    refine WXL.move Met.none rfl ?_
    refine WXL.move Met.none rfl ?_
    refine WXL.cl (O1 := _) Met.none rfl (fnOk_of Try.func12 (by decide +kernel)) rfl (fun _ h => h) (frame_ok _ (k : Int) (recordP t) a5 c5 (by unfold In64; omega) (f2 htB) (by omega) hG5.src) (fun v O' hp => ?_)
    obtain ⟨a6, c6, G6, rfl, hG6, rfl⟩ := hp
    refine WXL.assign Met.none rfl ?_
    refine WXL.nil ?_
    refine Fin.then_normal ?_
    refine WX.seq ?_
    refine WX.seq ?_
    refine WX.region rfl ?_
    first | refine WXL.ld Met.none rfl agg23 ?_ (hk := hb1.app.app) | refine WXL.ldS Met.none rfl agg23 ?_
    refine WXL.move Met.none rfl ?_
    refine WXL.suf (cs := []) (m := (endP b k)) Met.none rfl rfl elem23 sz5 rfl hkq.app.app rfl ?_
    refine WXL.move Met.none rfl ?_
    refine WXL.cl (O1 := _) Met.none rfl (fnOk_of Try.func67 (by decide +kernel)) rfl (fun _ h => h) ((by
    have := hasPrefix_ok (G6 ++ (G5 ++ OI x)) t (frameB k (recordP t)) (some ⟨bb, off + endP b k * 1, none⟩) a6 (b.length - endP b k) c6 htB (frameB_bytes (f2 htB)) (by rw [htl]; exact hr2.app.app) (fun q => by cases q) hG6.src
    rw [htl] at this
    exact this)) (fun v O' hp => ?_)
    obtain ⟨bx, rfl, hbx, rfl⟩ := hp
    refine WXL.not Met.none rfl ?_
    refine WXL.nil ?_
    refine Fin.then_normal ?_
    try simp only [Bool.not_eq_true']
    refine WX.cond rfl (fun hc1 => ?_) (fun hc1 => ?_)
    · try simp only [cnd] at hc1
      refine WX.ret ?_
      refine Fin.then_ret ?_
      refine Fin.block_ret ?_
      refine Fin.then_ret ?_
      refine Fin.loop_ret ?_
      refine Fin.block_ret ?_
      first
      | (have hkk : k = (recsP b).length := by
           have hd : b.drop (endP b k) = [] := List.drop_eq_nil_of_le (by omega)
           rw [hd, scanP, dif_neg (fun q => q.1 rfl)] at hat
           have := congrArg List.length hat
           rw [List.length_drop, List.length_nil] at this
           omega
         subst hkk
         exact Fin.result (O' := OI x) (.inl rfl) rfl rfl (fun _ h => h) ⟨x, hI, rfl⟩)
      | (have hkk : k = (recsP b).length := by
           rw [hc1] at hbx
           have hnp := of_decide_eq_false hbx.symm
           rw [scanP, dif_neg (fun q => hnp q.2)] at hat
           have := congrArg List.length hat
           rw [List.length_drop, List.length_nil] at this
           omega
         subst hkk
         exact Fin.result (O' := OI x) (.inr rfl) rfl rfl sub_ ⟨x, hI, rfl⟩)
    · try simp only [cnd] at hc1
      refine WX.skip ?_
      refine Fin.then_normal ?_
      refine WX.seq ?_
      have hpf : frameB k (recordP t) <+: t := by
        rw [hc1] at hbx
        exact of_decide_eq_true hbx.symm
      have hst : (recsP b).drop k = recordP t :: (scanP (k + 1) (t.drop (frameB k (recordP t)).length)).1 := by
        rw [hat, scanP, dif_pos ⟨htn, hpf⟩]
      have hk1 : k < (recsP b).length := by
        have := congrArg List.length hst
        rw [List.length_drop, List.length_cons] at this
        omega
      have hnth : nth (recsP b) k = recordP t := by
        rw [drop_cons_nth' hk1] at hst
        injection hst
      have hes : endP b (k + 1) = endP b k + (frameB k (recordP t)).length := by rw [endP_succ b k hk1, hnth]
      have hek1 := hend (k + 1)
      refine WX.region rfl ?_
      refine WXL.move Met.none rfl ?_
      refine WXL.move Met.none rfl ?_
      refine WXL.len Met.none rfl Try.underlying23 ?_
      refine WXL.bin Met.none rfl rfl (show _ = some (I (endP b (k + 1) : Nat)) from (binV_add (by omega) (by omega)).trans (congrArg (fun n => some (I n)) (by omega))) ?_
      refine WXL.assign Met.none rfl ?_
      refine WXL.nil ?_
      refine Fin.then_normal ?_
      refine WX.seq ?_
      refine WX.region rfl ?_
      refine WXL.move Met.none rfl ?_
      refine WXL.move Met.none rfl ?_
      refine WXL.move Met.none rfl ?_
      refine WXL.yield (O1 := G5 ++ OI x) Met.none rfl rfl sub_ rfl rfl rfl rfl (hy k x _ G5 hk1 hI ⟨a5, c5, by rw [hnth], by rw [hnth]; exact hG5⟩) (fun O' hp => ?_)
      obtain ⟨x', hI', rfl⟩ := hp
      refine WXL.not Met.none rfl ?_
      refine WXL.nil ?_
      refine Fin.then_normal ?_
      refine WX.cond rfl (fun hc2 => nomatch hc2) (fun hc2 => ?_)
      refine WX.skip ?_
      refine Fin.block_normal ?_
      refine Fin.then_normal ?_
      refine WX.region rfl ?_
      refine WXL.move Met.none rfl ?_
      refine WXL.bin Met.none rfl rfl bvA ?_
      refine WXL.assign Met.none rfl ?_
      refine WXL.nil ?_
      exact Fin.loop_next (k + 1, x') ⟨by simp only; omega, hI'⟩ (by simp only; omega) (fun s hs => hs.tl [] 0)
  · try simp only [cnd] at hc0
    refine WX.exit ?_
    refine Fin.then_exit ?_
    refine Fin.loop_exit ?_
    refine Fin.block_hit rfl ?_
    first
    | (have hkk : k = (recsP b).length := by
         have hd : b.drop (endP b k) = [] := List.drop_eq_nil_of_le (by omega)
         rw [hd, scanP, dif_neg (fun q => q.1 rfl)] at hat
         have := congrArg List.length hat
         rw [List.length_drop, List.length_nil] at this
         omega
       subst hkk
       exact Fin.result (O' := OI x) (.inl rfl) rfl rfl (fun _ h => h) ⟨x, hI, rfl⟩)
    | (have hkk : k = (recsP b).length := by
         rw [hc1] at hbx
         have hnp := of_decide_eq_false hbx.symm
         rw [scanP, dif_neg (fun q => hnp q.2)] at hat
         have := congrArg List.length hat
         rw [List.length_drop, List.length_nil] at this
         omega
       subst hkk
       exact Fin.result (O' := OI x) (.inr rfl) rfl rfl sub_ ⟨x, hI, rfl⟩)

end Go.Proofs.Ythekokdpplobhaa.Eng

set_option linter.unusedVariables false
set_option linter.unusedSimpArgs false
namespace Go.Proofs.Ythekokdpplobhaa.Eng

/-- A value is a slice of these bytes. -/
def IsB (O : Objs) (v : Value) (x : List Int) : Prop := ∃ a c, v = .slice a x.length c ∧ Src O 1 v x.length (x.map B8)
/-- Slices of bytes, one for each list. -/
def AreB (O : Objs) (vs : List Value) (xs : List (List Int)) : Prop := vs.length = xs.length ∧ ∀ k, k < xs.length → IsB O (nth vs k) (nth xs k)

theorem IsB.cons {O : Objs} {q : Nat × Ent} {v : Value} {x : List Int} (h : IsB O v x) : IsB (q :: O) v x := by
  obtain ⟨a, c, h1, h2⟩ := h
  exact ⟨a, c, h1, h2.cons⟩
theorem IsB.app {O N : Objs} {v : Value} {x : List Int} (h : IsB O v x) : IsB (N ++ O) v x := by
  obtain ⟨a, c, h1, h2⟩ := h
  exact ⟨a, c, h1, h2.app⟩
theorem AreB.cons {O : Objs} {q : Nat × Ent} {vs : List Value} {xs : List (List Int)} (h : AreB O vs xs) : AreB (q :: O) vs xs := ⟨h.1, fun k hk => (h.2 k hk).cons⟩
theorem AreB.app {O N : Objs} {vs : List Value} {xs : List (List Int)} (h : AreB O vs xs) : AreB (N ++ O) vs xs := ⟨h.1, fun k hk => (h.2 k hk).app⟩
theorem AreB.nil {O : Objs} : AreB O [] [] := ⟨rfl, fun k hk => by simp at hk⟩
theorem nth_snoc {α : Type} [Inhabited α] (l : List α) (x : α) (k : Nat) : nth (l ++ [x]) k = if k < l.length then nth l k else if k = l.length then x else default := by
  unfold nth
  split
  · rename_i h; simp [List.getElem?_append_left h, List.getD_eq_getElem?_getD]
  · rename_i h
    split
    · rename_i h2; subst h2; simp [List.getD_eq_getElem?_getD]
    · simp [List.getD_eq_getElem?_getD, List.getElem?_eq_none (show (l ++ [x]).length ≤ k by simp; omega)]
theorem AreB.snoc {O : Objs} {vs : List Value} {xs : List (List Int)} {v : Value} {x : List Int} (h : AreB O vs xs) (hv : IsB O v x) : AreB O (vs ++ [v]) (xs ++ [x]) := by
  obtain ⟨h1, h2⟩ := h
  refine ⟨by simp [h1], fun k hk => ?_⟩
  rw [nth_snoc, nth_snoc, h1]
  rw [List.length_append, List.length_singleton] at hk
  split
  · exact h2 k (by assumption)
  · rw [if_pos (by omega), if_pos (by omega)]; exact hv

theorem scan2 (b : List Int) : (scanP 0 b).2 = endP b (recsP b).length := by
  unfold endP
  rw [List.take_length]
  exact (scanP_len b 0).1

/-- The state of the loop: out, and the objects that came. -/
structure ScQ where
  k : Nat
  a : Option Addr
  c : Nat
  vs : List Value
  G : Objs
  R : Objs

theorem records_ok (O : Objs) (a : Option Addr) (n c : Nat) :
    Spec Try.prog false 42 #[.slice a n c] O fun v O' => ∃ cb, v = .func (.func 65) #[] #[Ptr cb 0] ∧ O' = (cb, ⟨0, false, [.slice a n c]⟩) :: O := by
  refine Spec.enter (args := [_]) (m := 4) Try.func42 rfl rfl (by decide +kernel) fun h0 => ?_
  refine WX.seq ?_
  refine WX.region rfl ?_
  refine WXL.box (c := [_]) Met.none rfl rfl rfl (fun b1 => ?_)
  refine WXL.assign Met.none rfl ?_
  refine WXL.nil ?_
  refine Fin.then_normal ?_
  refine WX.seq ?_
  refine WX.region rfl ?_
  refine WXL.makeFunc Met.none rfl rfl ?_
  refine WXL.assign Met.none rfl ?_
  refine WXL.nil ?_
  refine Fin.then_normal ?_
  refine WX.ret ?_
  exact Fin.result (O' := (b1, ⟨0, false, [.slice a n c]⟩) :: O) (.inr rfl) rfl rfl drop_ ⟨b1, rfl, rfl⟩

theorem Sat.app_left {h : AHeap} {N O : Objs} (hs : Sat h (N ++ O)) : Sat h N :=
  ⟨by
    have := hs.nd
    rw [List.map_append, List.nodup_append] at this
    exact this.1, fun p hp => hs.is p (List.mem_append_left _ hp), hs.wf⟩
theorem Src.right {N O : Objs} {sz n : Nat} {v : Value} {cs : List Value} (h : Src N sz v n cs) : Src (N ++ O) sz v n cs := fun g hg => h g hg.app_left
theorem AreB.right {N O : Objs} {vs : List Value} {xs : List (List Int)} (h : AreB N vs xs) : AreB (N ++ O) vs xs := ⟨h.1, fun k hk => by
  obtain ⟨a, c, h1, h2⟩ := h.2 k hk
  exact ⟨a, c, h1, h2.right⟩⟩

theorem scan_own (O : Objs) (b : List Int) (a : Option Addr) (c : Nat) (hB : Bytes b) (hlen : b.length ≤ 100000) (hr : Rowy O 1 a b.length (b.map B8)) (hc : a = none → c = 0) :
    Spec Try.prog false 15 #[.slice a b.length c] O fun v O' => ∃ ao co vs G R, v = .tuple #[.slice ao (recsP b).length co, I (endP b (recsP b).length : Nat)] ∧ Grow 1 ao (recsP b).length co vs G ∧ AreB R vs (recsP b) ∧ O' = G ++ (R ++ O) := by
  have hrl := recsP_len b
  refine Spec.enter (args := [_]) (m := 19) Try.func15 rfl rfl (by decide +kernel) fun h0 => ?_
  refine WX.seq ?_
  refine WX.region rfl ?_
  refine WXL.assign Met.none rfl ?_
  refine WXL.assign Met.none rfl ?_
  refine WXL.nil ?_
  refine Fin.then_normal ?_
  refine WX.seq ?_
  refine WX.region rfl ?_
  refine WXL.alloc (c := [_]) Met.none zero27 rfl (fun b4 => ?_)
  refine WXL.nil ?_
  refine Fin.then_normal ?_
  refine WX.seq ?_
  refine WX.region rfl ?_
  refine WXL.alloc (c := [_]) Met.none zero3 rfl (fun b5 => ?_)
  refine WXL.st (vs := [_]) (c' := [_]) Met.none rfl rfl rfl sz3 ?_
  refine WXL.nil ?_
  refine Fin.then_normal ?_
  refine WX.seq ?_
  refine WX.seq ?_
  refine WX.region rfl ?_
  refine WXL.move Met.none rfl ?_
  refine WXL.cl (O1 := _) Met.none rfl (fnOk_of Try.func42 (by decide +kernel)) rfl (fun _ h => h) (records_ok _ a b.length c) (fun v O' hp => ?_)
  obtain ⟨cb, rfl, rfl⟩ := hp
  refine WXL.nil ?_
  refine Fin.then_normal ?_
  refine WX.block ?_
  refine WX.rangeFuncA (fun q : ScQ => (cb, ⟨0, false, [.slice a b.length c]⟩) :: (b5, ⟨0, false, [I (endP b q.k : Nat)]⟩) :: (b4, ⟨0, false, [.slice q.a q.k q.c]⟩) :: (q.G ++ (q.R ++ O))) (fun k q => q.k = k ∧ Grow 1 q.a q.k q.c q.vs q.G ∧ AreB q.R q.vs ((recsP b).take k)) (fun k _ vs N => RecArg b k vs N) (recsP b).length ⟨0, none, 0, [], [], []⟩ ⟨rfl, rfl⟩ rfl (fnOk_of Try.func65 (by decide +kernel)) (fun s hs => hs.sat) rfl ⟨rfl, .nil, .nil⟩ (fun k y vs N hvs => by obtain ⟨a1, c1, h1, _⟩ := hvs; rw [h1]; rfl)
    (fun ρ y hy => records_iter (fun q : ScQ => (cb, ⟨0, false, [.slice a b.length c]⟩) :: (b5, ⟨0, false, [I (endP b q.k : Nat)]⟩) :: (b4, ⟨0, false, [.slice q.a q.k q.c]⟩) :: (q.G ++ (q.R ++ O))) (fun k q => q.k = k ∧ Grow 1 q.a q.k q.c q.vs q.G ∧ AreB q.R q.vs ((recsP b).take k)) ρ y b hB cb a c hlen (fun x => Knows.at 0 rfl) (fun x => hr.app.app.cons.cons.cons) hc ⟨0, none, 0, [], [], []⟩ ⟨rfl, .nil, .nil⟩ hy) (fun h0 ρ k q vs N hk hq hvs => ?_) (fun q hq => ?_)
  · refine WX.seq ?_
    refine WX.seq ?_
    obtain ⟨k', aw, cw, ws, Gw, R⟩ := q
    obtain ⟨hkk, hGw, hRw⟩ := hq
    simp only at hkk hGw hRw
    subst hkk
    obtain ⟨a1, c1, rfl, hN⟩ := hvs
    dsimp only
    refine WX.re (O' := (cb, ⟨0, false, [.slice a b.length c]⟩) :: (b5, ⟨0, false, [I (endP b k' : Nat)]⟩) :: (b4, ⟨0, false, [.slice aw k' cw]⟩) :: (Gw ++ (N ++ (R ++ O)))) ?_
    refine WX.region rfl ?_
    refine WXL.assign Met.none rfl ?_
    refine WXL.nil ?_
    refine Fin.then_normal ?_
    refine WX.region rfl ?_
    refine WXL.assign Met.none rfl ?_
    refine WXL.nil ?_
    refine Fin.then_normal ?_
    refine WX.block ?_
    refine WX.seq ?_
    refine WX.region rfl ?_
    first | refine WXL.ld Met.none rfl agg27 ?_ | refine WXL.ldS Met.none rfl agg27 ?_
    refine WXL.move Met.none rfl ?_
    refine WXL.buildSlice (c := [_]) Met.none rfl elem27 sz23 zero23 (by decide) (by decide) rfl rfl rfl rfl (fun b14 => ?_)
    refine WXL.apG [_, _, _, _] Met.none rfl rfl isrow27 elem27 sz23 by23 zero23 (Src.lit (cs := [_])) (fun a15 c15 G15 hG15 => ?_)
    refine WXL.st (vs := [_]) (c' := [_]) Met.none rfl rfl rfl sz27 ?_
    refine WXL.nil ?_
    refine Fin.then_normal ?_
    refine WX.region rfl ?_
    refine WXL.move Met.none rfl ?_
    refine WXL.st (vs := [_]) (c' := [_]) Met.none rfl rfl rfl sz3 ?_
    refine WXL.nil ?_
    refine Fin.block_normal ?_
    have hb : AreB (N ++ R) (ws ++ [.slice a1 (nth (recsP b) k').length c1]) ((recsP b).take (k' + 1)) := by
      rw [take_succ_nth hk]
      exact hRw.app.snoc ⟨a1, c1, rfl, hN.src⟩
    exact Fin.round (⟨k' + 1, a15, c15, ws ++ [.slice a1 (nth (recsP b) k').length c1], G15, N ++ R⟩ : ScQ) ⟨rfl, hG15, hb⟩ sub_
  · skip
    refine Fin.block_normal ?_
    refine Fin.then_normal ?_
    refine WX.seq ?_
    refine WX.draw rfl ?_
    first | refine WXL.ld Met.none rfl agg27 ?_ | refine WXL.ldS Met.none rfl agg27 ?_
    first | refine WXL.ld Met.none rfl agg3 ?_ | refine WXL.ldS Met.none rfl agg3 ?_
    refine WXL.assign Met.none rfl ?_
    refine WXL.assign Met.none rfl ?_
    refine WXL.nil ?_
    refine Fin.then_normal ?_
    refine WX.ret ?_
    obtain ⟨k', aw, cw, ws, Gw, R⟩ := q
    obtain ⟨hkk, hGw, hRw⟩ := hq
    simp only at hkk hGw hRw
    subst hkk
    rw [List.take_length] at hRw
    exact Fin.result (O' := Gw ++ (R ++ O)) (.inr rfl) rfl rfl sub_ ⟨aw, cw, ws, Gw, R, rfl, hGw, hRw, rfl⟩

theorem scan_ok (O : Objs) (b : List Int) (a : Option Addr) (c : Nat) (hB : Bytes b) (hlen : b.length ≤ 100000) (hr : Rowy O 1 a b.length (b.map B8)) (hc : a = none → c = 0) :
    Spec Try.prog false 15 #[.slice a b.length c] O fun v O' => ∃ ao co vs G R, v = .tuple #[.slice ao (recsP b).length co, I (endP b (recsP b).length : Nat)] ∧ Grow 1 ao (recsP b).length co vs G ∧ AreB (R ++ O) vs (recsP b) ∧ O' = G ++ (R ++ O) :=
  (scan_own O b a c hB hlen hr hc).mono fun v O' ⟨ao, co, vs, G, R, h1, h2, h3, h4⟩ => ⟨ao, co, vs, G, R, h1, h2, h3.right, h4⟩

end Go.Proofs.Ythekokdpplobhaa.Eng

set_option linter.unusedVariables false
set_option linter.unusedSimpArgs false
namespace Go.Proofs.Ythekokdpplobhaa.Eng

theorem few_ok (O : Objs) (b : List Int) (a : Option Addr) (c : Nat) (most : Int) (hm : 0 ≤ most) (hlen : Short b) (hml : most ≤ 1000000000) (hr : Rowy O 1 a b.length (b.map B8)) (hc : a = none → c = 0) :
    Spec Try.prog false 10 #[.slice a b.length c, I most] O fun v O' => ∃ a' c' G, v = .slice a' (b.take most.toNat).length c' ∧ Grow 1 a' (b.take most.toNat).length c' ((b.take most.toNat).map B8) G ∧ O' = G ++ O := by
  unfold Short at hlen
  obtain ⟨m, hm2⟩ : ∃ m, m = (b.take most.toNat).length := ⟨_, rfl⟩
  have hml2 : m = min b.length most.toNat := by rw [hm2, List.length_take]; omega
  have htm : b.take m = b.take most.toNat := by
    rw [hml2]
    rcases Nat.le_total b.length most.toNat with q | q
    · rw [Nat.min_eq_left q, List.take_of_length_le (Nat.le_refl _), List.take_of_length_le q]
    · rw [Nat.min_eq_right q]
  have hr2 := hr.pre (m := m) (by omega)
  rw [Nat.mul_one, ← List.map_take, htm] at hr2
  refine Spec.enter (args := [_, _]) (m := 14) Try.func10 rfl rfl (by decide +kernel) fun h0 => ?_
  refine WX.seq ?_
  refine WX.region rfl ?_
  refine WXL.assign Met.none rfl ?_
  refine WXL.nil ?_
  refine Fin.then_normal ?_
  refine WX.seq ?_
  refine WX.region rfl ?_
  refine WXL.assign Met.none rfl ?_
  refine WXL.nil ?_
  refine Fin.then_normal ?_
  refine WX.seq ?_
  refine WX.region rfl ?_
  refine WXL.move Met.none rfl ?_
  refine WXL.move Met.none rfl ?_
  refine WXL.move Met.none rfl ?_
  refine WXL.len Met.none rfl Try.underlying23 ?_
  refine WXL.move Met.none rfl ?_
  refine WXL.min Met.none rfl rfl ?_
  refine WXL.pre (m := m) Met.none rfl rfl elem23 sz5 hr hc ?_
  refine WXL.apG ([]) Met.none rfl rfl isrow23 elem23 sz5 by5 zero5 (hr2.src (fun q => hr2.nil0 q)) (fun a13 c13 G13 hG13 => ?_) (hm := (by rw [List.length_map, ← hm2]; omega)) (hg := .nil)
  refine WXL.assign Met.none rfl ?_
  refine WXL.nil ?_
  refine Fin.then_normal ?_
  refine WX.ret ?_
  rw [← hm2]
  rw [Nat.zero_add] at hG13
  exact Fin.result (O' := G13 ++ O) (.inr rfl) rfl rfl (fun _ h => h) ⟨a13, c13, G13, by rw [Nat.zero_add]; rfl, hG13, rfl⟩

theorem sameLists_ok (O : Objs) (xs ys : List (List Int)) (vs ws : List Value) (a b : Option Addr) (c e : Nat) (hlen : xs.length ≤ 1000000000) (hsh : ∀ x ∈ xs, x.length ≤ 1000000000) (hv : Src O 1 (.slice a xs.length c) xs.length vs) (hw : Src O 1 (.slice b ys.length e) ys.length ws) (hx : AreB O vs xs) (hy : AreB O ws ys) :
    Spec Try.prog true 17 #[.slice a xs.length c, .slice b ys.length e] O fun v O' => ∃ x, v = .bool x ∧ x = decide (xs = ys) ∧ O' = O := by
  refine Spec.enter (args := [_, _]) (m := 27) Try.func17 rfl rfl (by decide +kernel) fun h0 => ?_
  refine WX.seq ?_
  refine WX.region rfl ?_
  refine WXL.assign Met.none rfl ?_
  refine WXL.nil ?_
  refine Fin.then_normal ?_
  refine WX.seq ?_
  refine WX.seq ?_
  refine WX.region rfl ?_
  refine WXL.move Met.none rfl ?_
  refine WXL.len Met.none rfl Try.underlying27 ?_
  refine WXL.move Met.none rfl ?_
  refine WXL.len Met.none rfl Try.underlying27 ?_
  refine WXL.bin Met.none rfl rfl rfl ?_
  refine WXL.nil ?_
  refine Fin.then_normal ?_
  refine WX.cond rfl (fun hc0 => ?_) (fun hc0 => ?_)
  · try simp only [cnd] at hc0
    refine WX.seq ?_
    refine WX.region rfl ?_
    refine WXL.assign Met.none rfl ?_
    refine WXL.nil ?_
    refine Fin.then_normal ?_
    refine WX.ret ?_
    refine Fin.then_ret ?_
    first
    | exact Fin.result (O' := O) (.inr rfl) rfl rfl drop_ ⟨_, rfl, (decide_eq_false (fun h => hc0 (by rw [h]))).symm, rfl⟩
    | exact Fin.result (O' := O) (.inr rfl) rfl rfl drop_ ⟨_, rfl, (decide_eq_false (fun h => hc2 (by rw [h]))).symm, rfl⟩
    | exact Fin.result (O' := O) (.inr rfl) rfl rfl drop_ ⟨_, rfl, (decide_eq_true (by
        have e1 : k = xs.length := by omega
        have e2 := hk.2
        rw [e1, List.take_length, List.take_of_length_le (by omega)] at e2
        exact e2)).symm, rfl⟩
  · try simp only [cnd] at hc0
    refine WX.skip ?_
    refine Fin.then_normal ?_
    refine WX.seq ?_
    refine WX.seq ?_
    refine WX.region rfl ?_
    refine WXL.assign Met.none rfl ?_
    refine WXL.nil ?_
    refine Fin.then_normal ?_
    refine WX.block ?_
    refine WX.loop (fun k : Nat => [(0, .slice a xs.length c), (1, .slice b ys.length e), (5, I k)]) (fun _ => O) (fun k => k ≤ xs.length ∧ xs.take k = ys.take k) (fun k => xs.length - k) 0 ⟨Nat.zero_le _, rfl⟩ (fun s hs => hs.tl [] 0) (fun k hk => ?_)
    refine WX.seq ?_
    refine WX.seq ?_
    refine WX.region rfl ?_
    refine WXL.move Met.none rfl ?_
    refine WXL.move Met.none rfl ?_
    refine WXL.len Met.none rfl Try.underlying27 ?_
    refine WXL.bin Met.none rfl rfl rfl ?_
    refine WXL.nil ?_
    refine Fin.then_normal ?_
    refine WX.cond rfl (fun hc1 => ?_) (fun hc1 => ?_)
    · try simp only [cnd] at hc1
      refine WX.skip ?_
      refine Fin.then_normal ?_
      refine WX.seq ?_
      refine WX.block ?_
      refine WX.seq ?_
      have hk1 : k < xs.length := by omega
      have hk2 : k < ys.length := by omega
      obtain ⟨a1, c1, e1, s1⟩ := hx.2 k hk1
      obtain ⟨a2, c2, e2, s2⟩ := hy.2 k hk2
      rw [e1] at s1
      rw [e2] at s2
      refine WX.draw rfl ?_
      refine WXL.move Met.none rfl ?_
      refine WXL.move Met.none rfl ?_
      first | refine WXL.ix Met.none rfl rfl elem27 sz23 ?_ | refine WXL.ixS Met.none rfl rfl elem27 sz23 ?_
      first | refine WXL.ld Met.none rfl agg23 ?_ (hv := (show vs[k]? = some (.slice a1 (nth xs k).length c1) from by rw [← e1]; exact nth_eq (by rw [hx.1]; exact hk1))) | refine WXL.ldS Met.none rfl agg23 ?_ (hv := (show vs[k]? = some (.slice a1 (nth xs k).length c1) from by rw [← e1]; exact nth_eq (by rw [hx.1]; exact hk1)))
      refine WXL.move Met.none rfl ?_
      refine WXL.move Met.none rfl ?_
      first | refine WXL.ix Met.none rfl rfl elem27 sz23 ?_ | refine WXL.ixS Met.none rfl rfl elem27 sz23 ?_
      first | refine WXL.ld Met.none rfl agg23 ?_ (hv := (show ws[k]? = some (.slice a2 (nth ys k).length c2) from by rw [← e2]; exact nth_eq (by rw [hy.1]; exact hk2))) | refine WXL.ldS Met.none rfl agg23 ?_ (hv := (show ws[k]? = some (.slice a2 (nth ys k).length c2) from by rw [← e2]; exact nth_eq (by rw [hy.1]; exact hk2)))
      refine WXL.cl (O1 := _) Met.none rfl (fnOk_of Try.func11 (by decide +kernel)) rfl (fun _ h => h) (sameB_ok O (nth xs k) (nth ys k) a1 a2 c1 c2 (by have := hsh _ (nth_mem hk1); unfold Short; omega) s1 s2) (fun v O' hp => ?_)
      obtain ⟨rfl, hO⟩ := hp
      subst O'
      refine WXL.not Met.none rfl ?_
      refine WXL.nil ?_
      refine Fin.then_normal ?_
      refine WX.cond rfl (fun hc2 => ?_) (fun hc2 => ?_)
      · try simp only [cnd] at hc2
        refine WX.seq ?_
        refine WX.region rfl ?_
        refine WXL.assign Met.none rfl ?_
        refine WXL.nil ?_
        refine Fin.then_normal ?_
        refine WX.ret ?_
        refine Fin.block_ret ?_
        refine Fin.then_ret ?_
        refine Fin.loop_ret ?_
        refine Fin.block_ret ?_
        refine Fin.then_ret ?_
        first
        | exact Fin.result (O' := O) (.inr rfl) rfl rfl drop_ ⟨_, rfl, (decide_eq_false (fun h => hc0 (by rw [h]))).symm, rfl⟩
        | exact Fin.result (O' := O) (.inr rfl) rfl rfl drop_ ⟨_, rfl, (decide_eq_false (fun h => hc2 (by rw [h]))).symm, rfl⟩
        | exact Fin.result (O' := O) (.inr rfl) rfl rfl drop_ ⟨_, rfl, (decide_eq_true (by
            have e1 : k = xs.length := by omega
            have e2 := hk.2
            rw [e1, List.take_length, List.take_of_length_le (by omega)] at e2
            exact e2)).symm, rfl⟩
      · try simp only [cnd] at hc2
        refine WX.skip ?_
        refine Fin.block_normal ?_
        refine Fin.then_normal ?_
        refine WX.region rfl ?_
        refine WXL.move Met.none rfl ?_
        refine WXL.bin Met.none rfl rfl bvA ?_
        refine WXL.assign Met.none rfl ?_
        refine WXL.nil ?_
        refine Fin.loop_next (k + 1) ⟨by omega, ?_⟩ (by omega) (fun s hs => hs.tl [] 0)
        rw [take_succ_nth hk1, take_succ_nth hk2, hk.2, hc2]
    · try simp only [cnd] at hc1
      refine WX.exit ?_
      refine Fin.then_exit ?_
      refine Fin.loop_exit ?_
      refine Fin.block_hit rfl ?_
      refine Fin.then_normal ?_
      refine WX.seq ?_
      refine WX.region rfl ?_
      refine WXL.assign Met.none rfl ?_
      refine WXL.nil ?_
      refine Fin.then_normal ?_
      refine WX.ret ?_
      first
      | exact Fin.result (O' := O) (.inr rfl) rfl rfl drop_ ⟨_, rfl, (decide_eq_false (fun h => hc0 (by rw [h]))).symm, rfl⟩
      | exact Fin.result (O' := O) (.inr rfl) rfl rfl drop_ ⟨_, rfl, (decide_eq_false (fun h => hc2 (by rw [h]))).symm, rfl⟩
      | exact Fin.result (O' := O) (.inr rfl) rfl rfl drop_ ⟨_, rfl, (decide_eq_true (by
          have e1 : k = xs.length := by omega
          have e2 := hk.2
          rw [e1, List.take_length, List.take_of_length_le (by omega)] at e2
          exact e2)).symm, rfl⟩

end Go.Proofs.Ythekokdpplobhaa.Eng

set_option linter.unusedVariables false
set_option linter.unusedSimpArgs false
namespace Go.Proofs.Ythekokdpplobhaa.Eng

theorem around_range {n m : Int} (hm : 0 < m) : 0 ≤ around n m ∧ around n m < m := by
  unfold around
  split
  · rw [Int.tmod_eq_emod_of_nonneg (by omega)]
    exact ⟨Int.emod_nonneg _ (by omega), Int.emod_lt_of_pos _ hm⟩
  · rw [Int.tmod_eq_emod_of_nonneg (by omega)]
    exact ⟨Int.emod_nonneg _ (by omega), Int.emod_lt_of_pos _ hm⟩

theorem wrap8_lt (n : Int) : 0 ≤ IntKind.wrap .u8 n ∧ IntKind.wrap .u8 n < 256 := by
  unfold IntKind.wrap
  have e1 : (2 : Int) ^ IntKind.bits .u8 = 256 := rfl
  have e3 : IntKind.signed .u8 = false := rfl
  simp only [e1, e3, Bool.false_and, Bool.false_eq_true, if_false]
  omega

structure RcQ where
  xs : List (List Int)
  a : Option Addr
  c : Nat
  vs : List Value
  G : Objs
  R : Objs

/-- Few short records. -/
def Recs (xs : List (List Int)) : Prop := xs.length ≤ 6 ∧ ∀ x ∈ xs, Bytes x ∧ x.length ≤ 10

theorem mkRecords_own (O : Objs) (l : List Int) (a : Option Addr) (c : Nat) (hl64 : ∀ n ∈ l, In64 n) (hlen : Short l) (hl : Src O 1 (.slice a l.length c) l.length (l.map I)) :
    Spec Try.prog false 14 #[.slice a l.length c] O fun v O' => ∃ xs ao co vs G R, v = .slice ao xs.length co ∧ Grow 1 ao xs.length co vs G ∧ AreB R vs xs ∧ Recs xs ∧ O' = G ++ (R ++ O) := by
  unfold Short at hlen
  refine Spec.enter (args := [_]) (m := 44) Try.func14 rfl rfl (by decide +kernel) fun h0 => ?_
  refine WX.seq ?_
  refine WX.region rfl ?_
  refine WXL.assign Met.none rfl ?_
  refine WXL.nil ?_
  refine Fin.then_normal ?_
  refine WX.seq ?_
  refine WX.region rfl ?_
  refine WXL.assign Met.none rfl ?_
  refine WXL.nil ?_
  refine Fin.then_normal ?_
  refine WX.seq ?_
  refine WX.seq ?_
  refine WX.region rfl ?_
  refine WXL.assign Met.none rfl ?_
  refine WXL.nil ?_
  refine Fin.then_normal ?_
  refine WX.block ?_
  refine WX.loop (fun q : RcQ => [(0, .slice a l.length c), (3, .slice q.a q.xs.length q.c), (4, I (q.xs.length : Int))]) (fun q => q.G ++ (q.R ++ O)) (fun q => q.xs.length ≤ l.length ∧ Grow 1 q.a q.xs.length q.c q.vs q.G ∧ AreB q.R q.vs q.xs ∧ Recs q.xs) (fun q => 6 - q.xs.length) ⟨[], none, 0, [], [], []⟩ ⟨Nat.zero_le _, .nil, .nil, by decide, fun x hx => by simp at hx⟩ (fun s hs => hs.tl [] 0) (fun q hq => ?_)
  obtain ⟨xs, ao, co, vs, G, R⟩ := q
  obtain ⟨h1, hG, hvs, hR1, hR2⟩ := hq
  simp only at h1 hG hvs hR1 hR2
  dsimp only
  have hls : Src (G ++ (R ++ O)) 1 (.slice a l.length c) l.length (l.map I) := Src.app (Src.app hl)
  refine WX.seq ?_
  refine WX.seq ?_
  refine WX.region rfl ?_
  refine WXL.move Met.none rfl ?_
  refine WXL.move Met.none rfl ?_
  refine WXL.len Met.none rfl Try.underlying22 ?_
  refine WXL.bin Met.none rfl rfl rfl ?_
  refine WXL.move Met.none rfl ?_
  refine WXL.split (d := 12) rfl (fun hg12 => ?_) (fun hg12 => ?_)
  · try simp only [cnd] at hg12
    refine WXL.move (Met.some rfl rfl rfl) rfl ?_
    refine WXL.bin (Met.some rfl rfl rfl) rfl rfl rfl ?_
    refine WXL.pick_t Met.none rfl rfl ?_
    refine WXL.nil ?_
    refine Fin.then_normal ?_
    refine WX.cond rfl (fun hc0 => ?_) (fun hc0 => ?_)
    · try simp only [cnd] at hc0
      refine WX.skip ?_
      refine Fin.then_normal ?_
      refine WX.seq ?_
      refine WX.block ?_
      refine WX.seq ?_
      have hk1 : xs.length < l.length := by omega
      have hn64 := hl64 _ (nth_mem hk1)
      obtain ⟨n, hn⟩ : ∃ n, n = around (nth l xs.length) 1000 := ⟨_, rfl⟩
      have hnr := around_range (n := nth l xs.length) (m := 1000) (by decide)
      rw [← hn] at hnr
      refine WX.region rfl ?_
      refine WXL.move Met.none rfl ?_
      refine WXL.move Met.none rfl ?_
      first | refine WXL.ix Met.none rfl rfl elem22 sz3 ?_ | refine WXL.ixS Met.none rfl rfl elem22 sz3 ?_
      first | refine WXL.ld Met.none rfl agg3 ?_ | refine WXL.ldS Met.none rfl agg3 ?_
      refine WXL.cl (O1 := _) Met.none rfl (fnOk_of Try.func19 (by decide +kernel)) rfl (fun _ h => h) (around_ok _ (nth l xs.length) 1000 hn64 (by decide)) (fun v O' hp => ?_)
      obtain ⟨rfl, hO⟩ := hp
      subst O'
      rw [← hn]
      have hnm : 0 ≤ n.tmod 11 ∧ n.tmod 11 ≤ 10 := by rw [Int.tmod_eq_emod_of_nonneg hnr.1]; omega
      refine WXL.assign Met.none rfl ?_
      refine WXL.nil ?_
      refine Fin.then_normal ?_
      refine WX.seq ?_
      refine WX.region rfl ?_
      refine WXL.assign Met.none rfl ?_
      refine WXL.nil ?_
      refine Fin.then_normal ?_
      refine WX.seq ?_
      refine WX.seq ?_
      refine WX.region rfl ?_
      refine WXL.assign Met.none rfl ?_
      refine WXL.nil ?_
      refine Fin.then_normal ?_
      refine WX.block ?_
      refine WX.loop (fun q : List Int × Option Addr × Nat × Objs => [(0, .slice a l.length c), (3, .slice ao xs.length co), (4, I (xs.length : Int)), (5, I n), (6, .slice q.2.1 q.1.length q.2.2.1), (7, I (q.1.length : Int))]) (fun q => q.2.2.2 ++ (G ++ (R ++ O))) (fun q => (q.1.length : Int) ≤ n.tmod 11 ∧ Bytes q.1 ∧ Grow 1 q.2.1 q.1.length q.2.2.1 (q.1.map B8) q.2.2.2) (fun q => 10 - q.1.length) ([], none, 0, []) ⟨by simp only [List.length_nil]; omega, fun x hx => by simp at hx, .nil⟩ (fun s hs => hs.tl [] 0) (fun q hq => ?_)
      obtain ⟨y, ay, cy, Gy⟩ := q
      obtain ⟨hy1, hyB, hGy⟩ := hq
      simp only at hy1 hyB hGy
      dsimp only
      refine WX.seq ?_
      refine WX.seq ?_
      refine WX.region rfl ?_
      refine WXL.move Met.none rfl ?_
      refine WXL.move Met.none rfl ?_
      refine WXL.rem Met.none rfl rfl (by omega) ?_
      refine WXL.bin Met.none rfl rfl rfl ?_
      refine WXL.nil ?_
      refine Fin.then_normal ?_
      refine WX.cond rfl (fun hc1 => ?_) (fun hc1 => ?_)
      · try simp only [cnd] at hc1
        refine WX.skip ?_
        refine Fin.then_normal ?_
        refine WX.seq ?_
        refine WX.block ?_
        refine WX.region rfl ?_
        refine WXL.move Met.none rfl ?_
        refine WXL.move Met.none rfl ?_
        refine WXL.qu Met.none rfl rfl ?_
        refine WXL.move Met.none rfl ?_
        refine WXL.move Met.none rfl ?_
        refine WXL.bin Met.none rfl rfl rfl ?_
        refine WXL.bin Met.none rfl rfl rfl ?_
        refine WXL.conv Met.none rfl Try.underlying3 Try.underlying5 rfl ?_
        refine WXL.buildSlice (c := [_]) Met.none rfl elem23 sz5 zero5 (by decide) (by decide) rfl rfl rfl rfl (fun b37 => ?_)
        refine WXL.apG [_] Met.none rfl rfl isrow23 elem23 sz5 by5 zero5 (Src.lit (cs := [_])) (fun a38 c38 G38 hG38 => ?_)
        refine WXL.assign Met.none rfl ?_
        refine WXL.nil ?_
        refine Fin.block_normal ?_
        refine Fin.then_normal ?_
        refine WX.region rfl ?_
        refine WXL.move Met.none rfl ?_
        refine WXL.bin Met.none rfl rfl bvA ?_
        refine WXL.assign Met.none rfl ?_
        refine WXL.nil ?_
        refine Fin.loop_next (y ++ [IntKind.wrap .u8 (IntKind.wrap .i64 (n.tdiv 11 + IntKind.wrap .i64 ((y.length : Int) * n)))], a38, c38, G38) ⟨by simp only [List.length_append, List.length_singleton]; omega, ?_, ?_⟩ (by simp only [List.length_append, List.length_singleton]; omega) ?_
        · intro z hz
          rcases List.mem_append.1 hz with q | q
          · exact hyB z q
          · rw [List.mem_singleton] at q; subst q; exact wrap8_lt _
        · simp only [List.length_append, List.length_singleton, List.map_append]; exact hG38
        · simp only [List.length_append, List.length_singleton]
          exact (fun s hs => hs.tl [] 1)
      · try simp only [cnd] at hc1
        refine WX.exit ?_
        refine Fin.then_exit ?_
        refine Fin.loop_exit ?_
        refine Fin.block_hit rfl ?_
        refine Fin.then_normal ?_
        refine WX.re (O' := G ++ (Gy ++ (R ++ O))) ?_
        refine WX.region rfl ?_
        refine WXL.move Met.none rfl ?_
        refine WXL.move Met.none rfl ?_
        refine WXL.buildSlice (c := [_]) Met.none rfl elem27 sz23 zero23 (by decide) (by decide) rfl rfl rfl rfl (fun b41 => ?_)
        refine WXL.apG [_] Met.none rfl rfl isrow27 elem27 sz23 by23 zero23 (Src.lit (cs := [_])) (fun a42 c42 G42 hG42 => ?_)
        refine WXL.assign Met.none rfl ?_
        refine WXL.nil ?_
        refine Fin.block_normal ?_
        refine Fin.then_normal ?_
        refine WX.region rfl ?_
        refine WXL.move Met.none rfl ?_
        refine WXL.bin Met.none rfl rfl bvA ?_
        refine WXL.assign Met.none rfl ?_
        refine WXL.nil ?_
        refine Fin.loop_next (⟨xs ++ [y], a42, c42, vs ++ [.slice ay y.length cy], G42, Gy ++ R⟩ : RcQ) ⟨by simp only [List.length_append, List.length_singleton]; omega, ?_, ?_, ?_, ?_⟩ (by simp only [List.length_append, List.length_singleton]; omega) ?_
        · simp only [List.length_append, List.length_singleton]; exact hG42
        · simp only
          exact hvs.app.snoc ⟨ay, cy, rfl, hGy.src⟩
        · simp only [List.length_append, List.length_singleton]; omega
        · intro x hx
          rcases List.mem_append.1 hx with q | q
          · exact hR2 x q
          · rw [List.mem_singleton] at q; subst q; exact ⟨hyB, by omega⟩
        · simp only [List.length_append, List.length_singleton, List.append_assoc]
          exact (fun s hs => hs.tl [] 1)
    · try simp only [cnd] at hc0
      refine WX.exit ?_
      refine Fin.then_exit ?_
      refine Fin.loop_exit ?_
      refine Fin.block_hit rfl ?_
      refine Fin.then_normal ?_
      refine WX.seq ?_
      refine WX.region rfl ?_
      refine WXL.move Met.none rfl ?_
      refine WXL.assign Met.none rfl ?_
      refine WXL.nil ?_
      refine Fin.then_normal ?_
      refine WX.ret ?_
      exact Fin.result (O' := G ++ (R ++ O)) (.inr rfl) rfl rfl sub_ ⟨xs, ao, co, vs, G, R, rfl, hG, hvs, ⟨hR1, hR2⟩, rfl⟩
  · try simp only [cnd] at hg12
    refine WXL.miss (j := 4) (d := 12) rfl rfl rfl ?_
    refine WXL.miss (j := 4) (d := 12) rfl rfl rfl ?_
    refine WXL.pick_f Met.none rfl rfl ?_
    refine WXL.nil ?_
    refine Fin.then_normal ?_
    refine WX.cond rfl (fun hc0 => nomatch hc0) (fun hc0 => ?_)
    refine WX.exit ?_
    refine Fin.then_exit ?_
    refine Fin.loop_exit ?_
    refine Fin.block_hit rfl ?_
    refine Fin.then_normal ?_
    refine WX.seq ?_
    refine WX.region rfl ?_
    refine WXL.move Met.none rfl ?_
    refine WXL.assign Met.none rfl ?_
    refine WXL.nil ?_
    refine Fin.then_normal ?_
    refine WX.ret ?_
    exact Fin.result (O' := G ++ (R ++ O)) (.inr rfl) rfl rfl sub_ ⟨xs, ao, co, vs, G, R, rfl, hG, hvs, ⟨hR1, hR2⟩, rfl⟩

theorem mkRecords_ok (O : Objs) (l : List Int) (a : Option Addr) (c : Nat) (hl64 : ∀ n ∈ l, In64 n) (hlen : Short l) (hl : Src O 1 (.slice a l.length c) l.length (l.map I)) :
    Spec Try.prog false 14 #[.slice a l.length c] O fun v O' => ∃ xs ao co vs G R, v = .slice ao xs.length co ∧ Grow 1 ao xs.length co vs G ∧ AreB (R ++ O) vs xs ∧ Recs xs ∧ O' = G ++ (R ++ O) :=
  (mkRecords_own O l a c hl64 hlen hl).mono fun v O' ⟨xs, ao, co, vs, G, R, h1, h2, h3, h4, h5⟩ => ⟨xs, ao, co, vs, G, R, h1, h2, h3.right, h4, h5⟩

end Go.Proofs.Ythekokdpplobhaa.Eng

set_option linter.unusedVariables false
set_option linter.unusedSimpArgs false
namespace Go.Proofs.Ythekokdpplobhaa.Eng

theorem Src.row1 {O : Objs} {b n c : Nat} {r : Bool} {cs : List Value} (hl : cs.length = n) : Src ((b, ⟨1, r, cs⟩) :: O) 1 (.slice (some ⟨b, 0, none⟩) n c) n cs :=
  Src.of (y := ⟨1, r, cs⟩) (Knows.at 0 rfl) (by show 0 + n * 1 ≤ cs.length; omega) (by show (cs.drop 0).take (n * 1) = cs; rw [Nat.mul_one, List.drop_zero, ← hl, List.take_length])

theorem byte_of {n : Int} (h : 0 ≤ n ∧ n ≤ 255) : 0 ≤ n ∧ n < 256 := ⟨h.1, by have := h.2; omega⟩

theorem bytes_of {l : List Int} (h : ∀ n ∈ l, 0 ≤ n ∧ n ≤ 255) : Bytes l := fun n hn => ⟨(h n hn).1, by have := (h n hn).2; omega⟩

theorem varU_pos (n : Nat) : 0 < (varU n).length := by
  rw [varU]; split <;> simp

theorem rawB_pos (x : List Int) : x.length < (rawB x).length := by
  unfold rawB
  have := varU_pos x.length
  rw [List.length_append]
  omega

theorem frameB_four (i : Int) (x : List Int) : x.length + 4 ≤ (frameB i x).length := by
  unfold frameB
  rw [List.length_append]
  have h1 := rawB_pos (coreB i x)
  have h2 := varU_pos (hashB lblF (coreB i x)).toNat
  have h3 := rawB_pos x
  have h4 := varU_pos (zigU i).toNat
  have h5 : (coreB i x).length = (varU (zigU i).toNat).length + (rawB x).length := by unfold coreB; rw [List.length_append]
  omega

theorem core07 : coreB 0 [7] = [0, 1, 7] := by
  unfold coreB rawB
  have h1 : (zigU 0).toNat = 0 := rfl
  rw [h1, varU_lt (by decide), varU_lt (by decide)]
  rfl

theorem scan_short (i : Nat) {b : List Int} (h : b.length < 4) : scanP i b = ([], 0) := by
  rw [scanP, dif_neg]
  rintro ⟨_, h2⟩
  have := h2.length_le
  have := frameB_four i (recordP b)
  omega

theorem recs07 : recsP (frameB 0 [7] ++ [3, 0, 1]) = [[7]] ∧ endP (frameB 0 [7] ++ [3, 0, 1]) 1 = (frameB 0 [7]).length := by
  have h := scanP_frames [3, 0, 1] [[7]] 0 (by decide) (by intro x hx; simp at hx; subst hx; decide)
  have e : framesB 0 [[7]] = frameB 0 [7] := by rw [framesB_cons]; show _ ++ [] = _; rw [List.append_nil]; rfl
  have h0 : scanP (0 + ([[7]] : List (List Int)).length) [3, 0, 1] = ([], 0) := scan_short _ (by decide)
  rw [e, h0] at h
  have h1 : recsP (frameB 0 [7] ++ [3, 0, 1]) = [[7]] := by unfold recsP; rw [h]; rfl
  refine ⟨h1, ?_⟩
  unfold endP
  rw [h1]
  show (framesB 0 [[7]]).length = _
  rw [e]

theorem frame07 : 4 < (frameB 0 [7]).length := frameB_four 0 [7]

theorem lives_ok (O : Objs) : Spec Try.prog false 18 #[] O fun v O' => v = .bool true ∧ O' = O := by
  have hf7 := frame07
  have hfl : (frameB 0 [7]).length ≤ 100 := by
    unfold frameB
    rw [List.length_append]
    have h1 := rawB_len (b := coreB 0 [7]) (by rw [core07]; decide)
    have h2 := hashB_range lblF (coreB 0 [7])
    have h3 := varU_len (k := 9) (n := (hashB lblF (coreB 0 [7])).toNat) (by unfold InU at h2; omega)
    rw [core07] at *
    simp only [List.length_cons, List.length_nil] at h1
    omega
  have hhr := hashB_range lblF [0, 1, 7]
  have hB7 : Bytes [7] := by intro x hx; simp at hx; omega
  have hB017 : Bytes [0, 1, 7] := by intro x hx; simp at hx; omega
  have hBl : Bytes lblF := by unfold lblF; intro x hx; simp at hx; omega
  have hrl := rawB_len (b := [0, 1, 7]) (by decide)
  have hfe : rawB [0, 1, 7] ++ varU (hashB lblF [0, 1, 7]).toNat = frameB 0 [7] := by unfold frameB; rw [core07]
  obtain ⟨hr1, hr2⟩ := recs07
  simp only [List.length_cons, List.length_nil] at hrl
  refine Spec.enter (args := []) (m := 40) Try.func18 rfl rfl (by decide +kernel) fun h0 => ?_
  refine WX.seq ?_
  refine WX.region rfl ?_
  refine WXL.assign Met.none rfl ?_
  refine WXL.nil ?_
  refine Fin.then_normal ?_
  refine WX.seq ?_
  refine WX.region rfl ?_
  refine WXL.buildSlice (c := [_]) Met.none rfl elem23 sz5 zero5 (by decide) (by decide) rfl rfl rfl rfl (fun b6 => ?_)
  refine WXL.cl (O1 := _) Met.none rfl (fnOk_of Try.func12 (by decide +kernel)) rfl (fun _ h => h) (frame_ok _ 0 [7] (some ⟨b6, 0, none⟩) 1 (by unfold In64; decide) hB7 (by decide) (Src.lit)) (fun v O' hp => ?_)
  obtain ⟨a1, c1, G1, rfl, hG1, rfl⟩ := hp
  refine WXL.assign Met.none rfl ?_
  refine WXL.nil ?_
  refine Fin.then_normal ?_
  refine WX.seq ?_
  refine WX.region rfl ?_
  refine WXL.alloc (c := [_]) Met.none zero37 rfl (fun b2 => ?_)
  refine WXL.nil ?_
  refine Fin.then_normal ?_
  refine WX.seq ?_
  refine WX.region rfl ?_
  refine WXL.buildSlice (c := [_, _, _]) Met.none rfl elem23 sz5 zero5 (by decide) (by decide) rfl rfl rfl rfl (fun b8 => ?_)
  refine WXL.cl (O1 := (b2, ⟨0, false, [.slice none 0 0]⟩) :: ([] ++ ((b8, ⟨1, false, [B8 0, B8 1, B8 7]⟩) :: (G1 ++ ((b6, ⟨1, false, [B8 7]⟩) :: O))))) Met.none rfl (fnOk_of Try.func21 (by decide +kernel)) rfl (fun _ hs => hs.tl [1, 0] 2) (wRaw_ok _ [] b2 [] [0, 1, 7] none (some ⟨b8, 0, none⟩) 0 3 hB017 (by decide) (by decide) .nil (Src.lit)) (fun v O' hp => ?_)
  obtain ⟨a2, c2, G2, hG2, rfl⟩ := hp
  rw [show [] ++ (varU ([0, 1, 7] : List Int).length ++ [0, 1, 7]) = rawB [0, 1, 7] from rfl] at hG2 ⊢
  refine WXL.nil ?_
  refine Fin.then_normal ?_
  refine WX.seq ?_
  refine WX.region rfl ?_
  refine WXL.buildSlice (c := [_, _, _]) Met.none rfl elem23 sz5 zero5 (by decide) (by decide) rfl rfl rfl rfl (fun b10 => ?_)
  refine WXL.cl (O1 := _) Met.none rfl (fnOk_of Try.func28 (by decide +kernel)) rfl (fun _ h => h) (hash_ok _ lblF [0, 1, 7] (some ⟨b10, 0, none⟩) 3 hBl hB017 (by decide) (by decide) (Src.lit)) (fun v O' hp => ?_)
  obtain ⟨rfl, hO⟩ := hp
  subst O'
  rw [show U (hashB lblF [0, 1, 7]) = U (((hashB lblF [0, 1, 7]).toNat : Nat) : Int) from by rw [Int.toNat_of_nonneg hhr.1]]
  refine WXL.cl (O1 := (b2, ⟨0, false, [.slice a2 (rawB [0, 1, 7]).length c2]⟩) :: (G2 ++ (G1 ++ O))) Met.none rfl (fnOk_of Try.func23 (by decide +kernel)) rfl sub_ (wUint_ok _ G2 b2 (rawB [0, 1, 7]) a2 c2 (hashB lblF [0, 1, 7]).toNat (by unfold InU at hhr; omega) (by omega) hG2) (fun v O' hp => ?_)
  obtain ⟨a3, c3, G3, hG3, rfl⟩ := hp
  rw [hfe] at hG3 ⊢
  refine WXL.nil ?_
  refine Fin.then_normal ?_
  refine WX.seq ?_
  refine WX.region rfl ?_
  refine WXL.move Met.none rfl ?_
  refine WXL.len Met.none rfl Try.underlying23 ?_
  refine WXL.assign Met.none rfl ?_
  refine WXL.nil ?_
  refine Fin.then_normal ?_
  refine WX.seq ?_
  refine WX.region rfl ?_
  refine WXL.move Met.none rfl ?_
  refine WXL.buildSlice (c := [_, _, _]) Met.none rfl elem23 sz5 zero5 (by decide) (by decide) rfl rfl rfl rfl (fun b17 => ?_)
  refine WXL.appendS (_ :: _ :: G3) Met.none rfl rfl isrow23 elem23 sz5 by5 zero5 (Src.lit (cs := [_, _, _])) (fun o18 b18 ha18 => ?_)
  have hsl : (frameB 0 [7]).length + 3 = (frameB 0 [7] ++ [3, 0, 1]).length := by rw [List.length_append]; rfl
  subst ha18
  rw [hsl]
  refine WXL.cl (O1 := _) Met.none rfl (fnOk_of Try.func15 (by decide +kernel)) rfl (fun _ h => h) (scan_ok _ (frameB 0 [7] ++ [3, 0, 1]) (some ⟨b18, 0, none⟩) _ (fun x hx => by
  rcases List.mem_append.1 hx with q | q
  · exact frameB_bytes hB7 x q
  · simp at q; omega) (by rw [← hsl]; omega) (.inr ⟨b18, 0, _, rfl, Knows.at 0 rfl, rfl, by rw [← hsl]; simp, by
    rw [← hsl]
    show (List.map B8 (frameB 0 [7]) ++ [B8 3, B8 0, B8 1]).take (((frameB 0 [7]).length + 3) * 1) = _
    rw [List.take_of_length_le (by simp), List.map_append]
    rfl⟩) (fun q => by cases q)) (fun v O' hp => ?_)
  obtain ⟨ao, co, ws, Go, Ro, rfl, hGo, hRo, rfl⟩ := hp
  rw [hr1] at hGo hRo ⊢
  refine WXL.move Met.none rfl ?_
  refine WXL.extract Met.none rfl rfl ?_
  refine WXL.extract Met.none rfl rfl ?_
  refine WXL.assign Met.none rfl ?_
  refine WXL.assign Met.none rfl ?_
  refine WXL.nil ?_
  refine Fin.then_normal ?_
  refine WX.seq ?_
  refine WX.region rfl ?_
  refine WXL.move Met.none rfl ?_
  refine WXL.cl (O1 := _) Met.none rfl (fnOk_of Try.func22 (by decide +kernel)) rfl (fun _ h => h) (done_ok _ G3 b2 (frameB 0 [7]) a3 c3 (by omega) hG3 (Src.app (Src.app (Src.cons (Src.cons (Src.cons hG3.src))))) (Knows.app (Knows.app (Knows.cons (Knows.cons (Knows.at 0 rfl)))))) (fun v O' hp => ?_)
  obtain ⟨a4, c4, G4, rfl, hG4, rfl⟩ := hp
  refine WXL.cl (O1 := _) Met.none rfl (fnOk_of Try.func11 (by decide +kernel)) rfl (fun _ h => h) (sameB_ok _ (frameB 0 [7]) (frameB 0 [7]) (some ⟨o18, 0, none⟩) a4 c1 c4 (by unfold Short; omega) (Src.app (Src.app (Src.app (Src.cons (Src.cons (Src.cons (Src.app (Src.row1 (by simp))))))))) hG4.src) (fun v O' hp => ?_)
  obtain ⟨rfl, hO⟩ := hp
  subst O'
  refine WXL.move Met.none rfl ?_
  refine WXL.split (d := 25) rfl (fun hg25 => ?_) (fun hg25 => ?_)
  · try simp only [cnd] at hg25
    refine WXL.move (Met.some rfl rfl rfl) rfl ?_
    refine WXL.bin (Met.some rfl rfl rfl) rfl rfl rfl ?_
    refine WXL.pick_t Met.none rfl rfl ?_
    refine WXL.move Met.none rfl ?_
    refine WXL.split (d := 29) rfl (fun hg29 => ?_) (fun hg29 => ?_)
    · try simp only [cnd] at hg29
      refine WXL.move (Met.some rfl rfl rfl) rfl ?_
      refine WXL.move (Met.some rfl rfl rfl) rfl ?_
      refine WXL.bin (Met.some rfl rfl rfl) rfl rfl rfl ?_
      refine WXL.pick_t Met.none rfl rfl ?_
      refine WXL.move Met.none rfl ?_
      refine WXL.split (d := 34) rfl (fun hg34 => ?_) (fun hg34 => ?_)
      · try simp only [cnd] at hg34
        refine WXL.move (Met.some rfl rfl rfl) rfl ?_
        refine WXL.buildSlice (c := [_]) (Met.some rfl rfl rfl) rfl elem23 sz5 zero5 (by decide) (by decide) rfl rfl rfl rfl (fun b36 => ?_)
        refine WXL.buildSlice (c := [_]) (Met.some rfl rfl rfl) rfl elem27 sz23 zero23 (by decide) (by decide) rfl rfl rfl rfl (fun b37 => ?_)
        refine WXL.cl (O1 := _) (Met.some rfl rfl rfl) rfl (fnOk_of Try.func17 (by decide +kernel)) rfl (fun _ h => h) (sameLists_ok _ [[7]] [[7]] ws [.slice (some ⟨b36, 0, none⟩) 1 1] ao (some ⟨b37, 0, none⟩) co 1 (by decide) (by intro x hx; simp at hx; subst hx; decide) (Src.cons (Src.cons (Src.app hGo.src))) (Src.lit) hRo.app.app.cons.cons ⟨rfl, fun k hk => by
        have : k = 0 := by simp at hk; omega
        subst this
        exact ⟨some ⟨b36, 0, none⟩, 1, rfl, Src.cons (Src.lit)⟩⟩) (fun v O' hp => ?_)
        obtain ⟨bx, rfl, hbx, rfl⟩ := hp
        rw [decide_eq_true rfl] at hbx
        subst hbx
        refine WXL.pick_t Met.none rfl rfl ?_
        refine WXL.assign Met.none rfl ?_
        refine WXL.nil ?_
        refine Fin.then_normal ?_
        refine WX.ret ?_
        exact Fin.result (O' := O) (.inr rfl) rfl rfl sub_ ⟨rfl, rfl⟩
      · try simp only [cnd] at hg34
        exact absurd hg34 (by have := hr2; simp only [List.length_cons, List.length_nil, Nat.zero_add]; omega) --end
    · try simp only [cnd] at hg29
      exact absurd hg29 (by omega) --end
  · try simp only [cnd] at hg25
    exact (by simp at hg25) --end

end Go.Proofs.Ythekokdpplobhaa.Eng

set_option linter.unusedVariables false
set_option linter.unusedSimpArgs false
namespace Go.Proofs.Ythekokdpplobhaa.Eng

theorem framesB_snoc (i : Nat) (l : List (List Int)) (x : List Int) : framesB i (l ++ [x]) = framesB i l ++ frameB ((i + l.length : Nat) : Int) x := by
  rw [framesB_append, framesB_cons]
  show _ ++ (_ ++ []) = _
  rw [List.append_nil]

theorem frameB_len {i : Int} {x : List Int} (hi : In64 i) (hx : x.length ≤ 1000) : (frameB i x).length ≤ x.length + 50 := by
  unfold frameB
  rw [List.length_append]
  have h0 := coreB_len hi (b := x) (by omega)
  have h1 := rawB_len (b := coreB i x) (by omega)
  have h2 := hashB_range lblF (coreB i x)
  have h3 := varU_len (k := 9) (n := (hashB lblF (coreB i x)).toNat) (by unfold InU at h2; omega)
  omega

theorem framesB_le : ∀ (l : List (List Int)) (i : Nat), i + l.length ≤ 1000000 → (∀ x ∈ l, x.length ≤ 200) → (framesB i l).length ≤ 250 * l.length
  | [], _, _, _ => Nat.zero_le _
  | x :: l, i, hi, hl => by
    simp only [List.length_cons] at hi
    have h1 := framesB_le l (i + 1) (by omega) fun y hy => hl y (List.mem_cons_of_mem _ hy)
    have h2 := hl x (List.mem_cons_self ..)
    have h3 := frameB_len (i := (i : Int)) (x := x) (by unfold In64; omega) (by omega)
    rw [framesB_cons, List.length_append, List.length_cons]
    omega

theorem framesB_bytes : ∀ (l : List (List Int)) (i : Nat), (∀ x ∈ l, Bytes x) → Bytes (framesB i l)
  | [], _, _ => fun x hx => by simp [framesB] at hx
  | y :: l, i, h => fun x hx => by
    rw [framesB_cons] at hx
    rcases List.mem_append.1 hx with q | q
    · exact frameB_bytes (h y (List.mem_cons_self ..)) x q
    · exact framesB_bytes l (i + 1) (fun z hz => h z (List.mem_cons_of_mem _ hz)) x q

theorem framesB_mem : ∀ (l : List (List Int)) (i : Nat) (x : List Int), x ∈ l → x.length ≤ (framesB i l).length
  | [], _, _, h => by simp at h
  | y :: l, i, x, h => by
    rw [framesB_cons, List.length_append]
    rcases List.mem_cons.1 h with rfl | h
    · have := frameB_four (i : Int) x
      omega
    · have := framesB_mem l (i + 1) x h
      omega

theorem recsP_mem {b x : List Int} (h : x ∈ recsP b) : x.length ≤ b.length := Nat.le_trans (framesB_mem _ 0 x h) (scanP_len b 0).2.length_le

theorem take_bytes {l : List Int} {k : Nat} (h : Bytes l) : Bytes (l.take k) := fun x hx => h x (List.mem_of_mem_take hx)

end Go.Proofs.Ythekokdpplobhaa.Eng

set_option linter.unusedVariables false
set_option linter.unusedSimpArgs false
set_option maxRecDepth 4000
namespace Go.Proofs.Ythekokdpplobhaa.Eng

/-- What is known of the objects is told anew in the middle of a region. -/
theorem WXL.re {P : Program} {x : Cx} {ops : Array Oper} {mq : Mk} {i : Nat} {l : List Oper} {L : Tmps} {O O' : Objs} {K : ASt → Prop} (h : WXL P x ops mq i l L O' K) (hs : ∀ g, Sat g O → Sat g O' := by exact sub_) (hq : x.q = false := by exact rfl) : WXL P x ops mq i l L O K :=
  fun a b s hst hz => h a b s ⟨hst.m, hst.t, hs _ hst.sat, fun q => by rw [hq] at q; cases q⟩ hz

/-- A file: its bytes, how many of them are durable. -/
structure Fi where
  bs : List Int
  d : Int

def FileOk (R : Objs) (v : Value) (f : Fi) : Prop := ∃ a c, v = fileV a f.bs.length c f.d ∧ Rowy R 1 a f.bs.length (f.bs.map B8) ∧ (a = none → c = 0) ∧ Bytes f.bs

inductive FRel (R : Objs) : List (Int × Value) → List (Int × Fi) → Prop
  | nil : FRel R [] []
  | cons {k v f m fs} : FileOk R v f → FRel R m fs → FRel R ((k, v) :: m) ((k, f) :: fs)

def used : List (Int × Fi) → Int
  | [] => 0
  | e :: l => (e.2.bs.length : Int) + used l

theorem used_nn : ∀ fs, 0 ≤ used fs
  | [] => Int.le_refl _
  | e :: l => by
    have := used_nn l
    unfold used
    omega

variable {R : Objs}

theorem FileOk.app {N : Objs} {v : Value} {f : Fi} (h : FileOk R v f) : FileOk (N ++ R) v f := by
  obtain ⟨a, c, h1, h2, h3⟩ := h
  exact ⟨a, c, h1, h2.app, h3⟩
theorem FRel.app {N : Objs} {m : List (Int × Value)} {fs : List (Int × Fi)} (h : FRel R m fs) : FRel (N ++ R) m fs := by
  induction h with
  | nil => exact .nil
  | cons h1 _ ih => exact .cons h1.app ih

theorem FRel.get {m : List (Int × Value)} {fs : List (Int × Fi)} (h : FRel R m fs) (k : Int) : (mget k m = none ∧ mget k fs = none) ∨ ∃ v f, mget k m = some v ∧ mget k fs = some f ∧ FileOk R v f := by
  induction h with
  | nil => exact .inl ⟨rfl, rfl⟩
  | @cons k' v f m fs h1 _ ih =>
    simp only [mget]
    by_cases q : k = k'
    · rw [if_pos q, if_pos q]; exact .inr ⟨v, f, rfl, rfl, h1⟩
    · rw [if_neg q, if_neg q]; exact ih

theorem FRel.put {m : List (Int × Value)} {fs : List (Int × Fi)} (h : FRel R m fs) (k : Int) {v : Value} {f : Fi} (hv : FileOk R v f) : FRel R (mput k v m) (mput k f fs) := by
  induction h with
  | nil => exact .cons hv .nil
  | @cons k' v' f' m fs h1 h2 ih =>
    simp only [mput]
    by_cases q : k = k'
    · rw [if_pos q, if_pos q]; exact .cons hv h2
    · rw [if_neg q, if_neg q]; exact .cons h1 ih

theorem FRel.del {m : List (Int × Value)} {fs : List (Int × Fi)} (h : FRel R m fs) (k : Int) : FRel R (mdel k m) (mdel k fs) := by
  induction h with
  | nil => exact .nil
  | @cons k' v' f' m fs h1 h2 ih =>
    simp only [mdel]
    by_cases q : k = k'
    · rw [if_pos q, if_pos q]; exact h2
    · rw [if_neg q, if_neg q]; exact .cons h1 ih

theorem FRel.keys {m : List (Int × Value)} {fs : List (Int × Fi)} (h : FRel R m fs) : m.map (·.1) = fs.map (·.1) := by
  induction h with
  | nil => rfl
  | cons _ _ ih => rw [List.map_cons, List.map_cons, ih]

def Fi.hard (f : Fi) : Fi := ⟨f.bs, f.bs.length⟩
def hardAll (fs : List (Int × Fi)) : List (Int × Fi) := fs.map fun e => (e.1, e.2.hard)

theorem FRel.hard {m : List (Int × Value)} {fs : List (Int × Fi)} (h : FRel R m fs) : FRel R (m.map fun e => (e.1, Eng.hard e.2)) (hardAll fs) := by
  induction h with
  | nil => exact .nil
  | cons h1 _ ih =>
    obtain ⟨a, c, rfl, h2, h3⟩ := h1
    exact .cons ⟨a, c, rfl, h2, h3⟩ ih

theorem MapX.hard_kv (mx : MapX) : mx.hard.kv = mx.kv.map fun e => (e.1, Eng.hard e.2) := by
  unfold MapX.hard MapX.kv
  simp only [List.map_map]
  rfl

theorem FRel.file {m : List (Int × Value)} {fs : List (Int × Fi)} (h : FRel R m fs) : ∀ e ∈ m, IsFile e.2 := by
  induction h with
  | nil => intro e he; simp at he
  | cons h1 _ ih =>
    intro e he
    rcases List.mem_cons.1 he with rfl | he
    · obtain ⟨a, c, h2, _⟩ := h1; exact ⟨a, _, c, _, h2⟩
    · exact ih e he

theorem FRel.lens {mx : MapX} {fs : List (Int × Fi)} (h : FRel R mx.kv fs) : Eng.lens mx.es = used fs := by
  obtain ⟨ck, es⟩ := mx
  unfold MapX.kv at h
  simp only at h ⊢
  induction es generalizing fs with
  | nil => cases h; rfl
  | cons e es ih =>
    rw [List.map_cons] at h
    cases h with
    | cons h1 h2 =>
      obtain ⟨a, c, h3, _⟩ := h1
      simp only [Eng.lens, used]
      rw [ih h2, h3, flen_file]

theorem isfile_es {mx : MapX} (h : ∀ e ∈ mx.kv, IsFile e.2) : ∀ e ∈ mx.es, IsFile e.2.2 := fun e he => h (e.1, e.2.2) (List.mem_map.2 ⟨e, he, rfl⟩)
theorem keys_es (mx : MapX) : mx.es.map (·.1) = mx.kv.map (·.1) := by
  unfold MapX.kv
  rw [List.map_map]; rfl

/-! ### Keys -/
theorem mput_mem {α : Type} {k : Int} {u : α} {x : Int} : ∀ {m : List (Int × α)}, x ∈ (mput k u m).map (·.1) → x = k ∨ x ∈ m.map (·.1)
  | [], h => by simp [mput] at h; exact .inl h
  | (n, v) :: m, h => by
    simp only [mput] at h
    split at h
    · rename_i q
      simp only [List.map_cons, List.mem_cons] at h ⊢
      rcases h with h | h
      · exact .inl h
      · exact .inr (.inr h)
    · simp only [List.map_cons, List.mem_cons] at h ⊢
      rcases h with h | h
      · exact .inr (.inl h)
      · exact (mput_mem h).imp id .inr

theorem mput_nd {α : Type} {k : Int} {u : α} : ∀ {m : List (Int × α)}, (m.map (·.1)).Nodup → ((mput k u m).map (·.1)).Nodup
  | [], _ => by simp [mput]
  | (n, v) :: m, h => by
    simp only [List.map_cons, List.nodup_cons] at h
    simp only [mput]
    split
    · rename_i q
      subst q
      simp only [List.map_cons, List.nodup_cons]
      exact h
    · rename_i q
      simp only [List.map_cons, List.nodup_cons]
      refine ⟨fun hm => ?_, mput_nd h.2⟩
      rcases mput_mem hm with e | e
      · exact q e.symm
      · exact h.1 e

theorem mdel_sub {α : Type} {k : Int} : ∀ {m : List (Int × α)}, (mdel k m).Sublist m
  | [] => List.Sublist.slnil
  | (n, v) :: m => by
    simp only [mdel]
    split
    · exact List.sublist_cons_self _ _
    · exact mdel_sub.cons_cons _

theorem mdel_nd {α : Type} {k : Int} {m : List (Int × α)} (h : (m.map (·.1)).Nodup) : ((mdel k m).map (·.1)).Nodup := (mdel_sub.map _).nodup h

/-- A disk's map is these files. -/
structure DI (R : Objs) (mx : MapX) (fs : List (Int × Fi)) : Prop where
  rel : FRel R mx.kv fs
  nd : (fs.map (·.1)).Nodup

theorem DI.app {N : Objs} {mx : MapX} {fs : List (Int × Fi)} (h : DI R mx fs) : DI (N ++ R) mx fs := ⟨h.rel.app, h.nd⟩

def setF (fs : List (Int × Fi)) (k : Int) (f : Fi) : List (Int × Fi) := if f.bs = [] then mdel k (mput k f fs) else mput k f fs
def setX (mx : MapX) (k : Int) (v : Value) (n : Nat) : MapX := if n = 0 then (mx.put k v).del k else mx.put k v

theorem DI.set {mx : MapX} {fs : List (Int × Fi)} (h : DI R mx fs) (k : Int) {v : Value} {f : Fi} (hv : FileOk R v f) : DI R (setX mx k v f.bs.length) (setF fs k f) := by
  unfold setX setF
  by_cases q : f.bs = []
  · rw [if_pos (by rw [q]; rfl), if_pos q]
    refine ⟨?_, mdel_nd (mput_nd h.nd)⟩
    rw [MapX.kv_del, MapX.kv_put]
    exact (h.rel.put k hv).del k
  · rw [if_neg (fun e => q (List.length_eq_zero_iff.1 e)), if_neg q]
    refine ⟨?_, mput_nd h.nd⟩
    rw [MapX.kv_put]
    exact h.rel.put k hv

theorem DI.hard {mx : MapX} {fs : List (Int × Fi)} (h : DI R mx fs) : DI R mx.hard (hardAll fs) := ⟨by rw [MapX.hard_kv]; exact h.rel.hard, by
  unfold hardAll
  rw [List.map_map]
  exact h.nd⟩

/-- What a file that is not there reads as. -/
def getF (fs : List (Int × Fi)) (k : Int) : Fi := (mget k fs).getD ⟨[], 0⟩
theorem DI.get {mx : MapX} {fs : List (Int × Fi)} (h : DI R mx fs) (k : Int) : FileOk R ((mget k mx.kv).getD (fileV none 0 0 0)) (getF fs k) := by
  unfold getF
  rcases h.rel.get k with ⟨h1, h2⟩ | ⟨v, f, h1, h2, h3⟩
  · rw [h1, h2]; exact ⟨none, 0, rfl, .inl ⟨rfl, rfl, rfl⟩, fun _ => rfl, fun x hx => by simp at hx⟩
  · rw [h1, h2]; exact h3

theorem DI.new : DI R MapX.new [] := ⟨.nil, by simp⟩

theorem Rowy.inc {R0 : Objs} {sz : Nat} {a : Option Addr} {n : Nat} {cs : List Value} (h : Rowy R0 sz a n cs) (hi : ∀ g, Sat g R → Sat g R0) : Rowy R sz a n cs := by
  rcases h with h | ⟨b, off, y, h1, h2, h3⟩
  · exact .inl h
  · exact .inr ⟨b, off, y, h1, fun g hg => h2 g (hi g hg), h3⟩

/-! ### Disks -/
structure Dk where
  room : Int
  off : Bool
  armed : Bool
  left : Int
  fs : List (Int × Fi)

/-- A step: does it succeed, and the disk then. -/
def stepD (D : Dk) : Bool × Dk :=
  if D.armed = false then (true, D)
  else if D.left - 1 < 0 then (false, { D with off := true, armed := false, left := D.left - 1 })
  else (!D.off, { D with left := D.left - 1 })

def readD (D : Dk) (n : Int) : List Int × Int :=
  if ¬ (0 ≤ n ∧ n < 64) then ([], 1) else if D.off = true then ([], 23) else ((getF D.fs n).bs, 0)

def appD1 (D : Dk) (n : Int) (b : List Int) : Dk := { D with fs := setF D.fs n ⟨(getF D.fs n).bs ++ b, (getF D.fs n).d⟩ }
def appendD (D : Dk) (n : Int) (b : List Int) : Int × Dk :=
  if ¬ (0 ≤ n ∧ n < 64) then (1, D) else if D.off = true then (23, D) else if (b.length : Int) > D.room - used D.fs then (22, D)
  else (if (stepD (appD1 D n b)).1 = true then 0 else 23, (stepD (appD1 D n b)).2)

def syncD (D : Dk) : Int × Dk :=
  if D.off = true then (23, D) else if (stepD D).1 = false then (23, (stepD D).2) else (0, { (stepD D).2 with fs := hardAll (stepD D).2.fs })

def truncD (D : Dk) (n size : Int) : Int × Dk :=
  if ¬ (0 ≤ n ∧ n < 64) ∨ size < 0 ∨ size > ((getF D.fs n).bs.length : Int) then (1, D)
  else if D.off = true then (23, D) else if (stepD D).1 = false then (23, (stepD D).2)
  else (0, { (stepD D).2 with fs := setF D.fs n ⟨(getF D.fs n).bs.take size.toNat, min (getF D.fs n).d size⟩ })

/-- A disk among the objects: its two own ones, and behind them all else. -/
abbrev dkO (d bm : Nat) (D : Dk) (mx : MapX) (R : Objs) : Objs := (d, ⟨0, false, dObj bm D.room D.off D.armed D.left⟩) :: (bm, ⟨2, false, mcells mx⟩) :: R

/-- A file that is there: its number, not empty, so many durable bytes. -/
def FiOk (e : Int × Fi) : Prop := (0 ≤ e.1 ∧ e.1 < 64) ∧ e.2.bs ≠ [] ∧ 0 ≤ e.2.d ∧ e.2.d ≤ e.2.bs.length

structure DkI (R : Objs) (D : Dk) (mx : MapX) : Prop where
  di : DI R mx D.fs
  ok : ∀ e ∈ D.fs, FiOk e
  room : 0 ≤ D.room ∧ D.room ≤ 16777216
  left : D.armed = true → 0 ≤ D.left ∧ D.left < 9223372036854775808
  used : used D.fs ≤ D.room

theorem stepD_fs (D : Dk) : (stepD D).2.fs = D.fs ∧ (stepD D).2.room = D.room := by
  unfold stepD
  split
  · exact ⟨rfl, rfl⟩
  · split <;> exact ⟨rfl, rfl⟩

theorem stepD_left {D : Dk} (h : D.armed = true → 0 ≤ D.left ∧ D.left < 9223372036854775808) : (stepD D).2.armed = true → 0 ≤ (stepD D).2.left ∧ (stepD D).2.left < 9223372036854775808 := by
  unfold stepD
  split
  · exact h
  · rename_i q
    split
    · intro q2; simp at q2
    · intro q2
      have := h (by simpa using q)
      simp only
      omega

theorem DkI.step {D : Dk} {mx : MapX} (h : DkI R D mx) : DkI R (stepD D).2 mx := by
  obtain ⟨h1, h2⟩ := stepD_fs D
  exact ⟨by rw [h1]; exact h.di, by rw [h1]; exact h.ok, by rw [h2]; exact h.room, stepD_left h.left, by rw [h1, h2]; exact h.used⟩

theorem DkI.app {N : Objs} {D : Dk} {mx : MapX} (h : DkI R D mx) : DkI (N ++ R) D mx := ⟨h.di.app, h.ok, h.room, h.left, h.used⟩
theorem DI.cons {q : Nat × Ent} {mx : MapX} {fs : List (Int × Fi)} (h : DI R mx fs) : DI (q :: R) mx fs := h.app (N := [q])
theorem DkI.cons {q : Nat × Ent} {D : Dk} {mx : MapX} (h : DkI R D mx) : DkI (q :: R) D mx := h.app (N := [q])

theorem used_hard : ∀ fs, used (hardAll fs) = used fs
  | [] => rfl
  | e :: l => by
    have := used_hard l
    unfold hardAll at this ⊢
    simp only [List.map_cons, used, this]
    rfl

theorem DkI.hard {D : Dk} {mx : MapX} (h : DkI R D mx) : DkI R { D with fs := hardAll D.fs } mx.hard := ⟨h.di.hard, (fun e he => by
    obtain ⟨e', he', rfl⟩ := List.mem_map.1 he
    obtain ⟨h1, h2, h3, h4⟩ := h.ok e' he'
    exact ⟨h1, h2, Int.natCast_nonneg _, Int.le_refl _⟩), h.room, h.left, by simp only [used_hard]; exact h.used⟩

/-! What a change of one file does to the sum. -/
theorem used_get : ∀ (fs : List (Int × Fi)) (k : Int), ((getF fs k).bs.length : Int) ≤ used fs
  | [], k => Int.le_refl _
  | e :: l, k => by
    have h1 := used_get l k
    have h2 := used_nn l
    unfold getF at h1 ⊢
    obtain ⟨n, f⟩ := e
    simp only [mget, used]
    split
    · simp only [Option.getD_some]; omega
    · omega

theorem used_put : ∀ (fs : List (Int × Fi)) (k : Int) (f : Fi), used (mput k f fs) = used fs - (getF fs k).bs.length + f.bs.length
  | [], k, f => by
    show (f.bs.length : Int) + 0 = 0 - (0 : Nat) + f.bs.length
    omega
  | (n, v) :: l, k, f => by
    have h1 := used_put l k f
    unfold getF at h1 ⊢
    simp only [mput, mget]
    by_cases q : k = n
    · rw [if_pos q, if_pos q]
      simp only [used, Option.getD_some]
      omega
    · rw [if_neg q, if_neg q]
      simp only [used]
      omega

theorem get_put {fs : List (Int × Fi)} {k : Int} {f : Fi} : getF (mput k f fs) k = f := by
  unfold getF
  induction fs with
  | nil => simp [mput, mget]
  | cons e l ih =>
    obtain ⟨n, v⟩ := e
    simp only [mput]
    by_cases q : k = n
    · rw [if_pos q]; simp [mget]
    · rw [if_neg q]; simp only [mget]; rw [if_neg q]; exact ih

theorem used_del : ∀ (fs : List (Int × Fi)) (k : Int), used (mdel k fs) = used fs - (getF fs k).bs.length
  | [], k => rfl
  | (n, v) :: l, k => by
    have h1 := used_del l k
    unfold getF at h1 ⊢
    simp only [mdel, mget]
    by_cases q : k = n
    · rw [if_pos q, if_pos q]
      simp only [used, Option.getD_some]
      omega
    · rw [if_neg q, if_neg q]
      simp only [used]
      omega

theorem used_set (fs : List (Int × Fi)) (k : Int) (f : Fi) : used (setF fs k f) = used fs - (getF fs k).bs.length + f.bs.length := by
  unfold setF
  split
  · rename_i q
    rw [used_del, used_put, get_put, q]
    simp
  · exact used_put fs k f

theorem DkI.get_len {D : Dk} {mx : MapX} (h : DkI R D mx) (k : Int) : (getF D.fs k).bs.length ≤ 16777216 := by
  have h1 := used_get D.fs k
  have h2 := h.used
  have h3 := h.room
  omega

theorem mput_all {α : Type} {k : Int} {u : α} : ∀ {m : List (Int × α)} {e : Int × α}, e ∈ mput k u m → e = (k, u) ∨ e ∈ m
  | [], e, h => by simp [mput] at h; exact .inl h
  | (n, v) :: m, e, h => by
    simp only [mput] at h
    split at h
    · rcases List.mem_cons.1 h with h | h
      · exact .inl h
      · exact .inr (List.mem_cons_of_mem _ h)
    · rcases List.mem_cons.1 h with h | h
      · exact .inr (h ▸ List.mem_cons_self ..)
      · exact (mput_all h).imp id (List.mem_cons_of_mem _)

theorem mdel_ne {α : Type} {k : Int} : ∀ {m : List (Int × α)} {e : Int × α}, (m.map (·.1)).Nodup → e ∈ mdel k m → e.1 ≠ k ∧ e ∈ m
  | [], e, _, h => by simp [mdel] at h
  | (n, v) :: m, e, hn, h => by
    simp only [List.map_cons, List.nodup_cons] at hn
    simp only [mdel] at h
    split at h
    · rename_i q
      subst q
      exact ⟨fun q => hn.1 (List.mem_map.2 ⟨e, h, q⟩), List.mem_cons_of_mem _ h⟩
    · rename_i q
      rcases List.mem_cons.1 h with rfl | h
      · exact ⟨fun e => q e.symm, List.mem_cons_self ..⟩
      · exact (mdel_ne hn.2 h).imp id (List.mem_cons_of_mem _)

theorem mget_mem {α : Type} {k : Int} {u : α} : ∀ {m : List (Int × α)}, mget k m = some u → (k, u) ∈ m
  | [], h => by simp [mget] at h
  | (n, v) :: m, h => by
    simp only [mget] at h
    split at h
    · rename_i q; injection h with h; subst q h; exact List.mem_cons_self ..
    · exact List.mem_cons_of_mem _ (mget_mem h)

/-- How many bytes of a file are durable. -/
theorem DkI.get_d {D : Dk} {mx : MapX} (h : DkI R D mx) (k : Int) : 0 ≤ (getF D.fs k).d ∧ (getF D.fs k).d ≤ (getF D.fs k).bs.length := by
  unfold getF
  cases hg : mget k D.fs with
  | none => exact ⟨Int.le_refl _, Int.le_refl _⟩
  | some f =>
    obtain ⟨_, _, h3⟩ := h.ok _ (mget_mem hg)
    exact h3

theorem DkI.set {D : Dk} {mx : MapX} (h : DkI R D mx) (k : Int) {v : Value} {f : Fi} (hv : FileOk R v f) (hk : 0 ≤ k ∧ k < 64) (hd : 0 ≤ f.d ∧ f.d ≤ f.bs.length) (hu : Eng.used D.fs - (getF D.fs k).bs.length + f.bs.length ≤ D.room) : DkI R { D with fs := setF D.fs k f } (setX mx k v f.bs.length) :=
  ⟨h.di.set k hv, (fun e he => by
    unfold setF at he
    split at he
    · obtain ⟨h1, h2⟩ := mdel_ne (mput_nd h.di.nd) he
      rcases mput_all h2 with h2 | h2
      · exact absurd (by rw [h2]) h1
      · exact h.ok e h2
    · rename_i q
      rcases mput_all he with h2 | h2
      · rw [h2]; exact ⟨hk, q, hd⟩
      · exact h.ok e h2), h.room, h.left, by simp only [used_set]; exact hu⟩

theorem DkI.lens {D : Dk} {mx : MapX} (h : DkI R D mx) : Eng.lens mx.es = Eng.used D.fs := h.di.rel.lens
theorem DkI.files {D : Dk} {mx : MapX} (h : DkI R D mx) : ∀ e ∈ mx.es, IsFile e.2.2 := isfile_es h.di.rel.file
theorem DkI.keys {D : Dk} {mx : MapX} (h : DkI R D mx) : (mx.es.map (·.1)).Nodup := by rw [keys_es, h.di.rel.keys]; exact h.di.nd

end Go.Proofs.Ythekokdpplobhaa.Eng

set_option linter.unusedVariables false
set_option linter.unusedSimpArgs false
namespace Go.Proofs.Ythekokdpplobhaa.Eng

theorem exists_ok (O : Objs) (n : Int) : Spec Try.prog false 57 #[I n] O fun v O' => v = .bool (decide (0 ≤ n ∧ n < 64)) ∧ O' = O := by
  refine Spec.enter (args := [_]) (m := 9) Try.func57 rfl rfl (by decide +kernel) fun h0 => ?_
  refine WX.seq ?_
  refine WX.region rfl ?_
  refine WXL.assign Met.none rfl ?_
  refine WXL.nil ?_
  refine Fin.then_normal ?_
  refine WX.seq ?_
  refine WX.region rfl ?_
  refine WXL.move Met.none rfl ?_
  refine WXL.bin Met.none rfl rfl rfl ?_
  refine WXL.move Met.none rfl ?_
  refine WXL.split (d := 5) rfl (fun hg5 => ?_) (fun hg5 => ?_)
  · try simp only [cnd] at hg5
    refine WXL.move (Met.some rfl rfl rfl) rfl ?_
    refine WXL.bin (Met.some rfl rfl rfl) rfl rfl rfl ?_
    refine WXL.pick_t Met.none rfl rfl ?_
    refine WXL.assign Met.none rfl ?_
    refine WXL.nil ?_
    refine Fin.then_normal ?_
    refine WX.ret ?_
    exact Fin.result (O' := O) (.inr rfl) rfl rfl drop_ ⟨bl_, rfl⟩
  · try simp only [cnd] at hg5
    refine WXL.miss (j := 2) (d := 5) rfl rfl rfl ?_
    refine WXL.miss (j := 2) (d := 5) rfl rfl rfl ?_
    refine WXL.pick_f Met.none rfl rfl ?_
    refine WXL.assign Met.none rfl ?_
    refine WXL.nil ?_
    refine Fin.then_normal ?_
    refine WX.ret ?_
    exact Fin.result (O' := O) (.inr rfl) rfl rfl drop_ ⟨bl_, rfl⟩

theorem step_ok (R : Objs) (d bm : Nat) (D : Dk) (mx : MapX) (hl : D.armed = true → 0 ≤ D.left ∧ D.left < 9223372036854775808) :
    Spec Try.prog false 59 #[Ptr d 0] (dkO d bm D mx R) fun v O' => v = .bool (stepD D).1 ∧ O' = dkO d bm (stepD D).2 mx R := by
  refine Spec.enter (args := [_]) (m := 31) Try.func59 rfl rfl (by decide +kernel) fun h0 => ?_
  refine WX.seq ?_
  refine WX.region rfl ?_
  refine WXL.assign Met.none rfl ?_
  refine WXL.nil ?_
  refine Fin.then_normal ?_
  refine WX.seq ?_
  refine WX.seq ?_
  refine WX.region rfl ?_
  refine WXL.move Met.none rfl ?_
  refine WXL.nilCheck Met.none rfl ?_
  first | refine WXL.fieldAddr Met.none rfl Try.underlying92 rfl sz4 rfl ?_ | refine WXL.faS Met.none rfl Try.underlying92 rfl sz4 ?_
  first | refine WXL.ld Met.none rfl agg4 ?_ | refine WXL.ldS Met.none rfl agg4 ?_
  refine WXL.not Met.none rfl ?_
  refine WXL.nil ?_
  refine Fin.then_normal ?_
  refine WX.cond rfl (fun hc0 => ?_) (fun hc0 => ?_)
  · try simp only [cnd] at hc0
    refine WX.seq ?_
    refine WX.region rfl ?_
    refine WXL.assign Met.none rfl ?_
    refine WXL.nil ?_
    refine Fin.then_normal ?_
    refine WX.ret ?_
    refine Fin.then_ret ?_
    first
    | exact Fin.result (O' := dkO d bm D mx R) (.inr rfl) rfl rfl drop_ (by unfold stepD; rw [if_pos (by simpa using hc0)]; exact ⟨rfl, rfl⟩)
    | exact Fin.result (O' := dkO d bm { D with off := true, armed := false, left := D.left - 1 } mx R) (.inr rfl) rfl rfl drop_ (by unfold stepD; rw [if_neg (by rw [ha]; simp), if_pos (by omega)]; exact ⟨rfl, rfl⟩)
    | exact Fin.result (O' := dkO d bm { D with left := D.left - 1 } mx R) (.inr rfl) rfl rfl drop_ (by unfold stepD; rw [if_neg (by rw [ha]; simp), if_neg (by omega)]; exact ⟨rfl, rfl⟩)
  · try simp only [cnd] at hc0
    have ha : D.armed = true := by simpa using hc0
    have hl := hl ha
    refine WX.skip ?_
    refine Fin.then_normal ?_
    refine WX.seq ?_
    refine WX.region rfl ?_
    refine WXL.move Met.none rfl ?_
    refine WXL.nilCheck Met.none rfl ?_
    first | refine WXL.fieldAddr Met.none rfl Try.underlying92 rfl sz3 rfl ?_ | refine WXL.faS Met.none rfl Try.underlying92 rfl sz3 ?_
    first | refine WXL.ld Met.none rfl agg3 ?_ | refine WXL.ldS Met.none rfl agg3 ?_
    refine WXL.bin Met.none rfl rfl bvS ?_
    refine WXL.nilCheck Met.none rfl ?_
    first | refine WXL.fieldAddr Met.none rfl Try.underlying92 rfl sz3 rfl ?_ | refine WXL.faS Met.none rfl Try.underlying92 rfl sz3 ?_
    refine WXL.st (vs := [_]) (j := 0) Met.none rfl rfl rfl sz3 ?_ (hj := rfl)
    refine WXL.nil ?_
    refine Fin.then_normal ?_
    refine WX.seq ?_
    refine WX.seq ?_
    refine WX.region rfl ?_
    refine WXL.move Met.none rfl ?_
    refine WXL.nilCheck Met.none rfl ?_
    first | refine WXL.fieldAddr Met.none rfl Try.underlying92 rfl sz3 rfl ?_ | refine WXL.faS Met.none rfl Try.underlying92 rfl sz3 ?_
    first | refine WXL.ld Met.none rfl agg3 ?_ | refine WXL.ldS Met.none rfl agg3 ?_
    refine WXL.bin Met.none rfl rfl rfl ?_
    refine WXL.nil ?_
    refine Fin.then_normal ?_
    refine WX.cond rfl (fun hc1 => ?_) (fun hc1 => ?_)
    · try simp only [cnd] at hc1
      refine WX.region rfl ?_
      refine WXL.move Met.none rfl ?_
      refine WXL.move Met.none rfl ?_
      refine WXL.nilCheck Met.none rfl ?_
      first | refine WXL.fieldAddr Met.none rfl Try.underlying92 rfl sz4 rfl ?_ | refine WXL.faS Met.none rfl Try.underlying92 rfl sz4 ?_
      refine WXL.st (vs := [_]) (j := 0) Met.none rfl rfl rfl sz4 ?_ (hj := rfl)
      refine WXL.nilCheck Met.none rfl ?_
      first | refine WXL.fieldAddr Met.none rfl Try.underlying92 rfl sz4 rfl ?_ | refine WXL.faS Met.none rfl Try.underlying92 rfl sz4 ?_
      refine WXL.st (vs := [_]) (j := 0) Met.none rfl rfl rfl sz4 ?_ (hj := rfl)
      refine WXL.nil ?_
      refine Fin.then_normal ?_
      refine WX.seq ?_
      refine WX.region rfl ?_
      refine WXL.move Met.none rfl ?_
      refine WXL.nilCheck Met.none rfl ?_
      first | refine WXL.fieldAddr Met.none rfl Try.underlying92 rfl sz4 rfl ?_ | refine WXL.faS Met.none rfl Try.underlying92 rfl sz4 ?_
      first | refine WXL.ld Met.none rfl agg4 ?_ | refine WXL.ldS Met.none rfl agg4 ?_
      refine WXL.not Met.none rfl ?_
      refine WXL.assign Met.none rfl ?_
      refine WXL.nil ?_
      refine Fin.then_normal ?_
      refine WX.ret ?_
      first
      | exact Fin.result (O' := dkO d bm D mx R) (.inr rfl) rfl rfl drop_ (by unfold stepD; rw [if_pos (by simpa using hc0)]; exact ⟨rfl, rfl⟩)
      | exact Fin.result (O' := dkO d bm { D with off := true, armed := false, left := D.left - 1 } mx R) (.inr rfl) rfl rfl drop_ (by unfold stepD; rw [if_neg (by rw [ha]; simp), if_pos (by omega)]; exact ⟨rfl, rfl⟩)
      | exact Fin.result (O' := dkO d bm { D with left := D.left - 1 } mx R) (.inr rfl) rfl rfl drop_ (by unfold stepD; rw [if_neg (by rw [ha]; simp), if_neg (by omega)]; exact ⟨rfl, rfl⟩)
    · try simp only [cnd] at hc1
      refine WX.skip ?_
      refine Fin.then_normal ?_
      refine WX.seq ?_
      refine WX.region rfl ?_
      refine WXL.move Met.none rfl ?_
      refine WXL.nilCheck Met.none rfl ?_
      first | refine WXL.fieldAddr Met.none rfl Try.underlying92 rfl sz4 rfl ?_ | refine WXL.faS Met.none rfl Try.underlying92 rfl sz4 ?_
      first | refine WXL.ld Met.none rfl agg4 ?_ | refine WXL.ldS Met.none rfl agg4 ?_
      refine WXL.not Met.none rfl ?_
      refine WXL.assign Met.none rfl ?_
      refine WXL.nil ?_
      refine Fin.then_normal ?_
      refine WX.ret ?_
      first
      | exact Fin.result (O' := dkO d bm D mx R) (.inr rfl) rfl rfl drop_ (by unfold stepD; rw [if_pos (by simpa using hc0)]; exact ⟨rfl, rfl⟩)
      | exact Fin.result (O' := dkO d bm { D with off := true, armed := false, left := D.left - 1 } mx R) (.inr rfl) rfl rfl drop_ (by unfold stepD; rw [if_neg (by rw [ha]; simp), if_pos (by omega)]; exact ⟨rfl, rfl⟩)
      | exact Fin.result (O' := dkO d bm { D with left := D.left - 1 } mx R) (.inr rfl) rfl rfl drop_ (by unfold stepD; rw [if_neg (by rw [ha]; simp), if_neg (by omega)]; exact ⟨rfl, rfl⟩)

theorem set_ok (R : Objs) (d bm : Nat) (D : Dk) (mx : MapX) (n : Int) (a : Option Addr) (m c : Nat) (t : Int) :
    Spec Try.prog false 58 #[Ptr d 0, I n, fileV a m c t] (dkO d bm D mx R) fun v O' => O' = dkO d bm D (setX mx n (fileV a m c t) m) R := by
  refine Spec.enter (args := [_, _, _]) (m := 21) Try.func58 rfl rfl (by decide +kernel) fun h0 => ?_
  refine WX.seq ?_
  refine WX.region rfl ?_
  refine WXL.box (c := [_, _]) Met.none rfl rfl rfl (fun b5 => ?_)
  refine WXL.nil ?_
  refine Fin.then_normal ?_
  refine WX.seq ?_
  refine WX.draw rfl ?_
  refine WXL.move Met.none rfl ?_
  refine WXL.nilCheck Met.none rfl ?_
  first | refine WXL.fieldAddr Met.none rfl Try.underlying92 rfl sz90 rfl ?_ | refine WXL.faS Met.none rfl Try.underlying92 rfl sz90 ?_
  first | refine WXL.ld Met.none rfl agg90 ?_ | refine WXL.ldS Met.none rfl agg90 ?_
  refine WXL.move Met.none rfl ?_
  refine WXL.ldN (vs := [_, _]) Met.none rfl agg94 sz94 ?_
  refine WXL.mapUpdate (j := 2) Met.none rfl rfl rfl mapT90 ?_ (hj := rfl)
  refine WXL.nil ?_
  refine Fin.then_normal ?_
  refine WX.seq ?_
  refine WX.region rfl ?_
  refine WXL.fieldAddr (off' := 0) Met.none rfl Try.underlying94 rfl sz23 rfl ?_
  first | refine WXL.ld Met.none rfl agg23 ?_ | refine WXL.ldS Met.none rfl agg23 ?_
  refine WXL.len Met.none rfl Try.underlying23 ?_
  refine WXL.bin Met.none rfl rfl rfl ?_
  refine WXL.nil ?_
  refine Fin.then_normal ?_
  refine WX.cond rfl (fun hc0 => ?_) (fun hc0 => ?_)
  · try simp only [cnd] at hc0
    refine WX.region rfl ?_
    refine WXL.move Met.none rfl ?_
    refine WXL.nilCheck Met.none rfl ?_
    first | refine WXL.fieldAddr Met.none rfl Try.underlying92 rfl sz90 rfl ?_ | refine WXL.faS Met.none rfl Try.underlying92 rfl sz90 ?_
    first | refine WXL.ld Met.none rfl agg90 ?_ | refine WXL.ldS Met.none rfl agg90 ?_
    refine WXL.move Met.none rfl ?_
    refine WXL.delete (j := 2) Met.none rfl rfl mapT90 ?_ (hj := rfl)
    refine WXL.nil ?_
    first
    | exact Fin.result (O' := dkO d bm D ((mx.put n (fileV a m c t)).del n) R) (.inl rfl) rfl rfl drop_ (by unfold setX; rw [if_pos (by omega)])
    | exact Fin.result (O' := dkO d bm D (mx.put n (fileV a m c t)) R) (.inl rfl) rfl rfl drop_ (by unfold setX; rw [if_neg (by omega)])
  · try simp only [cnd] at hc0
    refine WX.skip ?_
    first
    | exact Fin.result (O' := dkO d bm D ((mx.put n (fileV a m c t)).del n) R) (.inl rfl) rfl rfl drop_ (by unfold setX; rw [if_pos (by omega)])
    | exact Fin.result (O' := dkO d bm D (mx.put n (fileV a m c t)) R) (.inl rfl) rfl rfl drop_ (by unfold setX; rw [if_neg (by omega)])

theorem diskNew_ok (O : Objs) (room : Int) : Spec Try.prog false 52 #[I room] O fun v O' =>
    (0 ≤ room ∧ room ≤ 16777216 ∧ ∃ d bm, v = .tuple #[Ptr d 0, I 0] ∧ O' = dkO d bm ⟨room, false, false, 0, []⟩ .new O) ∨ (¬ (0 ≤ room ∧ room ≤ 16777216) ∧ v = .tuple #[.pointer none, I 1] ∧ O' = O) := by
  refine Spec.enter (args := [_]) (m := 14) Try.func52 rfl rfl (by decide +kernel) fun h0 => ?_
  refine WX.seq ?_
  refine WX.region rfl ?_
  refine WXL.assign Met.none rfl ?_
  refine WXL.assign Met.none rfl ?_
  refine WXL.nil ?_
  refine Fin.then_normal ?_
  refine WX.seq ?_
  refine WX.seq ?_
  refine WX.region rfl ?_
  refine WXL.move Met.none rfl ?_
  refine WXL.bin Met.none rfl rfl rfl ?_
  refine WXL.move Met.none rfl ?_
  refine WXL.split (d := 6) rfl (fun hg6 => ?_) (fun hg6 => ?_)
  · try simp only [cnd] at hg6
    refine WXL.miss (j := 2) (d := 6) rfl rfl rfl ?_
    refine WXL.miss (j := 2) (d := 6) rfl rfl rfl ?_
    refine WXL.pick_t Met.none rfl rfl ?_
    refine WXL.nil ?_
    refine Fin.then_normal ?_
    refine WX.cond rfl (fun hc0 => ?_) (fun hc0 => nomatch hc0)
    refine WX.seq ?_
    refine WX.region rfl ?_
    refine WXL.assign Met.none rfl ?_
    refine WXL.assign Met.none rfl ?_
    refine WXL.nil ?_
    refine Fin.then_normal ?_
    refine WX.ret ?_
    refine Fin.then_ret ?_
    first
    | exact Fin.result (O' := O) (.inr rfl) rfl rfl drop_ (.inr ⟨by omega, rfl, rfl⟩)
    | exact Fin.result (O' := dkO b13 b10 ⟨room, false, false, 0, []⟩ .new O) (.inr rfl) rfl rfl drop_ (.inl ⟨by omega, by omega, _, _, rfl, rfl⟩)
  · try simp only [cnd] at hg6
    refine WXL.move (Met.some rfl rfl rfl) rfl ?_
    refine WXL.bin (Met.some rfl rfl rfl) rfl rfl rfl ?_
    refine WXL.pick_f Met.none rfl rfl ?_
    refine WXL.nil ?_
    refine Fin.then_normal ?_
    refine WX.cond rfl (fun hc0 => ?_) (fun hc0 => ?_)
    · try simp only [cnd] at hc0
      refine WX.seq ?_
      refine WX.region rfl ?_
      refine WXL.assign Met.none rfl ?_
      refine WXL.assign Met.none rfl ?_
      refine WXL.nil ?_
      refine Fin.then_normal ?_
      refine WX.ret ?_
      refine Fin.then_ret ?_
      first
      | exact Fin.result (O' := O) (.inr rfl) rfl rfl drop_ (.inr ⟨by omega, rfl, rfl⟩)
      | exact Fin.result (O' := dkO b13 b10 ⟨room, false, false, 0, []⟩ .new O) (.inr rfl) rfl rfl drop_ (.inl ⟨by omega, by omega, _, _, rfl, rfl⟩)
    · try simp only [cnd] at hc0
      refine WX.skip ?_
      refine Fin.then_normal ?_
      refine WX.seq ?_
      refine WX.region rfl ?_
      refine WXL.makeMap Met.none (fun b10 => ?_)
      refine WXL.move Met.none rfl ?_
      refine WXL.build (c := [_, _, _, _, _]) Met.none rfl zero92 places92 rfl ?_
      refine WXL.box (c := [_, _, _, _, _]) Met.none rfl rfl rfl (fun b13 => ?_)
      refine WXL.assign Met.none rfl ?_
      refine WXL.assign Met.none rfl ?_
      refine WXL.nil ?_
      refine Fin.then_normal ?_
      refine WX.ret ?_
      first
      | exact Fin.result (O' := O) (.inr rfl) rfl rfl drop_ (.inr ⟨by omega, rfl, rfl⟩)
      | exact Fin.result (O' := dkO b13 b10 ⟨room, false, false, 0, []⟩ .new O) (.inr rfl) rfl rfl drop_ (.inl ⟨by omega, by omega, _, _, rfl, rfl⟩)

theorem diskRead_ok (R : Objs) {R0 : Objs} (d bm : Nat) (D : Dk) (mx : MapX) (n : Int) (hD : DkI R0 D mx) (hi : ∀ g, Sat g R → Sat g R0) :
    Spec Try.prog false 53 #[Ptr d 0, I n] (dkO d bm D mx R) fun v O' => ∃ a c G, v = .tuple #[.slice a (readD D n).1.length c, I (readD D n).2] ∧ Grow 1 a (readD D n).1.length c ((readD D n).1.map B8) G ∧ O' = dkO d bm D mx (G ++ R) := by
  obtain ⟨fa, fc, hfv, hrow0, hnil, hB⟩ := hD.di.get n
  have hrow := hrow0.inc hi
  have hlen := hD.get_len n
  refine Spec.enter (args := [_, _]) (m := 23) Try.func53 rfl rfl (by decide +kernel) fun h0 => ?_
  refine WX.seq ?_
  refine WX.region rfl ?_
  refine WXL.assign Met.none rfl ?_
  refine WXL.assign Met.none rfl ?_
  refine WXL.nil ?_
  refine Fin.then_normal ?_
  refine WX.seq ?_
  refine WX.block ?_
  refine WX.seq ?_
  refine WX.region rfl ?_
  refine WXL.move Met.none rfl ?_
  refine WXL.cl (O1 := _) Met.none rfl (fnOk_of Try.func57 (by decide +kernel)) rfl (fun _ h => h) (exists_ok _ n) (fun v O' hp => ?_)
  obtain ⟨rfl, hO⟩ := hp
  subst O'
  refine WXL.not Met.none rfl ?_
  refine WXL.assign Met.none rfl ?_
  refine WXL.nil ?_
  refine Fin.then_normal ?_
  refine WX.cond rfl (fun hc0 => ?_) (fun hc0 => ?_)
  · try simp only [cnd] at hc0
    refine WX.seq ?_
    refine WX.region rfl ?_
    refine WXL.assign Met.none rfl ?_
    refine WXL.assign Met.none rfl ?_
    refine WXL.nil ?_
    refine Fin.then_normal ?_
    refine WX.ret ?_
    refine Fin.block_ret ?_
    refine Fin.then_ret ?_
    first
    | exact Fin.result (O' := dkO d bm D mx ([] ++ R)) (.inr rfl) rfl rfl drop_ (by unfold readD; rw [if_pos (by omega)]; exact ⟨none, 0, [], rfl, .nil, rfl⟩)
    | exact Fin.result (O' := dkO d bm D mx ([] ++ R)) (.inr rfl) rfl rfl drop_ (by unfold readD; rw [if_neg (by omega), if_pos (by assumption)]; exact ⟨none, 0, [], rfl, .nil, rfl⟩)
    | exact Fin.result (O' := dkO d bm D mx (G7 ++ R)) (.inr rfl) rfl rfl sub_ (by unfold readD; rw [if_neg (by omega), if_neg (by simp [hc1])]; exact ⟨a7, c7, G7, rfl, hG7, rfl⟩)
  · try simp only [cnd] at hc0
    refine WX.seq ?_
    refine WX.region rfl ?_
    refine WXL.move Met.none rfl ?_
    refine WXL.nilCheck Met.none rfl ?_
    first | refine WXL.fieldAddr Met.none rfl Try.underlying92 rfl sz4 rfl ?_ | refine WXL.faS Met.none rfl Try.underlying92 rfl sz4 ?_
    first | refine WXL.ld Met.none rfl agg4 ?_ | refine WXL.ldS Met.none rfl agg4 ?_
    refine WXL.assign Met.none rfl ?_
    refine WXL.nil ?_
    refine Fin.then_normal ?_
    refine WX.cond rfl (fun hc1 => ?_) (fun hc1 => ?_)
    · try simp only [cnd] at hc1
      refine WX.seq ?_
      refine WX.region rfl ?_
      refine WXL.assign Met.none rfl ?_
      refine WXL.assign Met.none rfl ?_
      refine WXL.nil ?_
      refine Fin.then_normal ?_
      refine WX.ret ?_
      refine Fin.block_ret ?_
      refine Fin.then_ret ?_
      first
      | exact Fin.result (O' := dkO d bm D mx ([] ++ R)) (.inr rfl) rfl rfl drop_ (by unfold readD; rw [if_pos (by omega)]; exact ⟨none, 0, [], rfl, .nil, rfl⟩)
      | exact Fin.result (O' := dkO d bm D mx ([] ++ R)) (.inr rfl) rfl rfl drop_ (by unfold readD; rw [if_neg (by omega), if_pos (by assumption)]; exact ⟨none, 0, [], rfl, .nil, rfl⟩)
      | exact Fin.result (O' := dkO d bm D mx (G7 ++ R)) (.inr rfl) rfl rfl sub_ (by unfold readD; rw [if_neg (by omega), if_neg (by simp [hc1])]; exact ⟨a7, c7, G7, rfl, hG7, rfl⟩)
    · try simp only [cnd] at hc1
      refine WX.skip ?_
      refine Fin.block_normal ?_
      refine Fin.then_normal ?_
      refine WX.seq ?_
      refine WX.region rfl ?_
      refine WXL.move Met.none rfl ?_
      refine WXL.nilCheck Met.none rfl ?_
      first | refine WXL.fieldAddr Met.none rfl Try.underlying92 rfl sz90 rfl ?_ | refine WXL.faS Met.none rfl Try.underlying92 rfl sz90 ?_
      first | refine WXL.ld Met.none rfl agg90 ?_ | refine WXL.ldS Met.none rfl agg90 ?_
      refine WXL.move Met.none rfl ?_
      refine WXL.lookup Met.none rfl rfl mapT90 zero94 at_ (show _ = fileV fa (getF D.fs n).bs.length fc (getF D.fs n).d from hfv) ?_
      refine WXL.fieldV Met.none rfl Try.underlying94 rfl (part1 agg23 rfl) ?_
      refine WXL.cl (O1 := _) Met.none rfl (fnOk_of Try.func46 (by decide +kernel)) rfl (fun _ h => h) (clone_ok _ (getF D.fs n).bs fa fc (by omega) (fun q => by
      have := hrow.nil0 q
      exact List.length_eq_zero_iff.1 this) (Src.cons (Src.cons (hrow.src hnil)))) (fun v O' hp => ?_)
      obtain ⟨a7, c7, G7, rfl, hG7, rfl⟩ := hp
      refine WXL.assign Met.none rfl ?_
      refine WXL.assign Met.none rfl ?_
      refine WXL.nil ?_
      refine Fin.then_normal ?_
      refine WX.ret ?_
      first
      | exact Fin.result (O' := dkO d bm D mx ([] ++ R)) (.inr rfl) rfl rfl drop_ (by unfold readD; rw [if_pos (by omega)]; exact ⟨none, 0, [], rfl, .nil, rfl⟩)
      | exact Fin.result (O' := dkO d bm D mx ([] ++ R)) (.inr rfl) rfl rfl drop_ (by unfold readD; rw [if_neg (by omega), if_pos (by assumption)]; exact ⟨none, 0, [], rfl, .nil, rfl⟩)
      | exact Fin.result (O' := dkO d bm D mx (G7 ++ R)) (.inr rfl) rfl rfl sub_ (by unfold readD; rw [if_neg (by omega), if_neg (by simp [hc1])]; exact ⟨a7, c7, G7, rfl, hG7, rfl⟩)

end Go.Proofs.Ythekokdpplobhaa.Eng

set_option linter.unusedVariables false
set_option linter.unusedSimpArgs false
namespace Go.Proofs.Ythekokdpplobhaa.Eng

theorem used_ok (q : Bool) (R : Objs) {R0 : Objs} (d bm : Nat) (D : Dk) (mx : MapX) (hD : DkI R0 D mx) :
    Spec Try.prog q 31 #[Ptr d 0] (dkO d bm D mx R) fun v O' => v = I (used D.fs) ∧ O' = dkO d bm D mx R :=
  Spec.direct fun g hs => ⟨_, g, _, used_direct (ro1 := false) (ro2 := false) (bm := bm) (mx := mx) (hs.at (j := 0) rfl) (hs.at (j := 1) rfl) hD.files (by
    have h1 := hD.lens
    have h2 := hD.used
    have h3 := hD.room
    omega), ⟨by rw [hD.lens], rfl⟩, hs, fun _ => Old.refl g⟩

theorem harden_ok (R : Objs) {R0 : Objs} (d bm : Nat) (D : Dk) (mx : MapX) (hD : DkI R0 D mx) :
    Spec Try.prog false 61 #[Ptr d 0] (dkO d bm D mx R) fun v O' => v = .tuple #[] ∧ O' = dkO d bm { D with fs := hardAll D.fs } mx.hard R :=
  Spec.direct fun g hs => by
    obtain ⟨f, k, h2⟩ := hs.at (j := 1) (b := bm) (x := ⟨2, false, mcells mx⟩) rfl
    exact ⟨_, _, dkO d bm { D with fs := hardAll D.fs } mx.hard R, harden_direct (ro1 := false) (bm := bm) (mx := mx) (hs.at (j := 0) rfl) h2 hD.files hD.keys, ⟨rfl, rfl⟩, hs.set (j := 1) rfl h2, fun q => by cases q⟩

theorem sync_ok (R : Objs) {R0 : Objs} (d bm : Nat) (D : Dk) (mx : MapX) (hD : DkI R0 D mx) :
    Spec Try.prog false 55 #[Ptr d 0] (dkO d bm D mx R) fun v O' => ∃ mx', v = I (syncD D).1 ∧ O' = dkO d bm (syncD D).2 mx' R ∧ DkI R0 (syncD D).2 mx' := by
  refine Spec.enter (args := [_]) (m := 14) Try.func55 rfl rfl (by decide +kernel) fun h0 => ?_
  refine WX.seq ?_
  refine WX.region rfl ?_
  refine WXL.assign Met.none rfl ?_
  refine WXL.nil ?_
  refine Fin.then_normal ?_
  refine WX.seq ?_
  refine WX.seq ?_
  refine WX.region rfl ?_
  refine WXL.move Met.none rfl ?_
  refine WXL.nilCheck Met.none rfl ?_
  first | refine WXL.fieldAddr Met.none rfl Try.underlying92 rfl sz4 rfl ?_ | refine WXL.faS Met.none rfl Try.underlying92 rfl sz4 ?_
  first | refine WXL.ld Met.none rfl agg4 ?_ | refine WXL.ldS Met.none rfl agg4 ?_
  refine WXL.move Met.none rfl ?_
  refine WXL.split (d := 7) rfl (fun hg7 => ?_) (fun hg7 => ?_)
  · try simp only [cnd] at hg7
    refine WXL.miss (j := 4) (d := 7) rfl rfl rfl ?_
    refine WXL.miss (j := 4) (d := 7) rfl rfl rfl ?_
    refine WXL.miss (j := 4) (d := 7) rfl rfl rfl ?_
    refine WXL.pick_t Met.none rfl rfl ?_
    refine WXL.nil ?_
    refine Fin.then_normal ?_
    refine WX.cond rfl (fun hc0 => ?_) (fun hc0 => nomatch hc0)
    refine WX.seq ?_
    refine WX.region rfl ?_
    refine WXL.assign Met.none rfl ?_
    refine WXL.nil ?_
    refine Fin.then_normal ?_
    refine WX.ret ?_
    refine Fin.then_ret ?_
    first
    | exact Fin.result (O' := dkO d bm D mx R) (.inr rfl) rfl rfl drop_ (by unfold syncD; rw [if_pos (by assumption)]; exact ⟨mx, rfl, rfl, hD⟩)
    | exact Fin.result (O' := dkO d bm (stepD D).2 mx R) (.inr rfl) rfl rfl drop_ (by unfold syncD; rw [if_neg (by simp [hg7]), if_pos (by simpa using hc0)]; exact ⟨mx, rfl, rfl, hD.step⟩)
    | exact Fin.result (O' := dkO d bm { (stepD D).2 with fs := hardAll (stepD D).2.fs } mx.hard R) (.inr rfl) rfl rfl drop_ (by unfold syncD; rw [if_neg (by simp [hg7]), if_neg (by simpa using hc0)]; exact ⟨mx.hard, rfl, rfl, hD.step.hard⟩)
  · try simp only [cnd] at hg7
    refine WXL.move (Met.some rfl rfl rfl) rfl ?_
    refine WXL.cl (O1 := _) (Met.some rfl rfl rfl) rfl (fnOk_of Try.func59 (by decide +kernel)) rfl (fun _ h => h) (step_ok R d bm D mx hD.left) (fun v O' hp => ?_)
    obtain ⟨rfl, hO⟩ := hp
    subst O'
    refine WXL.not (Met.some rfl rfl rfl) rfl ?_
    refine WXL.pick_f Met.none rfl rfl ?_
    refine WXL.nil ?_
    refine Fin.then_normal ?_
    refine WX.cond rfl (fun hc0 => ?_) (fun hc0 => ?_)
    · try simp only [cnd] at hc0
      refine WX.seq ?_
      refine WX.region rfl ?_
      refine WXL.assign Met.none rfl ?_
      refine WXL.nil ?_
      refine Fin.then_normal ?_
      refine WX.ret ?_
      refine Fin.then_ret ?_
      first
      | exact Fin.result (O' := dkO d bm D mx R) (.inr rfl) rfl rfl drop_ (by unfold syncD; rw [if_pos (by assumption)]; exact ⟨mx, rfl, rfl, hD⟩)
      | exact Fin.result (O' := dkO d bm (stepD D).2 mx R) (.inr rfl) rfl rfl drop_ (by unfold syncD; rw [if_neg (by simp [hg7]), if_pos (by simpa using hc0)]; exact ⟨mx, rfl, rfl, hD.step⟩)
      | exact Fin.result (O' := dkO d bm { (stepD D).2 with fs := hardAll (stepD D).2.fs } mx.hard R) (.inr rfl) rfl rfl drop_ (by unfold syncD; rw [if_neg (by simp [hg7]), if_neg (by simpa using hc0)]; exact ⟨mx.hard, rfl, rfl, hD.step.hard⟩)
    · try simp only [cnd] at hc0
      refine WX.skip ?_
      refine Fin.then_normal ?_
      refine WX.seq ?_
      refine WX.region rfl ?_
      refine WXL.move Met.none rfl ?_
      refine WXL.cl (O1 := _) Met.none rfl (fnOk_of Try.func61 (by decide +kernel)) rfl (fun _ h => h) (harden_ok R d bm (stepD D).2 mx hD.step) (fun v O' hp => ?_)
      obtain ⟨rfl, hO⟩ := hp
      subst O'
      refine WXL.nil ?_
      refine Fin.then_normal ?_
      refine WX.seq ?_
      refine WX.region rfl ?_
      refine WXL.assign Met.none rfl ?_
      refine WXL.nil ?_
      refine Fin.then_normal ?_
      refine WX.ret ?_
      first
      | exact Fin.result (O' := dkO d bm D mx R) (.inr rfl) rfl rfl drop_ (by unfold syncD; rw [if_pos (by assumption)]; exact ⟨mx, rfl, rfl, hD⟩)
      | exact Fin.result (O' := dkO d bm (stepD D).2 mx R) (.inr rfl) rfl rfl drop_ (by unfold syncD; rw [if_neg (by simp [hg7]), if_pos (by simpa using hc0)]; exact ⟨mx, rfl, rfl, hD.step⟩)
      | exact Fin.result (O' := dkO d bm { (stepD D).2 with fs := hardAll (stepD D).2.fs } mx.hard R) (.inr rfl) rfl rfl drop_ (by unfold syncD; rw [if_neg (by simp [hg7]), if_neg (by simpa using hc0)]; exact ⟨mx.hard, rfl, rfl, hD.step.hard⟩)

theorem trunc_ok (R : Objs) {R0 : Objs} (d bm : Nat) (D : Dk) (mx : MapX) (n size : Int) (hD : DkI R0 D mx) (hi : ∀ g, Sat g R → Sat g R0) :
    Spec Try.prog false 54 #[Ptr d 0, I n, I size] (dkO d bm D mx R) fun v O' => ∃ mx', v = I (truncD D n size).1 ∧ O' = dkO d bm (truncD D n size).2 mx' R ∧ DkI R0 (truncD D n size).2 mx' := by
  obtain ⟨fa, fc, hfv, hrow0, hnil, hB⟩ := hD.di.get n
  have hrow := hrow0.inc hi
  have hlen := hD.get_len n
  refine Spec.enter (args := [_, _, _]) (m := 49) Try.func54 rfl rfl (by decide +kernel) fun h0 => ?_
  refine WX.seq ?_
  refine WX.region rfl ?_
  refine WXL.assign Met.none rfl ?_
  refine WXL.nil ?_
  refine Fin.then_normal ?_
  refine WX.seq ?_
  refine WX.region rfl ?_
  refine WXL.move Met.none rfl ?_
  refine WXL.nilCheck Met.none rfl ?_
  first | refine WXL.fieldAddr Met.none rfl Try.underlying92 rfl sz90 rfl ?_ | refine WXL.faS Met.none rfl Try.underlying92 rfl sz90 ?_
  first | refine WXL.ld Met.none rfl agg90 ?_ | refine WXL.ldS Met.none rfl agg90 ?_
  refine WXL.move Met.none rfl ?_
  refine WXL.lookup Met.none rfl rfl mapT90 zero94 at_ (show _ = fileV fa (getF D.fs n).bs.length fc (getF D.fs n).d from hfv) ?_
  refine WXL.alloc (c := [_, _]) Met.none zero94 rfl (fun b7 => ?_)
  refine WXL.st (vs := [_, _]) (c' := [_, _]) (j := 0) Met.none rfl rfl rfl sz94 ?_ (hj := rfl)
  refine WXL.nil ?_
  refine Fin.then_normal ?_
  refine WX.seq ?_
  refine WX.seq ?_
  refine WX.region rfl ?_
  refine WXL.move Met.none rfl ?_
  refine WXL.cl (O1 := _) Met.none rfl (fnOk_of Try.func57 (by decide +kernel)) rfl (fun _ h => h) (exists_ok _ n) (fun v O' hp => ?_)
  obtain ⟨rfl, hO⟩ := hp
  subst O'
  refine WXL.not Met.none rfl ?_
  refine WXL.move Met.none rfl ?_
  refine WXL.split (d := 17) rfl (fun hg17 => ?_) (fun hg17 => ?_)
  · try simp only [cnd] at hg17
    refine WXL.miss (j := 3) (d := 17) rfl rfl rfl ?_
    refine WXL.miss (j := 3) (d := 17) rfl rfl rfl ?_
    refine WXL.pick_t Met.none rfl rfl ?_
    refine WXL.move Met.none rfl ?_
    refine WXL.miss (j := 7) (d := 21) rfl rfl rfl ?_
    refine WXL.miss (j := 7) (d := 21) rfl rfl rfl ?_
    refine WXL.miss (j := 7) (d := 21) rfl rfl rfl ?_
    refine WXL.miss (j := 7) (d := 21) rfl rfl rfl ?_
    refine WXL.miss (j := 7) (d := 21) rfl rfl rfl ?_
    refine WXL.pick_t Met.none rfl rfl ?_
    refine WXL.nil ?_
    refine Fin.then_normal ?_
    refine WX.cond rfl (fun hc0 => ?_) (fun hc0 => nomatch hc0)
    refine WX.seq ?_
    refine WX.region rfl ?_
    refine WXL.assign Met.none rfl ?_
    refine WXL.nil ?_
    refine Fin.then_normal ?_
    refine WX.ret ?_
    refine Fin.then_ret ?_
    first
    | exact Fin.result (O' := dkO d bm D mx R) (.inr rfl) rfl rfl drop_ (by unfold truncD; rw [if_pos (by omega)]; exact ⟨mx, rfl, rfl, hD⟩)
    | exact Fin.result (O' := dkO d bm D mx R) (.inr rfl) rfl rfl drop_ (by unfold truncD; rw [if_neg (by omega), if_pos (by assumption)]; exact ⟨mx, rfl, rfl, hD⟩)
    | exact Fin.result (O' := dkO d bm (stepD D).2 mx R) (.inr rfl) rfl rfl sub_ (by unfold truncD; rw [if_neg (by omega), if_neg (by simp [hg32]), if_pos (by simpa using hc1)]; exact ⟨mx, rfl, rfl, hD.step⟩)
    | exact Fin.result (O' := dkO d bm { (stepD D).2 with fs := setF D.fs n ⟨(getF D.fs n).bs.take k, min (getF D.fs n).d k⟩ } (setX mx n (fileV fa k k (min (getF D.fs n).d k)) k) R) (.inr rfl) rfl rfl drop_ (by
        unfold truncD
        rw [if_neg (by omega), if_neg (by simp [hg32]), if_neg (by simpa using hc1)]
        have hk : k ≤ (getF D.fs n).bs.length := by omega
        have hlk : ((getF D.fs n).bs.take k).length = k := by rw [List.length_take, Nat.min_eq_left hk]
        have hpre := hrow0.pre hk
        rw [Nat.mul_one, ← List.map_take] at hpre
        have hf : FileOk R0 (fileV fa k k (min (getF D.fs n).d k)) ⟨(getF D.fs n).bs.take k, min (getF D.fs n).d k⟩ := ⟨fa, k, by rw [hlk], by rw [hlk]; exact hpre, hpre.nil0, fun x hx => hB x (List.mem_of_mem_take hx)⟩
        obtain ⟨h1, h2⟩ := stepD_fs D
        have hgd := hD.get_d n
        have hs := hD.step.set n hf (by omega) ⟨by simp only; omega, by rw [hlk]; simp only; omega⟩ (by
          have := hD.used
          rw [h1, h2, hlk]
          omega)
        rw [hlk, h1] at hs
        exact ⟨_, rfl, rfl, hs⟩)
  · try simp only [cnd] at hg17
    refine WXL.move (Met.some rfl rfl rfl) rfl ?_
    refine WXL.bin (Met.some rfl rfl rfl) rfl rfl rfl ?_
    refine WXL.pick_f Met.none rfl rfl ?_
    refine WXL.move Met.none rfl ?_
    refine WXL.split (d := 21) rfl (fun hg21 => ?_) (fun hg21 => ?_)
    · try simp only [cnd] at hg21
      refine WXL.miss (j := 7) (d := 21) rfl rfl rfl ?_
      refine WXL.miss (j := 7) (d := 21) rfl rfl rfl ?_
      refine WXL.miss (j := 7) (d := 21) rfl rfl rfl ?_
      refine WXL.miss (j := 7) (d := 21) rfl rfl rfl ?_
      refine WXL.miss (j := 7) (d := 21) rfl rfl rfl ?_
      refine WXL.pick_t Met.none rfl rfl ?_
      refine WXL.nil ?_
      refine Fin.then_normal ?_
      refine WX.cond rfl (fun hc0 => ?_) (fun hc0 => nomatch hc0)
      refine WX.seq ?_
      refine WX.region rfl ?_
      refine WXL.assign Met.none rfl ?_
      refine WXL.nil ?_
      refine Fin.then_normal ?_
      refine WX.ret ?_
      refine Fin.then_ret ?_
      first
      | exact Fin.result (O' := dkO d bm D mx R) (.inr rfl) rfl rfl drop_ (by unfold truncD; rw [if_pos (by omega)]; exact ⟨mx, rfl, rfl, hD⟩)
      | exact Fin.result (O' := dkO d bm D mx R) (.inr rfl) rfl rfl drop_ (by unfold truncD; rw [if_neg (by omega), if_pos (by assumption)]; exact ⟨mx, rfl, rfl, hD⟩)
      | exact Fin.result (O' := dkO d bm (stepD D).2 mx R) (.inr rfl) rfl rfl sub_ (by unfold truncD; rw [if_neg (by omega), if_neg (by simp [hg32]), if_pos (by simpa using hc1)]; exact ⟨mx, rfl, rfl, hD.step⟩)
      | exact Fin.result (O' := dkO d bm { (stepD D).2 with fs := setF D.fs n ⟨(getF D.fs n).bs.take k, min (getF D.fs n).d k⟩ } (setX mx n (fileV fa k k (min (getF D.fs n).d k)) k) R) (.inr rfl) rfl rfl drop_ (by
          unfold truncD
          rw [if_neg (by omega), if_neg (by simp [hg32]), if_neg (by simpa using hc1)]
          have hk : k ≤ (getF D.fs n).bs.length := by omega
          have hlk : ((getF D.fs n).bs.take k).length = k := by rw [List.length_take, Nat.min_eq_left hk]
          have hpre := hrow0.pre hk
          rw [Nat.mul_one, ← List.map_take] at hpre
          have hf : FileOk R0 (fileV fa k k (min (getF D.fs n).d k)) ⟨(getF D.fs n).bs.take k, min (getF D.fs n).d k⟩ := ⟨fa, k, by rw [hlk], by rw [hlk]; exact hpre, hpre.nil0, fun x hx => hB x (List.mem_of_mem_take hx)⟩
          obtain ⟨h1, h2⟩ := stepD_fs D
          have hgd := hD.get_d n
          have hs := hD.step.set n hf (by omega) ⟨by simp only; omega, by rw [hlk]; simp only; omega⟩ (by
            have := hD.used
            rw [h1, h2, hlk]
            omega)
          rw [hlk, h1] at hs
          exact ⟨_, rfl, rfl, hs⟩)
    · try simp only [cnd] at hg21
      refine WXL.move (Met.some rfl rfl rfl) rfl ?_
      refine WXL.fieldAddr (off' := 0) (Met.some rfl rfl rfl) rfl Try.underlying94 rfl sz23 rfl ?_
      first | refine WXL.ld (Met.some rfl rfl rfl) rfl agg23 ?_ | refine WXL.ldS (Met.some rfl rfl rfl) rfl agg23 ?_
      refine WXL.len (Met.some rfl rfl rfl) rfl Try.underlying23 ?_
      refine WXL.bin (Met.some rfl rfl rfl) rfl rfl rfl ?_
      refine WXL.pick_f Met.none rfl rfl ?_
      refine WXL.nil ?_
      refine Fin.then_normal ?_
      refine WX.cond rfl (fun hc0 => ?_) (fun hc0 => ?_)
      · try simp only [cnd] at hc0
        refine WX.seq ?_
        refine WX.region rfl ?_
        refine WXL.assign Met.none rfl ?_
        refine WXL.nil ?_
        refine Fin.then_normal ?_
        refine WX.ret ?_
        refine Fin.then_ret ?_
        first
        | exact Fin.result (O' := dkO d bm D mx R) (.inr rfl) rfl rfl drop_ (by unfold truncD; rw [if_pos (by omega)]; exact ⟨mx, rfl, rfl, hD⟩)
        | exact Fin.result (O' := dkO d bm D mx R) (.inr rfl) rfl rfl drop_ (by unfold truncD; rw [if_neg (by omega), if_pos (by assumption)]; exact ⟨mx, rfl, rfl, hD⟩)
        | exact Fin.result (O' := dkO d bm (stepD D).2 mx R) (.inr rfl) rfl rfl sub_ (by unfold truncD; rw [if_neg (by omega), if_neg (by simp [hg32]), if_pos (by simpa using hc1)]; exact ⟨mx, rfl, rfl, hD.step⟩)
        | exact Fin.result (O' := dkO d bm { (stepD D).2 with fs := setF D.fs n ⟨(getF D.fs n).bs.take k, min (getF D.fs n).d k⟩ } (setX mx n (fileV fa k k (min (getF D.fs n).d k)) k) R) (.inr rfl) rfl rfl drop_ (by
            unfold truncD
            rw [if_neg (by omega), if_neg (by simp [hg32]), if_neg (by simpa using hc1)]
            have hk : k ≤ (getF D.fs n).bs.length := by omega
            have hlk : ((getF D.fs n).bs.take k).length = k := by rw [List.length_take, Nat.min_eq_left hk]
            have hpre := hrow0.pre hk
            rw [Nat.mul_one, ← List.map_take] at hpre
            have hf : FileOk R0 (fileV fa k k (min (getF D.fs n).d k)) ⟨(getF D.fs n).bs.take k, min (getF D.fs n).d k⟩ := ⟨fa, k, by rw [hlk], by rw [hlk]; exact hpre, hpre.nil0, fun x hx => hB x (List.mem_of_mem_take hx)⟩
            obtain ⟨h1, h2⟩ := stepD_fs D
            have hgd := hD.get_d n
            have hs := hD.step.set n hf (by omega) ⟨by simp only; omega, by rw [hlk]; simp only; omega⟩ (by
              have := hD.used
              rw [h1, h2, hlk]
              omega)
            rw [hlk, h1] at hs
            exact ⟨_, rfl, rfl, hs⟩)
      · try simp only [cnd] at hc0
        refine WX.skip ?_
        refine Fin.then_normal ?_
        refine WX.seq ?_
        refine WX.seq ?_
        refine WX.region rfl ?_
        refine WXL.move Met.none rfl ?_
        refine WXL.nilCheck Met.none rfl ?_
        first | refine WXL.fieldAddr Met.none rfl Try.underlying92 rfl sz4 rfl ?_ | refine WXL.faS Met.none rfl Try.underlying92 rfl sz4 ?_
        first | refine WXL.ld Met.none rfl agg4 ?_ | refine WXL.ldS Met.none rfl agg4 ?_
        refine WXL.move Met.none rfl ?_
        refine WXL.split (d := 32) rfl (fun hg32 => ?_) (fun hg32 => ?_)
        · try simp only [cnd] at hg32
          refine WXL.miss (j := 4) (d := 32) rfl rfl rfl ?_
          refine WXL.miss (j := 4) (d := 32) rfl rfl rfl ?_
          refine WXL.miss (j := 4) (d := 32) rfl rfl rfl ?_
          refine WXL.pick_t Met.none rfl rfl ?_
          refine WXL.nil ?_
          refine Fin.then_normal ?_
          refine WX.cond rfl (fun hc1 => ?_) (fun hc1 => nomatch hc1)
          refine WX.seq ?_
          refine WX.region rfl ?_
          refine WXL.assign Met.none rfl ?_
          refine WXL.nil ?_
          refine Fin.then_normal ?_
          refine WX.ret ?_
          refine Fin.then_ret ?_
          first
          | exact Fin.result (O' := dkO d bm D mx R) (.inr rfl) rfl rfl drop_ (by unfold truncD; rw [if_pos (by omega)]; exact ⟨mx, rfl, rfl, hD⟩)
          | exact Fin.result (O' := dkO d bm D mx R) (.inr rfl) rfl rfl drop_ (by unfold truncD; rw [if_neg (by omega), if_pos (by assumption)]; exact ⟨mx, rfl, rfl, hD⟩)
          | exact Fin.result (O' := dkO d bm (stepD D).2 mx R) (.inr rfl) rfl rfl sub_ (by unfold truncD; rw [if_neg (by omega), if_neg (by simp [hg32]), if_pos (by simpa using hc1)]; exact ⟨mx, rfl, rfl, hD.step⟩)
          | exact Fin.result (O' := dkO d bm { (stepD D).2 with fs := setF D.fs n ⟨(getF D.fs n).bs.take k, min (getF D.fs n).d k⟩ } (setX mx n (fileV fa k k (min (getF D.fs n).d k)) k) R) (.inr rfl) rfl rfl drop_ (by
              unfold truncD
              rw [if_neg (by omega), if_neg (by simp [hg32]), if_neg (by simpa using hc1)]
              have hk : k ≤ (getF D.fs n).bs.length := by omega
              have hlk : ((getF D.fs n).bs.take k).length = k := by rw [List.length_take, Nat.min_eq_left hk]
              have hpre := hrow0.pre hk
              rw [Nat.mul_one, ← List.map_take] at hpre
              have hf : FileOk R0 (fileV fa k k (min (getF D.fs n).d k)) ⟨(getF D.fs n).bs.take k, min (getF D.fs n).d k⟩ := ⟨fa, k, by rw [hlk], by rw [hlk]; exact hpre, hpre.nil0, fun x hx => hB x (List.mem_of_mem_take hx)⟩
              obtain ⟨h1, h2⟩ := stepD_fs D
              have hgd := hD.get_d n
              have hs := hD.step.set n hf (by omega) ⟨by simp only; omega, by rw [hlk]; simp only; omega⟩ (by
                have := hD.used
                rw [h1, h2, hlk]
                omega)
              rw [hlk, h1] at hs
              exact ⟨_, rfl, rfl, hs⟩)
        · try simp only [cnd] at hg32
          refine WXL.move (Met.some rfl rfl rfl) rfl ?_
          refine WXL.cl (O1 := dkO d bm D mx ((b7, ⟨0, false, [.slice fa (getF D.fs n).bs.length fc, I (getF D.fs n).d]⟩) :: R)) (Met.some rfl rfl rfl) rfl (fnOk_of Try.func59 (by decide +kernel)) rfl sub_ (step_ok _ d bm D mx hD.left) (fun v O' hp => ?_)
          obtain ⟨rfl, hO⟩ := hp
          subst O'
          refine WXL.not (Met.some rfl rfl rfl) rfl ?_
          refine WXL.pick_f Met.none rfl rfl ?_
          refine WXL.nil ?_
          refine Fin.then_normal ?_
          refine WX.cond rfl (fun hc1 => ?_) (fun hc1 => ?_)
          · try simp only [cnd] at hc1
            refine WX.seq ?_
            refine WX.region rfl ?_
            refine WXL.assign Met.none rfl ?_
            refine WXL.nil ?_
            refine Fin.then_normal ?_
            refine WX.ret ?_
            refine Fin.then_ret ?_
            first
            | exact Fin.result (O' := dkO d bm D mx R) (.inr rfl) rfl rfl drop_ (by unfold truncD; rw [if_pos (by omega)]; exact ⟨mx, rfl, rfl, hD⟩)
            | exact Fin.result (O' := dkO d bm D mx R) (.inr rfl) rfl rfl drop_ (by unfold truncD; rw [if_neg (by omega), if_pos (by assumption)]; exact ⟨mx, rfl, rfl, hD⟩)
            | exact Fin.result (O' := dkO d bm (stepD D).2 mx R) (.inr rfl) rfl rfl sub_ (by unfold truncD; rw [if_neg (by omega), if_neg (by simp [hg32]), if_pos (by simpa using hc1)]; exact ⟨mx, rfl, rfl, hD.step⟩)
            | exact Fin.result (O' := dkO d bm { (stepD D).2 with fs := setF D.fs n ⟨(getF D.fs n).bs.take k, min (getF D.fs n).d k⟩ } (setX mx n (fileV fa k k (min (getF D.fs n).d k)) k) R) (.inr rfl) rfl rfl drop_ (by
                unfold truncD
                rw [if_neg (by omega), if_neg (by simp [hg32]), if_neg (by simpa using hc1)]
                have hk : k ≤ (getF D.fs n).bs.length := by omega
                have hlk : ((getF D.fs n).bs.take k).length = k := by rw [List.length_take, Nat.min_eq_left hk]
                have hpre := hrow0.pre hk
                rw [Nat.mul_one, ← List.map_take] at hpre
                have hf : FileOk R0 (fileV fa k k (min (getF D.fs n).d k)) ⟨(getF D.fs n).bs.take k, min (getF D.fs n).d k⟩ := ⟨fa, k, by rw [hlk], by rw [hlk]; exact hpre, hpre.nil0, fun x hx => hB x (List.mem_of_mem_take hx)⟩
                obtain ⟨h1, h2⟩ := stepD_fs D
                have hgd := hD.get_d n
                have hs := hD.step.set n hf (by omega) ⟨by simp only; omega, by rw [hlk]; simp only; omega⟩ (by
                  have := hD.used
                  rw [h1, h2, hlk]
                  omega)
                rw [hlk, h1] at hs
                exact ⟨_, rfl, rfl, hs⟩)
          · try simp only [cnd] at hc1
            refine WX.skip ?_
            refine Fin.then_normal ?_
            refine WX.seq ?_
            obtain ⟨k, rfl⟩ : ∃ k : Nat, size = (k : Int) := ⟨size.toNat, by omega⟩
            refine WX.draw rfl ?_
            refine WXL.move Met.none rfl ?_
            refine WXL.move Met.none rfl ?_
            refine WXL.fieldAddr (off' := 0) Met.none rfl Try.underlying94 rfl sz23 rfl ?_
            first | refine WXL.ld Met.none rfl agg23 ?_ | refine WXL.ldS Met.none rfl agg23 ?_
            refine WXL.move Met.none rfl ?_
            refine WXL.pre (m := k) Met.none rfl rfl elem23 sz5 (Rowy.cons (Rowy.cons (Rowy.cons hrow))) hnil ?_
            refine WXL.fieldAddr (off' := 1) Met.none rfl Try.underlying94 rfl sz3 rfl ?_
            first | refine WXL.ld Met.none rfl agg3 ?_ | refine WXL.ldS Met.none rfl agg3 ?_
            refine WXL.move Met.none rfl ?_
            refine WXL.min Met.none rfl rfl ?_
            refine WXL.build (c := [_, _]) Met.none rfl zero94 places94 rfl ?_
            refine WXL.cl (O1 := dkO d bm (stepD D).2 mx R) Met.none rfl (fnOk_of Try.func58 (by decide +kernel)) rfl sub_ (set_ok R d bm (stepD D).2 mx n fa k k (min (getF D.fs n).d k)) (fun v O' hp => ?_)
            obtain rfl := hp
            refine WXL.nil ?_
            refine Fin.then_normal ?_
            refine WX.seq ?_
            refine WX.region rfl ?_
            refine WXL.assign Met.none rfl ?_
            refine WXL.nil ?_
            refine Fin.then_normal ?_
            refine WX.ret ?_
            first
            | exact Fin.result (O' := dkO d bm D mx R) (.inr rfl) rfl rfl drop_ (by unfold truncD; rw [if_pos (by omega)]; exact ⟨mx, rfl, rfl, hD⟩)
            | exact Fin.result (O' := dkO d bm D mx R) (.inr rfl) rfl rfl drop_ (by unfold truncD; rw [if_neg (by omega), if_pos (by assumption)]; exact ⟨mx, rfl, rfl, hD⟩)
            | exact Fin.result (O' := dkO d bm (stepD D).2 mx R) (.inr rfl) rfl rfl sub_ (by unfold truncD; rw [if_neg (by omega), if_neg (by simp [hg32]), if_pos (by simpa using hc1)]; exact ⟨mx, rfl, rfl, hD.step⟩)
            | exact Fin.result (O' := dkO d bm { (stepD D).2 with fs := setF D.fs n ⟨(getF D.fs n).bs.take k, min (getF D.fs n).d k⟩ } (setX mx n (fileV fa k k (min (getF D.fs n).d k)) k) R) (.inr rfl) rfl rfl drop_ (by
                unfold truncD
                rw [if_neg (by omega), if_neg (by simp [hg32]), if_neg (by simpa using hc1)]
                have hk : k ≤ (getF D.fs n).bs.length := by omega
                have hlk : ((getF D.fs n).bs.take k).length = k := by rw [List.length_take, Nat.min_eq_left hk]
                have hpre := hrow0.pre hk
                rw [Nat.mul_one, ← List.map_take] at hpre
                have hf : FileOk R0 (fileV fa k k (min (getF D.fs n).d k)) ⟨(getF D.fs n).bs.take k, min (getF D.fs n).d k⟩ := ⟨fa, k, by rw [hlk], by rw [hlk]; exact hpre, hpre.nil0, fun x hx => hB x (List.mem_of_mem_take hx)⟩
                obtain ⟨h1, h2⟩ := stepD_fs D
                have hgd := hD.get_d n
                have hs := hD.step.set n hf (by omega) ⟨by simp only; omega, by rw [hlk]; simp only; omega⟩ (by
                  have := hD.used
                  rw [h1, h2, hlk]
                  omega)
                rw [hlk, h1] at hs
                exact ⟨_, rfl, rfl, hs⟩)

end Go.Proofs.Ythekokdpplobhaa.Eng

set_option linter.unusedVariables false
set_option linter.unusedSimpArgs false
set_option maxRecDepth 4000
namespace Go.Proofs.Ythekokdpplobhaa.Eng
open Go Go.Proofs Go.ChangeShapes Go.WideShapes Go.RowKit

def sortK (l : List Int) : List Int := l.mergeSort fun x y => decide (x ≤ y)
def keysX (mx : MapX) : List Int := mx.es.map (·.1)

/-! ### 1. The library at the model -/
abbrev anyR : Value → Option (DataW Unit × List MemPlace) := fun _ => some (.nil, [])

theorem pair_keys {ι : Lay} {c : List (Int × Nat × Value)} : ∀ {es : List MapEntry}, PairRel ι (mflat c) es → es.map (·.key) = c.map fun e => I e.1 := by
  induction c with
  | nil => intro es hp; cases hp; rfl
  | cons p c ih =>
    obtain ⟨k, n, v⟩ := p
    intro es hp
    unfold mflat at hp
    generalize hX : I k :: I n :: v :: mflat c = X at hp
    cases hp with
    | nil => cases hX
    | cons h1 h2 h3 h4 =>
      rename_i c3 e2 es2
      injection hX with q1 q2
      injection q2 with q3 q4
      injection q4 with q5 q6
      subst q1 q5 q6
      rw [List.map_cons, List.map_cons, ih h4, h1]

theorem wf_small {k : Int} (h : 0 ≤ k ∧ k < 64) : (Lit.int .i64 k).wf = true := by
  simp only [Lit.wf, Bool.and_eq_true, decide_eq_true_eq]
  have h1 : IntKind.i64.min = -9223372036854775808 := rfl
  have h2 : IntKind.i64.max = 9223372036854775807 := rfl
  omega

theorem owns_map {w : World} {B : Nat} {es : Array MapEntry} {clock : Nat} {ks : List Int} (hb : w.heap[B]? = some (.map es clock)) (hk : es.toList.map (·.key) = ks.map I) (hn : ks.Nodup) (hr : ∀ k ∈ ks, 0 ≤ k ∧ k < 64) (hl : ks.length ≤ 16777216)
    (h1 : ∀ en ∈ es.toList, en.born < clock) (h2 : es.toList.Pairwise fun x y => x.born < y.born) :
    ∃ D0 : DataW Unit, w.ownsMap Try.prog 3 anyR B es.size D0 ∧ (intKeys D0).Perm ks ∧ Maps.size D0 = ks.length := by
  have hlen : es.size = ks.length := by
    have := congrArg List.length hk
    simpa using this
  have hread : ∀ x ∈ es.toList, ∃ k ∈ ks, x.key = I k ∧ WideElems.rd Try.prog 3 anyR x = some (.int .i64 k, .nil) := fun x hx => by
    have hm : x.key ∈ ks.map I := by rw [← hk]; exact List.mem_map.2 ⟨x, hx, rfl⟩
    obtain ⟨k, hk1, hk2⟩ := List.mem_map.1 hm
    have hkey : keyOf Try.prog 3 (I k) = some (.int .i64 k) := Maps.keyOf_int_mk Try.underlying3 (wf_small (hr k hk1))
    refine ⟨k, hk1, hk2.symm, ?_⟩
    simp only [WideElems.rd, ← hk2, hkey, anyR, Option.bind_some, Option.map_some]
  refine ⟨_, ⟨es, clock, hb, ⟨by rw [hlen]; exact Nat.le_trans hl (by decide), ⟨h1, ?_, ?_⟩, fun x hx => ?_⟩, Nat.le_refl _, rfl⟩, ?_, ?_⟩
  · exact (List.pairwise_map.2 h2).imp fun q => Nat.ne_of_lt q
  · rw [hk]
    exact List.pairwise_map.2 (hn.imp fun q e => q (by injection e))
  · obtain ⟨k, _, _, h⟩ := hread x hx
    exact ⟨_, h⟩
  · show (((es.toList.map (WideElems.rg Try.prog 3 anyR)).foldr DataW.insert []).map fun p => Go.intOf p.1).Perm ks
    refine ((WideShapes.sorted_perm _).map _).trans ?_
    rw [List.map_map]
    have e1 : es.toList.map ((fun p : Lit × DataW Unit => Go.intOf p.1) ∘ WideElems.rg Try.prog 3 anyR) = es.toList.map fun x => (match x.key with | .int _ k => k | _ => 0) := List.map_congr_left fun x hx => by
      obtain ⟨k, _, h3, h4⟩ := hread x hx
      simp only [Function.comp, WideElems.rg, h4, Option.getD_some, h3]
      rfl
    have e2 : (es.toList.map fun x => (match x.key with | .int _ k => k | _ => 0)) = (es.toList.map (·.key)).map fun v => (match v with | .int _ k => k | _ => 0) := by rw [List.map_map]; rfl
    rw [e1, e2, hk, List.map_map]
    have e3 : ks.map ((fun v : Value => (match v with | .int _ k => k | _ => 0)) ∘ I) = ks := by
      rw [show ((fun v : Value => (match v with | .int _ k => k | _ => 0)) ∘ I) = id from rfl, List.map_id]
    rw [e3]
  · show ((es.toList.map (WideElems.rg Try.prog 3 anyR)).foldr DataW.insert []).length = _
    rw [(WideShapes.sorted_perm _).length_eq, List.length_map, Array.length_toList, hlen]

theorem sorts_in (m : Nat) : AnyZI.SortsIn Try.prog sortedA_ren Fence.wide m :=
  ⟨fun blk off cap ss W hH hblk hsz => callsIn_wide.2 (AnyM.slices_Sort_int sortA blk off cap ss W hH hblk hsz),
   fun p cap W => callsIn_wide.2 (AnyM.slices_Sort_int_none sortA p cap W)⟩

theorem keys_calls (B : Nat) (w : World) : Calls Try.prog 74 #[.map (some B)] w fun e w' => e = .returned (.func (.func 85) #[] #[.pointer (some ⟨w.heap.size, 0, none⟩)]) ∧ w' = w.alloc (.cells #[.map (some B)] 90) :=
  (callsIn_wide (n := 5)).1 (AnyZI.keys_in keysA Fence.wide 5 trivial rfl (some B) w)

theorem sorted_calls {w : World} {B : Nat} {es : Array MapEntry} {clock : Nat} {ks : List Int} (hb : w.heap[B]? = some (.map es clock)) (hk : es.toList.map (·.key) = ks.map I) (hn : ks.Nodup) (hr : ∀ k ∈ ks, 0 ≤ k ∧ k < 64) (hl : ks.length ≤ 16777216)
    (h1 : ∀ en ∈ es.toList, en.born < clock) (h2 : es.toList.Pairwise fun x y => x.born < y.born) :
    Calls Try.prog 73 #[.func (.func 85) #[] #[.pointer (some ⟨w.heap.size, 0, none⟩)]] (w.alloc (.cells #[.map (some B)] 90)) fun e w' => ∃ v, e = .returned v ∧
      w'.ownsRow (w.heap.size + 1) 3 1 v ks.length ((sortK ks).map I) ∧ (v = .slice none 0 0 ↔ ks = []) ∧ Below (w.heap.size + 1) (w.alloc (.cells #[.map (some B)] 90)) w' := by
  have hB : B < w.heap.size := (Array.getElem?_eq_some_iff.1 hb).1
  have hb' : (w.alloc (.cells #[.map (some B)] 90)).heap[B]? = some (.map es clock) := (Below.heap_alloc _ _ B hB).trans hb
  obtain ⟨D0, hown, hperm, hsize⟩ := owns_map hb' hk hn hr hl h1 h2
  have hseq : SeqGives Fence.wide 2 Try.prog 85 #[.pointer (some ⟨w.heap.size, 0, none⟩)] encZ (fun ss => ss.Perm (intKeys D0)) (Maps.size D0) (w.alloc (.cells #[.map (some B)] 90)) :=
    AnyZI.keys_gives (ρ := keysA_ren) { keysA with } Fence.wide _ trivial rfl (by omega) w.heap.size B es.size D0 _ (by simp) (by simp) hown
  have cS := AnyZI.sorted_in sortedA Fence.wide 5 trivial trivial trivial trivial rfl (by omega) (sorts_in _) (enters_of Try.func84 (by kernel_rfl) rfl) 85 #[.pointer (some ⟨w.heap.size, 0, none⟩)] trivial (enters_of Try.func85 (by kernel_rfl) rfl) _ _ (by rw [hsize]; exact Nat.le_trans hl (by decide)) (by rw [hsize]; omega) _ hseq
  change CallsIn _ _ Try.prog 73 _ _ _ at cS
  refine ((callsIn_wide (n := 5)).1 cS).mono ?_
  rintro e w' ⟨v, ss, rfl, hS, hrow, hnil, hbl⟩
  have hp : ss.Perm ks := hS.trans hperm
  have hsz : (w.alloc (.cells #[.map (some B)] 90)).heap.size = w.heap.size + 1 := by simp
  rw [hsz] at hrow hbl
  rw [show ss.mergeSort (fun x y => decide (x ≤ y)) = sortK ks from mergeSort_of_perm_i hp, hp.length_eq] at hrow
  exact ⟨v, rfl, hrow, by rw [hnil]; exact ⟨fun q => by subst q; exact hp.symm.eq_nil, fun q => by subst q; exact hp.eq_nil⟩, hbl⟩

/-! ### 2. Calls and parts of regions, by hand -/
theorem ops_call {P : Program} {w : World} {ops : Array Oper} {i : Nat} {rest : List Nat} {a : Act} {Q : Exit → Act → World → Prop} {dst : Option Tmp} {f : FuncId} {fn : Func} {gargs : Array Operand} {ts : Array TypeId} {t : TypeId} {p : String} {af : Array Edge} {args : Array Value}
    (ho : ops[i]? = some { dst := dst, op := .call { callee := .value (.func f), args := gargs, argTypes := ts }, type := t, pos := p, after := af, guard := none }) (hf : P.funcs[f]? = some fn) (hb : (fn.body.isSome && fn.name != "runtime.NumGoroutine") = true) (hargs : gargs.map a.eval = args)
    (hc : Calls P f args w fun e w' => ∃ v, e = .returned v ∧ wpOpsIn (FR none) 0 P ops Q rest (a.put dst v) w') : wpOpsIn (FR none) 0 P ops Q (i :: rest) a w := by
  simp only [Bool.and_eq_true] at hb
  rw [wpOpsIn_cons]
  unfold wpOpIn
  simp only [ho]
  have hwant : Region.wanted { dst := dst, op := .call { callee := .value (.func f), args := gargs, argTypes := ts }, type := t, pos := p, after := af, guard := none } (yielded ops a.tmps) = true := rfl
  rw [hwant, if_pos rfl]
  refine ⟨fun _ _ => trivial, ?_⟩
  rw [Oper.semAt_eq _ _ _ (fun c hc => by cases hc)]
  have hrun : (execOp a.eval { dst := dst, op := .call { callee := .value (.func f), args := gargs, argTypes := ts }, type := t, pos := p, after := af, guard := none }).run P w = .ok (.enter f args) w := by
    have hga : a.eval (.func f) = .func (.func f) #[] #[] := rfl
    have e1 : (fn.name == "runtime.NumGoroutine") = false := by simpa using hb.2
    have e2 : fn.body.isNone = false := by
      have := hb.1
      cases hb0 : fn.body with
      | none => rw [hb0] at this; cases this
      | some c => rfl
    simp only [execOp, resolve, hga, hargs, Deferred.ofValue, Sem.run_bind, Sem.run_pure, Result.andThen_ok, invoke, callFunc, run_program, hf, e1, e2]
    simp
  rw [hrun]
  simp only [Oper.uponIn]
  refine ⟨fun hd => by simp [FR, Fence.wide] at hd, ?_⟩
  have hin : CallsIn (FR none) 0 P f args w _ := callsIn_wide.2 hc
  refine hin.mono fun e w' ⟨v, he, h⟩ => ?_
  subst he
  exact h

theorem exec_assign {P : Program} {w : World} {o : Oper} {ρ : Operand → Value} {y : Operand} {v : Value} (ho : o.op = .assign y) (hy : ρ y = v) : (execOp ρ o).run P w = .ok (.value v) w := by
  subst hy
  unfold execOp
  rw [ho]
  rfl

/-- The first operations of a region; the others by hand. -/
theorem At.pre {P : Program} {x : Cx} {L L1 : Tmps} {O O1 : Objs} {base : Nat} {ι0 : Lay} {h0 : AHeap} {w0 w : World} {D : List Deferred} {a : Act} {Q : Exit → Act → World → Prop} (hm : P.follows .mixedOrders = true) (hr0 : HRel base ι0 h0 w0) (hat : At x L O base ι0 h0 w0 D a w) {pl : List Oper} {ops : Array Oper} {i0 : Nat} {rest : List Nat}
    (hx : x.ρ = .late) (n : Nat) (hops1 : ops.toList.take n = pl) (hn : pl.length = n) (hsz : List.range ops.size = List.range' 0 n ++ rest) (hreg : regOk ops x.m = true) (hpre : WXL P x ops noMk 0 pl L O (fun s => St x L1 O1 s))
    (h : ∀ a w, At x L1 O1 base ι0 h0 w0 D a w → wpOpsIn (FR none) 0 P ops Q rest a w) : (Code.region i0 ops false).wpIn (FR none) 0 P Q a w := by
  obtain ⟨ι, s, g1, g2, g3, g4, g5, g6⟩ := hat
  refine wpIn_region ?_
  rw [hsz, ← hn]
  refine WXL.wp hm hpre hx ⟨ops.toList.drop n, by rw [List.drop_zero, ← hops1, List.take_append_drop]⟩ rest hreg g1 g2 fun s2 ι2 a2 w2 hK r1 r2 r3 r4 r5 r6 => ?_
  exact h a2 w2 ⟨ι2, s2, hK, r1, More.trans hr0 g2.heap g3 r2 g4.size, Keep0.trans hr0 g2.heap g3 r2 g4 r3, r4.trans g5, g6.trans r6⟩

/-! ### 3. Files -/
def filesV (n : Nat) (mx : MapX) : Value := if keysX mx = [] then .slice none 0 0 else .slice (some ⟨n, 0, none⟩) (keysX mx).length (keysX mx).length
def filesH (h : AHeap) (mx : MapX) : AHeap := if keysX mx = [] then h else h.new (.cells 1 false h.n none 0 ((sortK (keysX mx)).map I))

theorem files_sem {h : AHeap} {d bm : Nat} {ro1 ro2 off armed : Bool} {room lft : Int} {mx : MapX} (h1 : Is h d ⟨0, ro1, dObj bm room off armed lft⟩) (h2 : Is h bm ⟨2, ro2, mcells mx⟩) (hk : (keysX mx).Nodup) (hr : ∀ k ∈ keysX mx, 0 ≤ k ∧ k < 64) (hl : (keysX mx).length ≤ 16777216) :
    ∀ ρ, CallSem Try.prog ρ 60 #[Ptr d 0] h (filesV h.n mx) (filesH h mx) := by
  have hm : Try.prog.follows .mixedOrders = true := Checked.mixed Try.checked
  refine callSem_of Try.func60 rfl ?_
  intro base ι w a hs hd
  have hr1 : HRel base ι h w := hs.heap
  obtain ⟨g, hg⟩ : ∃ g, g = h.rox fun _ => true := ⟨_, rfl⟩
  have hr0 : HRel base ι g w := by rw [hg]; exact hr1.rox _
  have i1 : Is g d ⟨0, true, dObj bm room off armed lft⟩ := by rw [hg]; exact h1.rox _
  have i2 : Is g bm ⟨2, true, mcells mx⟩ := by rw [hg]; exact h2.rox _
  have hat : At ⟨9, false, h, .late⟩ (argsL [Ptr d 0] 0) (dO d bm true true room off armed lft mx) base ι g w [] a w :=
    ⟨ι, enterA Try.f60 #[Ptr d 0] g, ⟨rfl, has_args _ 0 fun j v hj => by simp [enterA, Array.getD_eq_getD_getElem?, hj], sat2 hr0.heapWF i1 i2 (by intro q; cases q), fun q => by cases q⟩, ⟨hs.size, hs.tmps, hr0, hs.base⟩, More.refl hr0, KeepsBy.zero (Keeps.refl ι _ w), hd, Stay.refl _⟩
  refine At.seq (L1 := [(2, .slice none 0 0), (0, Ptr d 0)]) (O1 := dO d bm true true room off armed lft mx) hm hr0 hat rfl (show codeOk 9 _ = true by decide +kernel) ?_ (fun a1 w1 hat1 => ?_)
  refine WX.region rfl ?_
  refine WXL.assign Met.none rfl ?_
  refine WXL.nilK ?_
  exact fun s hs => ⟨rfl, hs.tl [0, 1] 2⟩
  refine wpIn_seq (At.pre (L1 := [(6, Mp bm)]) (O1 := dO d bm true true room off armed lft mx) (rest := [4, 5, 6]) hm hr0 hat1 rfl 4 rfl rfl rfl (show regOk _ 9 = true by decide +kernel) ?_ (fun a2 w2 hat2 => ?_))
  · skip
    refine WXL.move Met.none rfl ?_
    refine WXL.nilCheck Met.none rfl ?_
    first | refine WXL.fieldAddr Met.none rfl Try.underlying92 rfl sz90 rfl ?_ | refine WXL.faS Met.none rfl Try.underlying92 rfl sz90 ?_
    first | refine WXL.ld Met.none rfl agg90 ?_ | refine WXL.ldS Met.none rfl agg90 ?_
    refine WXL.nilK ?_
    exact (fun s hs => hs.tl [0, 1] 2)
  obtain ⟨ι2, s2, q1, q2, q3, q4, q5, q6⟩ := hat2
  have hold : ∀ b, b < h.n → s2.h.o b = g.o b := fun b hb => q6.2 b (by rw [hg]; exact hb) (by rw [hg]; show isRo (mkro (h.o b)) = true; cases h.o b <;> rfl)
  have hblk : ∀ B, B < w.heap.size → w2.heap[B]? = w.heap[B]? := fun B hB => q4.block B hB fun b e r1 r2 => .inl (hold b (hr1.lt b e r1))
  obtain ⟨f2, k2, o2⟩ := q1.sat.at (j := 1) (b := bm) (x := ⟨2, true, mcells mx⟩) rfl
  have hrel := operand_rel (x := .tmp 6) q2.tmps rfl
  rw [q1.t.ev (y := .tmp 6) rfl] at hrel
  obtain ⟨em, r1, r2, r3⟩ := map_inv hrel
  obtain ⟨hone, es, clock, hes, c, hc0, hp, hp2, hp3⟩ := q2.heap.maps bm em _ _ _ _ _ _ r1 r2 o2
  unfold mcells at hc0
  injection hc0 with e1 e2
  subst e2
  have hkeys : es.toList.map (·.key) = (keysX mx).map I := by rw [pair_keys hp]; unfold keysX; rw [List.map_map]; rfl
  have hs2 : a2.tmps.size = 9 := q2.size.trans q1.m
  refine ops_call rfl Try.func74 (by decide +kernel) (args := #[.map (some em.block)]) (by simp [r3]) ((keys_calls em.block w2).mono ?_)
  rintro e w3 ⟨rfl, rfl⟩
  refine ⟨_, rfl, ?_⟩
  refine ops_call rfl Try.func73 (by decide +kernel) (args := #[.func (.func 85) #[] #[.pointer (some ⟨w2.heap.size, 0, none⟩)]]) ?_ ((sorted_calls hes hkeys hk hr hl hp2 hp3).mono ?_)
  · have e7 : ∀ v, (a2.put (some 7) v).eval (.tmp 7) = v := fun v => by
      show (a2.put (some 7) v).tmps.getD 7 undef = v
      rw [put_getD hs2 (by intro d hd; cases hd; decide), if_pos rfl]
    simp [e7]
  rintro e w4 ⟨v, rfl, hrow, hnil, hbl⟩
  refine ⟨v, rfl, ?_⟩
  obtain ⟨F7, hF7⟩ : ∃ F7 : Value, F7 = .func (.func 85) #[] #[.pointer (some ⟨w2.heap.size, 0, none⟩)] := ⟨_, rfl⟩
  rw [← hF7]
  have hs3 : (a2.put (some 7) F7).tmps.size = 9 := by simp [Act.put, hs2]
  have hs4 : ((a2.put (some 7) F7).put (some 8) v).tmps.size = 9 := by simp [Act.put, hs2]
  have e8 : ((a2.put (some 7) F7).put (some 8) v).eval (.tmp 8) = v := by
    show ((a2.put (some 7) F7).put (some 8) v).tmps.getD 8 undef = v
    rw [put_getD hs3 (by intro d hd; cases hd; decide), if_pos rfl]
  refine opsIn_value rfl rfl (fun c h => by cases h) (w1 := w4) (v := v) (exec_assign (y := .tmp 8) rfl e8) ?_
  refine wpIn_ret ⟨.inr rfl, ?_⟩
  have e2 : (((a2.put (some 7) F7).put (some 8) v).put (some 2) v).tmps.getD 2 undef = v := by
    rw [put_getD hs4 (by intro d hd; cases hd; decide), if_pos rfl]
  have hres : (results Try.f60 (((a2.put (some 7) F7).put (some 8) v).put (some 2) v).tmps).run Try.prog w4 = .ok v w4 := by
    obtain ⟨tm, htm⟩ : ∃ tm, tm = (((a2.put (some 7) F7).put (some 8) v).put (some 2) v).tmps := ⟨_, rfl⟩
    rw [← htm] at e2 ⊢
    have : results Try.f60 tm = pure (tm.getD 2 undef) := by
      simp [results, Try.f60]
    rw [this, e2]
    rfl
  have hsz2 : (w2.alloc (.cells #[.map (some em.block)] 90)).heap.size = w2.heap.size + 1 := by simp
  have hsz : w.heap.size ≤ w4.heap.size := by
    have h3 := hbl.size
    have h4 := q4.size
    omega
  have hb4 : ∀ B, B < w.heap.size → w4.heap[B]? = w.heap[B]? := fun B hB => by
    have h4 := q4.size
    rw [hbl.block B (by omega), Below.heap_alloc _ _ B (by omega), hblk B hB]
  have ho4 : w4.os = w.os ∧ w4.tape = w.tape ∧ w4.output = w.output := ⟨by rw [hbl.os]; exact q4.os, by rw [hbl.tape]; exact q4.tape, by rw [hbl.output]; exact q4.output⟩
  have hr4 : HRel base ι h w4 := hr1.pre hsz hb4
  refine ⟨q5, ?_⟩
  by_cases hk0 : keysX mx = []
  · have hv := hnil.2 hk0
    subst hv
    unfold filesV filesH
    rw [if_pos hk0, if_pos hk0]
    exact ⟨ι, _, hres, More.refl hr1, .atom rfl, hr4, Keep0.grow ho4.1 ho4.2.1 ho4.2.2 hsz hb4⟩
  · unfold filesV filesH
    rw [if_neg hk0, if_neg hk0]
    rcases hrow.2 with ⟨h0, _⟩ | ⟨g', cap, cur, hv, hgb, hg', hn1, hcap, hcs, htake⟩
    · exact absurd (hnil.1 h0) hk0
    have h4 := q4.size
    have hg4 : g' < w4.heap.size := (Array.getElem?_eq_some_iff.1 hg').1
    have hcell : ∀ i, w4.cell? ⟨g', i, none⟩ = cur[i]? := fun i => by unfold World.cell?; simp only [hg']; rfl
    have hfro : ∀ i, w4.frozen? ⟨g', i, none⟩ = false := fun i => by unfold World.frozen?; simp only [hg']; simp
    have hsl : (sortK (keysX mx)).length = (keysX mx).length := List.length_mergeSort _
    rw [Nat.mul_one] at hcs htake
    have hT : Turned w w4 fun _ _ => False := ⟨ho4.1, ho4.2.1, ho4.2.2, hsz, fun B hB _ => hb4 B hB, fun B o u hc _ => by rw [(cell_eq (hb4 B (cell_lt hc))).1]; exact hc, fun B o u hc => ⟨⟨u, by rw [(cell_eq (hb4 B (cell_lt hc))).1]; exact hc⟩, (cell_eq (hb4 B (cell_lt hc))).2⟩⟩
    obtain ⟨n1, n2, n3⟩ := new_ok' hr1 hs.base hT (en := ⟨g', 0, cap, 1, false⟩) (sz := 1) (cn := (sortK (keysX mx)).map I) ⟨by show w.heap.size ≤ g'; omega, hg4⟩ rfl (fun _ => by rw [List.length_map, hsl]; exact hn1) (fun _ x hx => by
        obtain ⟨k, _, rfl⟩ := List.mem_map.1 hx; rfl) (fun _ i v hi => ⟨v, by
          rw [← htake] at hi
          have hi2 : i < (keysX mx).length := by
            have h5 := (List.getElem?_eq_some_iff.1 hi).1
            rw [List.length_take] at h5
            omega
          rw [List.getElem?_take_of_lt hi2, Array.getElem?_toList] at hi
          show w4.cell? ⟨g', 0 + i, none⟩ = _
          rw [hcell, Nat.zero_add]
          exact hi, by
          obtain ⟨k, _, rfl⟩ := List.mem_map.1 (List.mem_of_getElem? hi)
          exact .atom rfl⟩) (fun i hi => ⟨by
          show ∃ v, w4.cell? ⟨g', 0 + i, none⟩ = _
          rw [hcell, Nat.zero_add]
          exact ⟨_, Array.getElem?_eq_getElem (by rw [hcs]; exact hi)⟩, hfro _⟩)
    refine ⟨_, v, hres, n3, ?_, n1, Keep0.grow ho4.1 ho4.2.1 ho4.2.2 hsz hb4⟩
    rw [hv]
    exact .slice (e := ⟨g', 0, cap, 1, false⟩) (by unfold Lay.add; rw [if_pos rfl]) rfl hn1 (by show 0 + cap * 1 ≤ cap; omega)

theorem files_direct {h : AHeap} {d bm : Nat} {ro1 ro2 off armed : Bool} {room lft : Int} {mx : MapX} (h1 : Is h d ⟨0, ro1, dObj bm room off armed lft⟩) (h2 : Is h bm ⟨2, ro2, mcells mx⟩) (hk : (keysX mx).Nodup) (hr : ∀ k ∈ keysX mx, 0 ≤ k ∧ k < 64) (hl : (keysX mx).length ≤ 16777216) :
    Direct Try.prog 60 #[Ptr d 0] h (filesV h.n mx) (filesH h mx) :=
  ⟨by
    unfold filesH
    split
    · exact .inl rfl
    · exact .inr (.inl ⟨_, _, rfl⟩), fun F ρ => by
    obtain ⟨f1, k1, e1⟩ := h1
    obtain ⟨f2, k2, e2⟩ := h2
    obtain ⟨r1, q1⟩ := un_cells (F := F) e1
    obtain ⟨r2, q2⟩ := un_cells (F := F) e2
    have := files_sem (ro1 := r1) (ro2 := r2) (off := off) (armed := armed) (room := room) (lft := lft) (bm := bm) (mx := mx) ⟨f1, k1, q1⟩ ⟨f2, k2, q2⟩ hk hr hl ρ
    have e3 : (filesH h mx).un F = filesH (h.un F) mx := by
      unfold filesH
      split
      · rfl
      · rw [un_new]; rfl
    rw [e3]
    exact this⟩

end Go.Proofs.Ythekokdpplobhaa.Eng

set_option linter.unusedVariables false
set_option linter.unusedSimpArgs false
namespace Go.Proofs.Ythekokdpplobhaa.Eng

/-! ### 1. Numbers of files -/
def fnos (D : Dk) : List Int := sortK (D.fs.map (·.1))

theorem used_count : ∀ {fs : List (Int × Fi)}, (∀ e ∈ fs, FiOk e) → (fs.length : Int) ≤ used fs
  | [], _ => Int.le_refl _
  | e :: l, h => by
    have h1 := used_count fun e' he => h e' (List.mem_cons_of_mem _ he)
    have h2 := (h e (List.mem_cons_self ..)).2.1
    have h3 : 0 < e.2.bs.length := List.length_pos_iff.2 h2
    simp only [used, List.length_cons]
    omega

theorem DkI.keysX {R : Objs} {D : Dk} {mx : MapX} (h : DkI R D mx) : Eng.keysX mx = D.fs.map (·.1) := by
  unfold Eng.keysX
  rw [keys_es, h.di.rel.keys]

theorem sortK_perm (l : List Int) : (sortK l).Perm l := List.mergeSort_perm _ _

theorem fnos_nd {R : Objs} {D : Dk} {mx : MapX} (h : DkI R D mx) : (fnos D).Nodup := (sortK_perm _).nodup_iff.2 h.di.nd
theorem fnos_mem {D : Dk} {n : Int} : n ∈ fnos D ↔ n ∈ D.fs.map (·.1) := (sortK_perm _).mem_iff
theorem fnos_len {R : Objs} {D : Dk} {mx : MapX} (h : DkI R D mx) : (fnos D).length ≤ 16777216 := by
  have h1 := used_count h.ok
  have h2 := h.used
  have h3 := h.room
  have h4 : (fnos D).length = D.fs.length := by
    unfold fnos
    rw [(sortK_perm _).length_eq, List.length_map]
  omega
theorem fnos_range {R : Objs} {D : Dk} {mx : MapX} (h : DkI R D mx) {n : Int} (hn : n ∈ fnos D) : 0 ≤ n ∧ n < 64 := by
  obtain ⟨e, he, rfl⟩ := List.mem_map.1 (fnos_mem.1 hn)
  exact (h.ok e he).1

theorem files_ok (q : Bool) (R : Objs) {R0 : Objs} (d bm : Nat) (D : Dk) (mx : MapX) (hD : DkI R0 D mx) :
    Spec Try.prog q 60 #[Ptr d 0] (dkO d bm D mx R) fun v O' => ∃ a c G, v = .slice a (fnos D).length c ∧ Grow 1 a (fnos D).length c ((fnos D).map I) G ∧ O' = G ++ dkO d bm D mx R :=
  Spec.direct fun g hs => by
    have hk := hD.keysX
    have hd := files_direct (ro1 := false) (ro2 := false) (bm := bm) (mx := mx) (hs.at (j := 0) (b := d) rfl) (hs.at (j := 1) rfl) (by rw [hk]; exact hD.di.nd) (by
      rw [hk]
      intro k hk
      obtain ⟨e, he, rfl⟩ := List.mem_map.1 hk
      exact (hD.ok e he).1) (by
      have := fnos_len hD
      unfold fnos at this
      rw [(sortK_perm _).length_eq] at this
      rw [hk]
      exact this)
    have hf : fnos D = sortK (Eng.keysX mx) := by unfold fnos; rw [hk]
    have hl : (fnos D).length = (Eng.keysX mx).length := by rw [hf]; exact List.length_mergeSort _
    unfold filesV filesH at hd
    by_cases h0 : Eng.keysX mx = []
    · rw [if_pos h0, if_pos h0] at hd
      refine ⟨_, g, _, hd, ⟨none, 0, [], ?_, ?_, rfl⟩, hs, fun _ => Old.refl g⟩
      · rw [hl, h0]; rfl
      · rw [hl, hf, h0, show sortK [] = [] from by simp [sortK]]; exact .nil
    · rw [if_neg h0, if_neg h0] at hd
      refine ⟨_, _, _, hd, ⟨_, _, [(g.n, ⟨1, false, (fnos D).map I⟩)], by rw [hl], .row (by simp), rfl⟩, ?_, fun _ => ⟨Nat.le_succ _, fun b hb => ?_⟩⟩
      · rw [← hf]
        exact hs.new 1 _
      · show (if b = g.n then _ else g.o b) = _
        rw [if_neg (by omega)]

/-! ### 2. A crash -/
/-- How many loose bytes of the i-th file are kept. -/
def keepN (keep : List Int) (i : Nat) (f : Fi) : Int := if i < keep.length then max 0 (min (nth keep i) (f.bs.length - f.d)) else 0
def cutF (keep : List Int) (i : Nat) (f : Fi) : Fi := ⟨f.bs.take (f.d + keepN keep i f).toNat, f.d⟩
def cutAt (D : Dk) (keep : List Int) (i : Nat) : Int × Fi := (nth (fnos D) i, cutF keep i (getF D.fs (nth (fnos D) i)))
def cuts (D : Dk) (keep : List Int) (i : Nat) : List (Int × Fi) := (List.range i).map (cutAt D keep)

def looseN (f : Fi) : Nat := f.bs.length - f.d.toNat
def looseSum : List (Int × Fi) → Nat
  | [] => 0
  | e :: l => looseN e.2 + looseSum l

/-- A byte with a bit turned. -/
def flipB (a : Int) (k : Nat) : Int := IntKind.wrap .u8 ((BitVec.ofInt 8 a) ^^^ (BitVec.ofInt 8 (IntKind.wrap .u8 (1 * 2 ^ (min k 8))))).toNat

/-- The p-th loose byte's bit turned. -/
def flipC (p k : Nat) : List (Int × Fi) → List (Int × Fi)
  | [] => []
  | e :: l => if p < looseN e.2 then (e.1, ⟨e.2.bs.set (e.2.d.toNat + p) (flipB (nth e.2.bs (e.2.d.toNat + p)) k), e.2.d⟩) :: l else e :: flipC (p - looseN e.2) k l

def crashC (D : Dk) (keep : List Int) (flip : Int) : List (Int × Fi) :=
  let l := cuts D keep (fnos D).length
  let m := 8 * looseSum l
  if 0 ≤ flip ∧ 0 < m then flipC (flip.toNat % m / 8) (7 - flip.toNat % m % 8) l else l

theorem cuts_succ (D : Dk) (keep : List Int) (i : Nat) : cuts D keep (i + 1) = cuts D keep i ++ [cutAt D keep i] := by
  unfold cuts
  rw [List.range_succ, List.map_append]
  rfl

theorem looseSum_app : ∀ (a b : List (Int × Fi)), looseSum (a ++ b) = looseSum a + looseSum b
  | [], b => by simp [looseSum]
  | e :: a, b => by
    rw [List.cons_append]
    simp only [looseSum]
    rw [looseSum_app a b]
    omega

theorem keepN_range (keep : List Int) (i : Nat) {f : Fi} (h : 0 ≤ f.d ∧ f.d ≤ f.bs.length) : 0 ≤ keepN keep i f ∧ f.d + keepN keep i f ≤ f.bs.length := by
  unfold keepN
  split <;> omega

theorem cutF_len (keep : List Int) (i : Nat) {f : Fi} (h : 0 ≤ f.d ∧ f.d ≤ f.bs.length) : ((cutF keep i f).bs.length : Int) = f.d + keepN keep i f := by
  have := keepN_range keep i h
  unfold cutF
  simp only [List.length_take]
  omega

theorem used_same : ∀ {a b : List (Int × Fi)}, a.map (fun e => (e.1, e.2.bs.length)) = b.map (fun e => (e.1, e.2.bs.length)) → used a = used b
  | [], [], _ => rfl
  | [], _ :: _, h => by simp at h
  | _ :: _, [], h => by simp at h
  | e :: a, f :: b, h => by
    simp only [List.map_cons, List.cons.injEq, Prod.mk.injEq] at h
    simp only [used]
    rw [used_same h.2, h.1.2]

end Go.Proofs.Ythekokdpplobhaa.Eng

set_option linter.unusedVariables false
set_option linter.unusedSimpArgs false
namespace Go.Proofs.Ythekokdpplobhaa.Eng

/-- A file that has been cut, and its own row. -/
structure OwnF where
  n : Int
  f : Fi
  a : Option Addr
  c : Nat
  G : Objs

def OwnF.nf (o : OwnF) : Int × Fi := (o.n, o.f)
def rowsO (ow : List OwnF) : Objs := ow.flatMap (·.G)
def looseV1 (a : Option Addr) (dn k : Nat) : List Value := (List.range' dn k).map (ePtr a)
def looseV (ow : List OwnF) : List Value := ow.flatMap fun o => looseV1 o.a o.f.d.toNat (looseN o.f)

theorem rowsO_app (a b : List OwnF) : rowsO (a ++ b) = rowsO a ++ rowsO b := List.flatMap_append ..
theorem looseV_app (a b : List OwnF) : looseV (a ++ b) = looseV a ++ looseV b := List.flatMap_append ..
theorem rowsO_cons (o : OwnF) (b : List OwnF) : rowsO (o :: b) = o.G ++ rowsO b := rfl
theorem looseV_cons (o : OwnF) (b : List OwnF) : looseV (o :: b) = looseV1 o.a o.f.d.toNat (looseN o.f) ++ looseV b := rfl
theorem looseV1_len (a : Option Addr) (dn k : Nat) : (looseV1 a dn k).length = k := by unfold looseV1; rw [List.length_map, List.length_range']
theorem looseV1_succ (a : Option Addr) (dn k : Nat) : looseV1 a dn (k + 1) = looseV1 a dn k ++ [ePtr a (dn + k)] := by
  unfold looseV1
  rw [List.range'_1_concat, List.map_append]
  rfl
theorem looseV1_get (a : Option Addr) (dn k r : Nat) (h : r < k) : (looseV1 a dn k)[r]? = some (ePtr a (dn + r)) := by
  unfold looseV1
  rw [List.getElem?_map, List.getElem?_range' h]
  simp

theorem looseV_len : ∀ ow : List OwnF, (looseV ow).length = looseSum (ow.map OwnF.nf)
  | [] => rfl
  | o :: ow => by
    rw [looseV_cons, List.length_append, looseV1_len, looseV_len ow, List.map_cons]
    rfl

theorem flip_split (k : Nat) : ∀ (ow : List OwnF) (p : Nat), p < looseSum (ow.map OwnF.nf) → ∃ ow1 o ow2 r, ow = ow1 ++ o :: ow2 ∧ r < looseN o.f ∧ (looseV ow)[p]? = some (ePtr o.a (o.f.d.toNat + r)) ∧
      flipC p k (ow.map OwnF.nf) = ow1.map OwnF.nf ++ (o.n, ⟨o.f.bs.set (o.f.d.toNat + r) (flipB (nth o.f.bs (o.f.d.toNat + r)) k), o.f.d⟩) :: ow2.map OwnF.nf
  | [], p, h => absurd h (Nat.not_lt_zero _)
  | o :: ow, p, h => by
    rw [List.map_cons] at h ⊢
    by_cases hp : p < looseN o.f
    · refine ⟨[], o, ow, p, rfl, hp, ?_, ?_⟩
      · rw [looseV_cons, List.getElem?_append_left (by rw [looseV1_len]; exact hp)]
        exact looseV1_get _ _ _ _ hp
      · unfold flipC
        rw [if_pos (show p < looseN (OwnF.nf o).2 from hp)]
        rfl
    · have h2 : p - looseN o.f < looseSum (ow.map OwnF.nf) := by
        have : looseSum (OwnF.nf o :: ow.map OwnF.nf) = looseN o.f + looseSum (ow.map OwnF.nf) := rfl
        omega
      obtain ⟨ow1, o', ow2, r, h3, h4, h5, h6⟩ := flip_split k ow (p - looseN o.f) h2
      refine ⟨o :: ow1, o', ow2, r, by rw [h3]; rfl, h4, ?_, ?_⟩
      · rw [looseV_cons, List.getElem?_append_right (by rw [looseV1_len]; omega), looseV1_len]
        exact h5
      · unfold flipC
        rw [if_neg (show ¬ p < looseN (OwnF.nf o).2 from hp)]
        show OwnF.nf o :: flipC (p - looseN o.f) k _ = _
        rw [h6]
        rfl

theorem mget_app {α : Type} (k : Int) : ∀ (a b : List (Int × α)), mget k (a ++ b) = (mget k a).or (mget k b)
  | [], b => by simp [mget]
  | (n, v) :: a, b => by
    rw [List.cons_append]
    simp only [mget]
    split
    · simp
    · exact mget_app k a b

theorem mget_none {α : Type} {k : Int} : ∀ {m : List (Int × α)}, k ∉ m.map (·.1) → mget k m = none
  | [], _ => rfl
  | (n, v) :: m, h => by
    simp only [List.map_cons, List.mem_cons, not_or] at h
    simp only [mget]
    rw [if_neg h.1, mget_none h.2]

theorem mget_some {α : Type} {k : Int} {v : α} : ∀ {m : List (Int × α)}, (m.map (·.1)).Nodup → (k, v) ∈ m → mget k m = some v
  | [], _, h => by simp at h
  | (n, u) :: m, hn, h => by
    simp only [List.map_cons, List.nodup_cons] at hn
    simp only [mget]
    rcases List.mem_cons.1 h with h | h
    · injection h with h1 h2; subst h1 h2; rw [if_pos rfl]
    · rw [if_neg (fun q => hn.1 (by rw [← q]; exact List.mem_map.2 ⟨_, h, rfl⟩))]
      exact mget_some hn.2 h

theorem mget_put {α : Type} {k j : Int} {u : α} : ∀ {m : List (Int × α)}, mget j (mput k u m) = if j = k then some u else mget j m
  | [] => by simp only [mput, mget]
  | (n, v) :: m => by
    simp only [mput]
    by_cases q : k = n
    · rw [if_pos q]
      subst q
      simp only [mget]
      split <;> rfl
    · rw [if_neg q]
      simp only [mget]
      rw [mget_put]
      by_cases h1 : j = n
      · rw [if_pos h1, if_neg (fun e => q (e.symm.trans h1)), if_pos h1]
      · rw [if_neg h1, if_neg h1]

theorem mget_del {α : Type} {k j : Int} : ∀ {m : List (Int × α)}, (m.map (·.1)).Nodup → mget j (mdel k m) = if j = k then none else mget j m
  | [], _ => by simp [mdel, mget]
  | (n, v) :: m, hn => by
    simp only [List.map_cons, List.nodup_cons] at hn
    simp only [mdel]
    by_cases q : k = n
    · rw [if_pos q]
      subst q
      by_cases h1 : j = k
      · rw [if_pos h1]; subst h1; exact mget_none hn.1
      · rw [if_neg h1]; simp only [mget]; rw [if_neg h1]
    · rw [if_neg q]
      simp only [mget]
      rw [mget_del hn.2]
      by_cases h1 : j = n
      · rw [if_pos h1, if_neg (fun e => q (e.symm.trans h1)), if_pos h1]
      · rw [if_neg h1, if_neg h1]

theorem get_set' {fs : List (Int × Fi)} {k j : Int} {f : Fi} (hn : (fs.map (·.1)).Nodup) : getF (setF fs k f) j = if j = k then (if f.bs = [] then ⟨[], 0⟩ else f) else getF fs j := by
  unfold setF getF
  by_cases hb : f.bs = []
  · rw [if_pos hb, mget_del (mput_nd hn), mget_put]
    by_cases h : j = k
    · rw [if_pos h, if_pos h, if_pos hb]; rfl
    · rw [if_neg h, if_neg h, if_neg h]
  · rw [if_neg hb, mget_put]
    by_cases h : j = k
    · rw [if_pos h, if_pos h, if_neg hb]; rfl
    · rw [if_neg h, if_neg h]

theorem setX_get {mx : MapX} {k j : Int} {v : Value} {n : Nat} (hn : (mx.kv.map (·.1)).Nodup) : mget j (setX mx k v n).kv = if j = k then (if n = 0 then none else some v) else mget j mx.kv := by
  unfold setX
  by_cases h0 : n = 0
  · rw [if_pos h0, MapX.kv_del, MapX.kv_put, mget_del (mput_nd hn), mget_put]
    by_cases h : j = k
    · rw [if_pos h, if_pos h, if_pos h0]
    · rw [if_neg h, if_neg h, if_neg h]
  · rw [if_neg h0, MapX.kv_put, mget_put]
    by_cases h : j = k
    · rw [if_pos h, if_pos h, if_neg h0]
    · rw [if_neg h, if_neg h]

theorem mem_set {fs : List (Int × Fi)} {k : Int} {f : Fi} {e : Int × Fi} (h : e ∈ setF fs k f) : e.1 = k ∨ e ∈ fs := by
  unfold setF at h
  have : e ∈ mput k f fs := by
    split at h
    · exact mdel_sub.subset h
    · exact h
  rcases mput_all this with q | q
  · exact .inl (by rw [q])
  · exact .inr q

/-- The loop over the files, between two rounds. -/
structure CrS where
  i : Nat
  ow : List OwnF
  D : Dk
  mx : MapX
  a : Option Addr
  c : Nat
  G : Objs

structure CrI (D0 : Dk) (keep : List Int) (R0 : Objs) (q : CrS) : Prop where
  i : q.i ≤ (fnos D0).length
  ow : q.ow.map OwnF.nf = cuts D0 keep q.i
  row : ∀ o ∈ q.ow, Grow 1 o.a o.f.bs.length o.c (o.f.bs.map B8) o.G ∧ Bytes o.f.bs
  val : ∀ o ∈ q.ow, o.f.bs ≠ [] → mget o.n q.mx.kv = some (fileV o.a o.f.bs.length o.c o.f.d)
  get : ∀ m, getF q.D.fs m = (mget m (cuts D0 keep q.i)).getD (getF D0.fs m)
  keys : ∀ e ∈ q.D.fs, e.1 ∈ fnos D0
  dk : DkI (rowsO q.ow ++ R0) q.D q.mx
  same : q.D.room = D0.room ∧ q.D.off = D0.off ∧ q.D.armed = D0.armed ∧ q.D.left = D0.left
  loose : Grow 1 q.a (looseV q.ow).length q.c (looseV q.ow) q.G

theorem cuts_keys (D0 : Dk) (keep : List Int) (i : Nat) (hi : i ≤ (fnos D0).length) : (cuts D0 keep i).map (·.1) = (fnos D0).take i := by
  unfold cuts
  rw [List.map_map]
  apply List.ext_getElem
  · rw [List.length_map, List.length_range, List.length_take]; omega
  · intro j h1 h2
    rw [List.length_map, List.length_range] at h1
    simp only [List.getElem_map, List.getElem_range, Function.comp, cutAt, List.getElem_take]
    exact nth_get (by omega)

theorem take_nth_notin {l : List Int} (hn : l.Nodup) {i : Nat} (hi : i < l.length) : nth l i ∉ l.take i := by
  intro h
  rw [List.mem_take_iff_getElem] at h
  obtain ⟨j, hj, he⟩ := h
  rw [nth_get hi] at he
  have := (List.getElem_inj hn).1 he
  omega

/-! ### The turned bit -/
theorem FRel.of {R : Objs} : ∀ {m : List (Int × Value)} {fs : List (Int × Fi)}, m.map (·.1) = fs.map (·.1) → (m.map (·.1)).Nodup → (∀ k v f, mget k m = some v → mget k fs = some f → FileOk R v f) → FRel R m fs
  | [], [], _, _, _ => .nil
  | [], _ :: _, h, _, _ => by simp at h
  | _ :: _, [], h, _, _ => by simp at h
  | (k, v) :: m, (k', f) :: fs, h, hn, ha => by
    simp only [List.map_cons, List.cons.injEq] at h
    obtain ⟨h1, h2⟩ := h
    subst h1
    simp only [List.map_cons, List.nodup_cons] at hn
    refine .cons (ha k v f (by simp [mget]) (by simp [mget])) (FRel.of h2 hn.2 fun j u g hu hg => ?_)
    have hj : j ≠ k := fun q => hn.1 (by
      subst q
      exact List.mem_map.2 ⟨_, mget_mem hu, rfl⟩)
    exact ha j u g (by simp only [mget]; rw [if_neg hj]; exact hu) (by simp only [mget]; rw [if_neg hj]; exact hg)

theorem mput_keys {α : Type} {k : Int} {u : α} : ∀ {m : List (Int × α)}, k ∈ m.map (·.1) → (mput k u m).map (·.1) = m.map (·.1)
  | [], h => by simp at h
  | (n, v) :: m, h => by
    simp only [mput]
    by_cases q : k = n
    · rw [if_pos q]; subst q; rfl
    · rw [if_neg q]
      simp only [List.map_cons, List.mem_cons] at h ⊢
      rw [mput_keys (h.resolve_left q)]

theorem rowsO_count {o : OwnF} (Q : Nat × Ent → Bool) : ∀ {ow : List OwnF}, o ∈ ow → o.G.countP Q ≤ (rowsO ow).countP Q
  | x :: ow, h => by
    rw [rowsO_cons, List.countP_append]
    rcases List.mem_cons.1 h with rfl | h
    · omega
    · have := rowsO_count Q h
      omega

theorem mem_some {α : Type} {k : Int} : ∀ {m : List (Int × α)}, k ∈ m.map (·.1) → ∃ v, mget k m = some v
  | [], h => by simp at h
  | (n, v) :: m, h => by
    simp only [mget]
    by_cases q : k = n
    · rw [if_pos q]; exact ⟨v, rfl⟩
    · rw [if_neg q]
      simp only [List.map_cons, List.mem_cons] at h
      exact mem_some (h.resolve_left q)

theorem get_hardE (fs : List (Int × Fi)) (k : Int) : getF (hardAll fs) k = (getF fs k).hard := by
  unfold getF hardAll
  induction fs with
  | nil => rfl
  | cons e l ih =>
    obtain ⟨n, f⟩ := e
    simp only [List.map_cons, mget]
    by_cases q : k = n
    · rw [if_pos q, if_pos q]; rfl
    · rw [if_neg q, if_neg q]; exact ih

theorem crash_get {D0 : Dk} {keep : List Int} {R0 : Objs} {q : CrS} (h : CrI D0 keep R0 q) (hq : q.i = (fnos D0).length) (m : Int) : getF q.D.fs m = (mget m (cuts D0 keep (fnos D0).length)).getD ⟨[], 0⟩ := by
  rw [h.get m, hq]
  by_cases hm : m ∈ fnos D0
  · obtain ⟨v, hv⟩ := mem_some (m := cuts D0 keep (fnos D0).length) (k := m) (by rw [cuts_keys D0 keep _ (Nat.le_refl _), List.take_length]; exact hm)
    rw [hv]; rfl
  · have : getF D0.fs m = ⟨[], 0⟩ := by
      unfold getF
      rw [mget_none (fun e => hm (fnos_mem.2 e))]
      rfl
    rw [this]

theorem crash_flip {D0 : Dk} {keep : List Int} {R0 : Objs} {q : CrS} (h : CrI D0 keep R0 q) (hq : q.i = (fnos D0).length) (hnd : (fnos D0).Nodup) {ow1 ow2 : List OwnF} {o : OwnF} {b : Nat} {f2 : Fi} (how : q.ow = ow1 ++ o :: ow2) (ha : o.a = some ⟨b, 0, none⟩) (hne : o.f.bs ≠ [])
    (hl : f2.bs.length = o.f.bs.length) (hd : f2.d = o.f.d) (hB : Bytes f2.bs) :
    DkI ((rowsO ow1 ++ ((b, ⟨1, false, f2.bs.map B8⟩) :: rowsO ow2)) ++ R0) { q.D with fs := mput o.n f2 q.D.fs } q.mx ∧
      (∀ m, getF (mput o.n f2 q.D.fs) m = if m = o.n then f2 else getF q.D.fs m) ∧ ∀ m, (mget m (ow1.map OwnF.nf ++ (o.n, f2) :: ow2.map OwnF.nf)).getD ⟨[], 0⟩ = if m = o.n then f2 else getF q.D.fs m := by
  have hck := cuts_keys D0 keep q.i (Nat.le_of_eq hq)
  have hkeys : q.ow.map (·.n) = fnos D0 := by
    have e1 : q.ow.map (·.n) = (q.ow.map OwnF.nf).map (·.1) := by rw [List.map_map]; rfl
    rw [e1, h.ow, hck, hq, List.take_length]
  have hond : (q.ow.map (·.n)).Nodup := by rw [hkeys]; exact hnd
  have hcnd : ((cuts D0 keep q.i).map (·.1)).Nodup := by rw [hck, hq, List.take_length]; exact hnd
  have hom : o ∈ q.ow := by rw [how]; simp
  have hown : ∀ o2 ∈ q.ow, getF q.D.fs o2.n = o2.f := fun o2 h2 => by
    rw [h.get, mget_some hcnd (by rw [← h.ow]; exact List.mem_map.2 ⟨o2, h2, rfl⟩)]
    rfl
  have hget : ∀ m, getF (mput o.n f2 q.D.fs) m = if m = o.n then f2 else getF q.D.fs m := fun m => by
    unfold getF
    rw [mget_put]
    split <;> rfl
  have hin : o.n ∈ q.D.fs.map (·.1) := by
    rw [← h.dk.di.rel.keys]
    exact List.mem_map.2 ⟨_, mget_mem (h.val o hom hne), rfl⟩
  have hnk : (q.mx.kv.map (·.1)).Nodup := by rw [← keys_es]; exact h.dk.keys
  have hf0 : f2.bs ≠ [] := fun e => hne (List.length_eq_zero_iff.1 (by rw [← hl, e]; rfl))
  refine ⟨⟨⟨FRel.of (by rw [mput_keys hin]; exact h.dk.di.rel.keys) hnk fun k v f hv hf => ?_, mput_nd h.dk.di.nd⟩, fun e he => ?_, h.dk.room, h.dk.left, ?_⟩, hget, fun m => ?_⟩
  · rw [mget_put] at hf
    by_cases hk : k = o.n
    · subst hk
      rw [if_pos rfl] at hf
      injection hf with hf
      subst hf
      rw [h.val o hom hne] at hv
      injection hv with hv
      subst hv
      refine ⟨o.a, o.c, by rw [hl, hd], ?_, (fun q => by rw [ha] at q; cases q), hB⟩
      rw [ha]
      exact .inr ⟨b, 0, ⟨1, false, f2.bs.map B8⟩, rfl, fun g hg => hg.mem (by simp), rfl, by show 0 + f2.bs.length * 1 ≤ (f2.bs.map B8).length; rw [List.length_map]; omega, by rw [List.drop_zero, Nat.mul_one]; exact List.take_of_length_le (by rw [List.length_map]; omega)⟩
    · rw [if_neg hk] at hf
      have hkin : k ∈ fnos D0 := h.keys _ (mget_mem hf)
      rw [← hkeys] at hkin
      obtain ⟨o2, h2, rfl⟩ := List.mem_map.1 hkin
      have hgf := hown o2 h2
      have hff : getF q.D.fs o2.n = f := by unfold getF; rw [hf]; rfl
      rw [hgf] at hff
      subst hff
      have hne2 : o2.f.bs ≠ [] := (h.dk.ok _ (mget_mem hf)).2.1
      rw [h.val o2 h2 hne2] at hv
      injection hv with hv
      subst hv
      obtain ⟨hg2, hB2⟩ := h.row o2 h2
      refine ⟨o2.a, o2.c, rfl, ?_, fun q => (hg2.nil0 q).1, hB2⟩
      have hr := hg2.rowy (R := ([] : Objs))
      rw [List.append_nil] at hr
      refine hr.inc fun g hg => hg.sub fun Q => ?_
      rw [how] at h2
      have : o2 ∈ ow1 ∨ o2 ∈ ow2 := by
        rcases List.mem_append.1 h2 with h2 | h2
        · exact .inl h2
        · rcases List.mem_cons.1 h2 with h2 | h2
          · exact absurd (by rw [h2]) hk
          · exact .inr h2
      simp only [List.countP_append, List.countP_cons]
      rcases this with h3 | h3
      · have := rowsO_count Q h3; omega
      · have := rowsO_count Q h3; omega
  · rcases mput_all he with q1 | q1
    · rw [q1]
      obtain ⟨v, hv⟩ := mem_some hin
      have h3 := h.dk.ok _ (mget_mem hv)
      have h4 : v = o.f := by
        have := hown o hom
        unfold getF at this
        rw [hv] at this
        exact this
      rw [h4] at h3
      exact ⟨h3.1, hf0, by rw [hd]; exact h3.2.2.1, by rw [hd, hl]; exact h3.2.2.2⟩
    · exact h.dk.ok e q1
  · show used (mput o.n f2 q.D.fs) ≤ q.D.room
    rw [used_put, hown o hom, hl]
    have := h.dk.used
    omega
  · rw [mget_app]
    have hn1 : (ow1.map OwnF.nf).map (·.1) = ow1.map (·.n) := by rw [List.map_map]; rfl
    have hn2 : (ow2.map OwnF.nf).map (·.1) = ow2.map (·.n) := by rw [List.map_map]; rfl
    by_cases hm : m = o.n
    · subst hm
      rw [if_pos rfl, mget_none (m := ow1.map OwnF.nf)]
      · simp [mget]
      · rw [hn1]
        rw [how, List.map_append, List.nodup_append] at hond
        exact fun e => hond.2.2 _ e _ (by simp) rfl
    · have e : ∀ v : Fi, mget m ((o.n, v) :: ow2.map OwnF.nf) = mget m (ow2.map OwnF.nf) := fun v => by
        simp only [mget]
        rw [if_neg hm]
      rw [if_neg hm, crash_get h hq m, ← hq, ← h.ow, how, List.map_append, List.map_cons, mget_app, show OwnF.nf o = (o.n, o.f) from rfl, e, e]

end Go.Proofs.Ythekokdpplobhaa.Eng

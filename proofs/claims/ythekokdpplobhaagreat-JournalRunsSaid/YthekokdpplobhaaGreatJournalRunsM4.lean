/- Records, read by the program. | Prefixes; the iterator of records. | The iterator of records. | The iterator of records, walked. | The program's Scan. | Equal lists of records. | Records out of numbers. | The section's examples. | Lengths of frames, and what they are made of. | Disks in plain lists. | Small functions of disks: exists, step, set, New, Read. | Used, harden, Sync, Truncate. | The numbers of a disk's files, in order. | A crash in plain lists; the numbers of the files as a contract. | What a crash keeps of the files, in plain lists. | The reference's disk in plain lists, and that both disks answer alike. | A crash, walked. | The reference's crash in plain lists. | Small parts of the disk's texts. | The reference's disk: New, Used, Files, step, Append, Sync, Truncate, Arm. | The reference's disk: New, Append, Sync, Truncate, Files. | The reference's disk: Files, Copy. | The reference's crash, walked. Own work; no condition. -/
import Derived.Test.YthekokdpplobhaaGreatJournalRunsM1
import Derived.Test.YthekokdpplobhaaGreatJournalRunsM2
import Derived.Test.YthekokdpplobhaaGreatJournalRunsM3
set_option linter.unusedVariables false
set_option linter.unusedSimpArgs false
namespace Go.Proofs.YthekokdpplobhaaGreat.Eng
theorem tG (O : an) (b : List Int) (a : Option Addr) (c : Nat) (hB : Bytes b) (hlen : b.length ≤ 1000000000) (hr : bK O 1 a b.length (b.map B8)) (hc : a = none → c = 0) :
  Spec Tryz.prog false 61 #[.slice a b.length c] O fun v O' => ∃ a' c' G, v = .slice a' (aS b).length c' ∧ Grow 1 a' (aS b).length c' ((aS b).map B8) G ∧ O' = G ++ O := by
 have hpre : ∀ m, bK O 1 a (b.take m).length ((b.take m).map B8) := fun m => by
  have := hr.pre (m := (b.take m).length) (by rw [List.length_take]; omega)
  rw [Nat.mul_one, ← List.map_take] at this
  have e : b.take (b.take m).length = b.take m := by
   rw [List.length_take]
   rcases Nat.le_total m b.length with q | q
   · rw [Nat.min_eq_left q]
   · rw [Nat.min_eq_right q, List.take_of_length_le (Nat.le_refl _), List.take_of_length_le q]
  rw [e] at this
  exact this
 have hBt : ∀ m, Bytes (b.take m) := fun m x hx => hB x (List.mem_of_mem_take hx)
 have hlt : ∀ m, (b.take m).length ≤ b.length := fun m => by rw [List.length_take]; omega
 obtain ⟨hu1, hu2, hu3, hu4⟩ := oa (b.take (min b.length 10), 0)
 obtain ⟨n, hn⟩ : ∃ n, n = (bO 0 0 (b.take (min b.length 10), 0)).1 := ⟨_, rfl⟩
 rw [← hn] at hu1 hu4
 obtain ⟨m, hm⟩ : ∃ m, m = min b.length (10 + min n.toNat b.length) := ⟨_, rfl⟩
 have hm1 : m ≤ b.length := by omega
 have hlm : (b.take m).length = m := by rw [List.length_take]; omega
 have hcore : kU b = (fI (b.take m, 0)).1 := by unfold kU; simp only [← hn, hm]
 obtain ⟨k1, k2⟩ := mX b
 rw [hcore] at k1 k2
 obtain ⟨j1, j2, j3, j4⟩ := oa ((fI (b.take m, 0)).1, 0)
 simp only at j2 j3
 have hrec : aS b = (fI (bO 0 0 ((fI (b.take m, 0)).1, 0)).2).1 := by unfold aS; rw [hcore]
 have hcn := hc
 refine Spec.enter (args := [_]) (m := 33) Tryz.func61 rfl rfl (by decide +kernel) fun h0 => ?_
 refine WX.seq (WX.region rfl (za rfl (zR rfl (zm rfl (zm rfl (ae.len Met.none rfl Tryz.underlying39 ?_))))))
 refine ae.min Met.none rfl rfl ?_
 refine ae.pre (m := (b.take (min b.length 10)).length) Met.none rfl rfl aQ ec hr hcn ?_ (hj := (by rw [List.length_take]; omega)) (hm := (by rw [List.length_take]; omega))
 refine ae.cl (O1 := _) Met.none rfl (ah Tryz.func76 (by decide +kernel)) rfl (fun _ h => h) (pK O (b.take (min b.length 10)) a _ (by have := hlt (min b.length 10); omega) (fun q => by have := (hpre (min b.length 10)).eh q; exact List.length_eq_zero_iff.1 this) ((hpre (min b.length 10)).src (fun q => (hpre (min b.length 10)).eh q))) (fun v O' hp => ?_)
 obtain ⟨r1, a1, c1, G1, rfl, hG1, rfl⟩ := hp
 refine ae.cl (O1 := _) Met.none rfl (ah Tryz.func77 (by decide +kernel)) rfl (fun _ h => h) (qb (G1 ++ O) r1 (b.take (min b.length 10), 0) a1 c1 (hBt _) (by have := hlt (min b.length 10); simp only; omega) hG1.oK (fun q => (hG1.eh q).1)) (fun v O' hp => ?_)
 obtain ⟨rfl, ⟨a2, c2, rfl, hr2, hc2⟩⟩ := hp
 rw [← hn]
 refine za rfl (zR rfl (zm rfl (ae.len Met.none rfl Tryz.underlying39 ?_)))
 refine ae.conv Met.none rfl Tryz.underlying3 Tryz.underlying78 we ?_
 refine za rfl (zR rfl (zm rfl (zm rfl (zm rfl (zm rfl ?_)))))
 refine ae.min Met.none rfl rfl ?_
 refine ae.bin Met.none rfl rfl (congrArg (fun n => some (U n)) (wrap_u64 (n := 10 + min n (b.length : Int)) (by omega) (by omega))) ?_
 refine ae.min Met.none rfl rfl ?_
 refine ae.pre (m := (b.take m).length) Met.none rfl rfl aQ ec (hr.app.cons) hcn ?_ (hj := (by rw [hlm]; omega)) (hm := (by rw [hlm]; omega))
 refine ae.cl (O1 := _) Met.none rfl (ah Tryz.func76 (by decide +kernel)) rfl (fun _ h => h) (pK _ (b.take m) a _ (by have := hlt m; omega) (fun q => by have := (hpre m).eh q; exact List.length_eq_zero_iff.1 this) (Src.cons (Src.app ((hpre m).src (fun q => (hpre m).eh q))))) (fun v O' hp => ?_)
 obtain ⟨r3, a3, c3, G3, rfl, hG3, rfl⟩ := hp
 refine za rfl (zR rfl (zm rfl ?_))
 refine ae.cl (O1 := _) Met.none rfl (ah Tryz.func78 (by decide +kernel)) rfl (fun _ h => h) (vC _ r3 (b.take m, 0) a3 c3 (hBt _) (by have := hlt m; simp only; omega) hG3.oK (fun q => (hG3.eh q).1)) (fun v O' hp => ?_)
 obtain ⟨a4, c4, G4, rfl, hG4, a5, c5, rfl, hr5, hc5⟩ := hp
 refine ae.cl (O1 := _) Met.none rfl (ah Tryz.func76 (by decide +kernel)) rfl (fun _ h => h) (pK _ (fI (b.take m, 0)).1 a4 c4 (by omega) (fun q => by have := (hG4.eh q).2; exact List.length_eq_zero_iff.1 this) (Src.cons hG4.src)) (fun v O' hp => ?_)
 obtain ⟨r6, a6, c6, G6, rfl, hG6, rfl⟩ := hp
 refine za rfl (zR rfl (zm rfl ?_))
 refine ae.cl (O1 := _) Met.none rfl (ah Tryz.func79 (by decide +kernel)) rfl (fun _ h => h) (xH _ r6 ((fI (b.take m, 0)).1, 0) a6 c6 (k2 hB) (by simp only; omega) hG6.oK (fun q => (hG6.eh q).1)) (fun v O' hp => ?_)
 obtain ⟨⟨z, rfl⟩, a7, c7, rfl, hr7, hc7⟩ := hp
 refine zR rfl (zm rfl ?_)
 refine ae.cl (O1 := _) Met.none rfl (ah Tryz.func78 (by decide +kernel)) rfl (fun _ h => h) (vC _ r6 (bO 0 0 ((fI (b.take m, 0)).1, 0)).2 a7 c7 (j3 (k2 hB)) (by omega) hr7 hc7) (fun v O' hp => ?_)
 obtain ⟨a8, c8, G8, rfl, hG8, a9, c9, rfl, hr9, hc9⟩ := hp
 rw [← hrec] at hG8 ⊢
 refine za rfl (ae.nil (Fin.aa (WX.ret ?_)))
 exact Fin.result (O' := G8 ++ O) (.inr rfl) rfl rfl aC ⟨a8, c8, G8, rfl, hG8, rfl⟩
theorem bK.some {O : an} {a : Option Addr} {n : Nat} {cs : List Value} (h : bK O 1 a n cs) (hn : 0 < n) : ∃ b off q, a = some ⟨b, off, none⟩ ∧ aU O b q ∧ q.sz = 1 := by
 rcases h with ⟨_, h, _⟩ | ⟨b, off, q, h1, h2, h3, _⟩
 · omega
 · exact ⟨b, off, q, h1, h2, h3⟩
theorem bK.np {O : an} {b off n m : Nat} {cs : List Value} (h : bK O 1 (.some ⟨b, off, none⟩) n cs) (hm : m ≤ n) : bK O 1 (.some ⟨b, off + m * 1, none⟩) (n - m) (cs.drop m) := by
 rcases h with ⟨h, _⟩ | ⟨b2, off2, q, h1, h2, h3, h4, h5⟩
 · cases h
 · injection h1 with h1
   injection h1 with h1 h6
   subst h1 h6
   refine .inr ⟨b, off + m * 1, q, rfl, h2, h3, by omega, ?_⟩
   rw [← h5, ← List.drop_drop, List.drop_take, Nat.mul_one, Nat.mul_one, Nat.mul_one]
theorem uS (O : an) (l m : List Int) (a b : Option Addr) (c e : Nat) (hBl : Bytes l) (hBm : Bytes m) (hl : Src O 1 (.slice a l.length c) l.length (l.map B8)) (hm : Src O 1 (.slice b m.length e) m.length (m.map B8)) :
  Spec Tryz.prog true 80 #[.slice a l.length c, .slice b m.length e] O fun v O' => v = .bool (decide (l = m)) ∧ O' = O := by
 refine Spec.enter (args := [_, _]) (m := 10) Tryz.func80 rfl rfl (by decide +kernel) fun h0 => ?_
 refine WX.seq (WX.region rfl (za rfl (zR rfl (zm rfl ?_))))
 refine ae.toStr Met.none rfl Tryz.underlying39 Tryz.underlying9 Tryz.underlying5 iP ?_
 refine zm rfl ?_
 refine ae.toStr Met.none rfl Tryz.underlying39 Tryz.underlying9 Tryz.underlying5 iP ?_
 refine ae.zk Met.none rfl rfl (by assumption) (by assumption) ?_
 refine za rfl (ae.nil (Fin.aa (WX.ret ?_)))
 exact Fin.result (O' := O) (.inr rfl) rfl rfl au ⟨rfl, rfl⟩
theorem jJ (l m : List Int) : decide (m <+: l) = (decide (m.length ≤ l.length) && decide (l.take m.length = m)) := by
 rw [← Bool.decide_and]
 refine decide_eq_decide.2 ⟨fun h => ⟨h.length_le, (List.prefix_iff_eq_take.1 h).symm⟩, fun h => List.prefix_iff_eq_take.2 h.2.symm⟩
theorem pL (O : an) (l m : List Int) (a b : Option Addr) (c e : Nat) (hBl : Bytes l) (hBm : Bytes m) (hl : bK O 1 a l.length (l.map B8)) (hc : a = none → c = 0) (hm : Src O 1 (.slice b m.length e) m.length (m.map B8)) :
  Spec Tryz.prog true 62 #[.slice a l.length c, .slice b m.length e] O fun v O' => ∃ x, v = .bool x ∧ x = decide (m <+: l) ∧ O' = O := by
 refine Spec.enter (args := [_, _]) (m := 18) Tryz.func62 rfl rfl (by decide +kernel) fun h0 => ?_
 refine WX.seq (WX.region rfl (za rfl (zR rfl (zm rfl (ae.len Met.none rfl Tryz.underlying39 (zm rfl (ae.len Met.none rfl Tryz.underlying39 (zb rfl rfl rfl (zm rfl ?_)))))))))
 refine ae.split (d := 10) rfl (fun hg10 => ?_) (fun hg10 => ?_)
 · try simp only [aB] at hg10
   refine ae.move (Met.some rfl rfl rfl) rfl (ae.move (Met.some rfl rfl rfl) rfl (ae.len (Met.some rfl rfl rfl) rfl Tryz.underlying39 ?_))
   refine ae.pre (m := m.length) (Met.some rfl rfl rfl) rfl rfl aQ ec hl hc ?_
   refine ae.move (Met.some rfl rfl rfl) rfl ?_
   have hml : (l.take m.length).length = m.length := by rw [List.length_take]; omega
   have hr2 := hl.pre (m := m.length) (by omega)
   rw [Nat.mul_one, ← List.map_take] at hr2
   refine ae.cl (O1 := _) (Met.some rfl rfl rfl) rfl (ah Tryz.func80 (by decide +kernel)) rfl (fun _ h => h) ((by
   have := uS O (l.take m.length) m a b m.length e (fun x hx => hBl x (List.mem_of_mem_take hx)) hBm (by rw [hml]; exact hr2.src (fun q => hr2.eh q)) hm
   rw [hml] at this
   exact this)) (fun v O' hp => ?_)
   obtain ⟨rfl, hO⟩ := hp
   subst O'
   refine ae.bD Met.none rfl rfl (za rfl (ae.nil (Fin.aa (WX.ret ?_))))
   first
   | exact Fin.result (O' := O) (.inr rfl) rfl rfl au ⟨_, rfl, by rw [jJ, decide_eq_true (show m.length ≤ l.length by omega), Bool.true_and], rfl⟩
   | exact Fin.result (O' := O) (.inr rfl) rfl rfl au ⟨_, rfl, by rw [jJ, decide_eq_false (show ¬ m.length ≤ l.length by omega), Bool.false_and], rfl⟩
 · try simp only [aB] at hg10
   refine zs 5 10 rfl rfl rfl (zs 5 10 rfl rfl rfl (zs 5 10 rfl rfl rfl (zs 5 10 rfl rfl rfl (zs 5 10 rfl rfl rfl (zs 5 10 rfl rfl rfl (ae.bd Met.none rfl rfl (za rfl (ae.nil (Fin.aa (WX.ret ?_))))))))))
   first
   | exact Fin.result (O' := O) (.inr rfl) rfl rfl au ⟨_, rfl, by rw [jJ, decide_eq_true (show m.length ≤ l.length by omega), Bool.true_and], rfl⟩
   | exact Fin.result (O' := O) (.inr rfl) rfl rfl au ⟨_, rfl, by rw [jJ, decide_eq_false (show ¬ m.length ≤ l.length by omega), Bool.false_and], rfl⟩
def aG (b : List Int) : List (List Int) := (dB 0 b).1
def cZ (b : List Int) (k : Nat) : Nat := (cM 0 ((aG b).take k)).length
theorem gZ {l : List (List Int)} {k : Nat} (h : k < l.length) : l.drop k = nth l k :: l.drop (k + 1) := by
 rw [dw h, List.drop_eq_getElem_cons h]
theorem j0 (l m : List (List Int)) : ∀ i, cM i (l ++ m) = cM i l ++ cM (i + l.length) m := by
 induction l with
 | nil => intro i; rfl
 | cons x l ih =>
  intro i
  rw [List.cons_append, du, du, ih, List.append_assoc, List.length_cons]
  congr 3
  omega
theorem rY (i : Nat) (b : List Int) : (dB i b).1 = [] ∨ (b ≠ [] ∧ ar i (aS b) <+: b ∧ (dB i b).1 = aS b :: (dB (i + 1) (b.drop (ar i (aS b)).length)).1) := by
 rw [dB]
 split
 · rename_i h; exact .inr ⟨h.1, h.2, rfl⟩
 · exact .inl rfl
theorem kq (b : List Int) (i : Nat) : (dB i b).2 = (cM i (dB i b).1).length ∧ cM i (dB i b).1 <+: b := by
 rw [dB]
 split
 · rename_i h
   have hlt : (b.drop (ar i (aS b)).length).length < b.length := by
    have := jw i (aS b)
    have : 0 < b.length := List.length_pos_iff.2 h.1
    rw [List.length_drop]; omega
   obtain ⟨h1, h2⟩ := kq (b.drop (ar i (aS b)).length) (i + 1)
   rw [du, List.length_append, h1]
   refine ⟨rfl, ?_⟩
   obtain ⟨t1, e1⟩ := h.2
   obtain ⟨t2, e2⟩ := h2
   refine ⟨t2, ?_⟩
   rw [List.append_assoc, e2]
   conv => rhs; rw [← List.take_append_drop (ar i (aS b)).length b]
   rw [← List.prefix_iff_eq_take.1 h.2]
 · exact ⟨rfl, List.nil_prefix⟩
termination_by b.length
decreasing_by
  simpa only [List.length_drop] using hlt
theorem nu (b : List Int) (k : Nat) : cZ b k ≤ b.length := by
 have h := (kq b 0).2
 have : cM 0 (aG b) = cM 0 ((aG b).take k) ++ cM (0 + ((aG b).take k).length) ((aG b).drop k) := by rw [← j0, List.take_append_drop]
 have h2 := h.length_le
 change (cM 0 (aG b)).length ≤ _ at h2
 rw [this, List.length_append] at h2
 unfold cZ
 omega
theorem mI (b : List Int) (k : Nat) (hk : k < (aG b).length) : cZ b (k + 1) = cZ b k + (ar k (nth (aG b) k)).length := by
 unfold cZ
 rw [bG hk, j0, List.length_append, List.length_take, Nat.zero_add, Nat.min_eq_left (by omega), du, List.length_append]
 rfl
theorem rn (b : List Int) : ∀ k, k ≤ (aG b).length → (aG b).drop k = (dB k (b.drop (cZ b k))).1 := by
 intro k
 induction k with
 | zero => intro _; rfl
 | succ k ih =>
  intro hk
  have h1 := ih (by omega)
  rcases rY k (b.drop (cZ b k)) with h2 | ⟨h2, h3, h4⟩
  · rw [h2] at h1
    have := congrArg List.length h1
    rw [List.length_drop] at this
    simp at this
    omega
  · rw [h4, gZ (by omega)] at h1
    injection h1 with h5 h6
    rw [h6, List.drop_drop, mI b k (by omega), h5]
def vH (b : List Int) (k : Nat) (vs : List Value) (N : an) : Prop :=
 ∃ a c, vs = [.slice a (nth (aG b) k).length c, I (cZ b (k + 1) : Nat)] ∧ Grow 1 a (nth (aG b) k).length c ((nth (aG b) k).map B8) N
theorem gT {n : Int} {b : List Int} (h : Bytes b) : Bytes (ar n b) := fun x hx => by
 rcases List.mem_append.1 hx with q | q
 · exact nY (jV h) x q
 · exact ln _ x q
theorem mW : ∀ (l : List (List Int)) (i : Nat), l.length ≤ (cM i l).length
 | [], i => Nat.le_refl _
 | x :: l, i => by
  have := mW l (i + 1)
  have := jw i x
  rw [du, List.length_append, List.length_cons]
  omega
theorem kQ (b : List Int) : (aG b).length ≤ b.length := Nat.le_trans (mW _ 0) (kq b 0).2.length_le
theorem p5 {β : Type} (OI : β → an) (Inv : Nat → β → Prop) (ρ : dW) (y : Nat) (b : List Int) (hB : Bytes b) (cb : Nat) (a : Option Addr) (c : Nat) (hlen : b.length ≤ 100000)
  (hbox : ∀ x, aU (OI x) cb ⟨0, false, [.slice a b.length c]⟩) (hr : ∀ x, bK (OI x) 1 a b.length (b.map B8)) (hc : a = none → c = 0) (x0 : β) (hI0 : Inv 0 x0)
  (hy : ∀ k x vs N, k < (aG b).length → Inv k x → vH b k vs N → o5 Tryz.prog ρ y vs (N ++ OI x) fun O' => ∃ x', Inv (k + 1) x' ∧ O' = OI x') :
  gi Tryz.prog ρ false 60 #[Yd y, Ptr cb 0] (OI x0) fun v O' => ∃ x', Inv (aG b).length x' ∧ O' = OI x' := by
 have hend := nu b
 have hrl := kQ b
 refine gi.enter (args := [_, _]) (m := 35) Tryz.func60 rfl rfl (by decide +kernel) fun h0 => ?_
 refine WX.seq (WX.region rfl (za rfl (zR rfl (za rfl (ae.nil (Fin.aa (WX.block ?_)))))))
 refine WX.loop (fun q : Nat × β => [(0, Yd y), (1, Ptr cb 0), (3, I (cZ b q.1 : Nat)), (4, I (q.1 : Int))]) (fun q => OI q.2) (fun q => q.1 ≤ (aG b).length ∧ Inv q.1 q.2) (fun q => (aG b).length - q.1) (0, x0) ⟨Nat.zero_le _, hI0⟩ (fun s hs => hs.tl [] 0) (fun q hq => ?_)
 obtain ⟨k, x⟩ := q
 obtain ⟨hk, hI⟩ := hq
 simp only at hk hI
 dsimp only
 have hb1 := hbox x
 have hr1 := hr x
 have hek := hend k
 have hat := rn b k hk
 refine WX.seq (WX.seq (WX.region rfl (zm rfl ?_)))
 first | refine ae.ld Met.none rfl aD ?_ | refine ae.ba Met.none rfl aD ?_
 refine ae.len Met.none rfl Tryz.underlying39 (zb rfl rfl rfl (ae.nil (Fin.aa ?_)))
 refine WX.cond rfl (fun hc0 => ?_) (fun hc0 => ?_)
 · try simp only [aB] at hc0
   refine WX.skip (Fin.aa (WX.seq (WX.block (WX.seq ?_))))
   obtain ⟨bb, off, ⟨qsz, qro, qc⟩, rfl, hkq, hqs⟩ := hr1.some (by omega)
   have hqs : qsz = 1 := hqs
   subst hqs
   have hr2 := hr1.np (m := cZ b k) hek
   obtain ⟨t, ht⟩ : ∃ t, t = b.drop (cZ b k) := ⟨_, rfl⟩
   rw [← List.map_drop, ← ht] at hr2
   rw [← ht] at hat
   have htl : t.length = b.length - cZ b k := by rw [ht, List.length_drop]
   have htB : Bytes t := fun z hz => hB z (List.mem_of_mem_drop (ht ▸ hz))
   obtain ⟨f1, f2⟩ := iH t
   have htn : t ≠ [] := fun q => by rw [q] at htl; simp at htl; omega
   refine WX.region rfl ?_
   first | refine ae.ld Met.none rfl aD ?_ | refine ae.ba Met.none rfl aD ?_
   refine zm rfl ?_
   refine ae.np (cs := []) (m := (cZ b k)) Met.none rfl rfl aQ ec rfl hkq rfl ?_
   refine ae.cl (O1 := _) Met.none rfl (ah Tryz.func61 (by decide +kernel)) rfl (fun _ h => h) ((by
   have := tG (OI x) t (some ⟨bb, off + cZ b k * 1, none⟩) (b.length - cZ b k) htB (by omega) (by rw [htl]; exact hr2) (fun q => by cases q)
   rw [htl] at this
   exact this)) (fun v O' hp => ?_)
   obtain ⟨a5, c5, G5, rfl, hG5, rfl⟩ := hp
   refine za rfl (zR rfl (zm rfl (zm rfl ?_)))
   refine ae.cl (O1 := _) Met.none rfl (ah Tryz.func36 (by decide +kernel)) rfl (fun _ h => h) (nJ _ (k : Int) (aS t) a5 c5 (by unfold dG; omega) (f2 htB) (by omega) hG5.src) (fun v O' hp => ?_)
   obtain ⟨a6, c6, G6, rfl, hG6, rfl⟩ := hp
   refine za rfl (ae.nil (Fin.aa (WX.seq (WX.seq (WX.region rfl ?_)))))
   first | refine ae.ld Met.none rfl aD ?_ (hk := hb1.app.app) | refine ae.ba Met.none rfl aD ?_
   refine zm rfl ?_
   refine ae.np (cs := []) (m := (cZ b k)) Met.none rfl rfl aQ ec rfl hkq.app.app rfl ?_
   refine zm rfl ?_
   refine ae.cl (O1 := _) Met.none rfl (ah Tryz.func62 (by decide +kernel)) rfl (fun _ h => h) ((by
   have := pL (G6 ++ (G5 ++ OI x)) t (ar k (aS t)) (some ⟨bb, off + cZ b k * 1, none⟩) a6 (b.length - cZ b k) c6 htB (gT (f2 htB)) (by rw [htl]; exact hr2.app.app) (fun q => by cases q) hG6.src
   rw [htl] at this
   exact this)) (fun v O' hp => ?_)
   obtain ⟨bx, rfl, hbx, rfl⟩ := hp
   refine ae.not Met.none rfl (ae.nil (Fin.aa ?_))
   try simp only [Bool.not_eq_true']
   refine WX.cond rfl (fun hc1 => ?_) (fun hc1 => ?_)
   · try simp only [aB] at hc1
     refine WX.ret (Fin.az (Fin.bq (Fin.az (Fin.dN (Fin.bq ?_)))))
     first
     | (have hkk : k = (aG b).length := by
          have hd : b.drop (cZ b k) = [] := List.drop_eq_nil_of_le (by omega)
          rw [hd, dB, dif_neg (fun q => q.1 rfl)] at hat
          have := congrArg List.length hat
          rw [List.length_drop, List.length_nil] at this
          omega
        subst hkk
        exact Fin.result (O' := OI x) (.inl rfl) rfl rfl (fun _ h => h) ⟨x, hI, rfl⟩)
     | (have hkk : k = (aG b).length := by
          rw [hc1] at hbx
          have hnp := of_decide_eq_false hbx.symm
          rw [dB, dif_neg (fun q => hnp q.2)] at hat
          have := congrArg List.length hat
          rw [List.length_drop, List.length_nil] at this
          omega
        subst hkk
        exact Fin.result (O' := OI x) (.inr rfl) rfl rfl aC ⟨x, hI, rfl⟩)
   · try simp only [aB] at hc1
     refine WX.skip (Fin.aa (WX.seq ?_))
     have hpf : ar k (aS t) <+: t := by
      rw [hc1] at hbx
      exact of_decide_eq_true hbx.symm
     have hst : (aG b).drop k = aS t :: (dB (k + 1) (t.drop (ar k (aS t)).length)).1 := by
      rw [hat, dB, dif_pos ⟨htn, hpf⟩]
     have hk1 : k < (aG b).length := by
      have := congrArg List.length hst
      rw [List.length_drop, List.length_cons] at this
      omega
     have hnth : nth (aG b) k = aS t := by
      rw [gZ hk1] at hst
      injection hst
     have hes : cZ b (k + 1) = cZ b k + (ar k (aS t)).length := by rw [mI b k hk1, hnth]
     have hek1 := hend (k + 1)
     refine WX.region rfl (zm rfl (zm rfl (ae.len Met.none rfl Tryz.underlying39 (ae.bin Met.none rfl rfl (show _ = some (I (cZ b (k + 1) : Nat)) from (nw (by omega) (by omega)).trans (congrArg (fun n => some (I n)) (by omega))) (za rfl (zR rfl (zm rfl (zm rfl (zm rfl ?_)))))))))
     refine ae.yield (O1 := G5 ++ OI x) Met.none rfl rfl aC rfl rfl rfl rfl (hy k x _ G5 hk1 hI ⟨a5, c5, by rw [hnth], by rw [hnth]; exact hG5⟩) (fun O' hp => ?_)
     obtain ⟨x', hI', rfl⟩ := hp
     refine ae.not Met.none rfl (ae.nil (Fin.aa ?_))
     refine WX.cond rfl (fun hc2 => nomatch hc2) (fun hc2 => ?_)
     refine WX.skip (Fin.ag (Fin.aa (WX.region rfl (zm rfl (zb rfl rfl dH (za rfl (ae.nil ?_)))))))
     exact Fin.aj (k + 1, x') ⟨by simp only; omega, hI'⟩ (by simp only; omega) (fun s hs => hs.tl [] 0)
 · try simp only [aB] at hc0
   refine WX.exit (Fin.aF (Fin.aN (Fin.aK rfl ?_)))
   first
   | (have hkk : k = (aG b).length := by
        have hd : b.drop (cZ b k) = [] := List.drop_eq_nil_of_le (by omega)
        rw [hd, dB, dif_neg (fun q => q.1 rfl)] at hat
        have := congrArg List.length hat
        rw [List.length_drop, List.length_nil] at this
        omega
      subst hkk
      exact Fin.result (O' := OI x) (.inl rfl) rfl rfl (fun _ h => h) ⟨x, hI, rfl⟩)
   | (have hkk : k = (aG b).length := by
        rw [hc1] at hbx
        have hnp := of_decide_eq_false hbx.symm
        rw [dB, dif_neg (fun q => hnp q.2)] at hat
        have := congrArg List.length hat
        rw [List.length_drop, List.length_nil] at this
        omega
      subst hkk
      exact Fin.result (O' := OI x) (.inr rfl) rfl rfl aC ⟨x, hI, rfl⟩)
def xw (O : an) (v : Value) (x : List Int) : Prop := ∃ a c, v = .slice a x.length c ∧ Src O 1 v x.length (x.map B8)
def fk (O : an) (vs : List Value) (xs : List (List Int)) : Prop := vs.length = xs.length ∧ ∀ k, k < xs.length → xw O (nth vs k) (nth xs k)
theorem xw.cons {O : an} {q : Nat × ga} {v : Value} {x : List Int} (h : xw O v x) : xw (q :: O) v x := by
 obtain ⟨a, c, h1, h2⟩ := h
 exact ⟨a, c, h1, h2.cons⟩
theorem xw.app {O N : an} {v : Value} {x : List Int} (h : xw O v x) : xw (N ++ O) v x := by
 obtain ⟨a, c, h1, h2⟩ := h
 exact ⟨a, c, h1, h2.app⟩
theorem fk.cons {O : an} {q : Nat × ga} {vs : List Value} {xs : List (List Int)} (h : fk O vs xs) : fk (q :: O) vs xs := ⟨h.1, fun k hk => (h.2 k hk).cons⟩
theorem fk.app {O N : an} {vs : List Value} {xs : List (List Int)} (h : fk O vs xs) : fk (N ++ O) vs xs := ⟨h.1, fun k hk => (h.2 k hk).app⟩
theorem fk.nil {O : an} : fk O [] [] := ⟨rfl, fun k hk => by simp at hk⟩
theorem qX {α : Type} [Inhabited α] (l : List α) (x : α) (k : Nat) : nth (l ++ [x]) k = if k < l.length then nth l k else if k = l.length then x else default := by
 unfold nth
 split
 · rename_i h; simp [List.getElem?_append_left h, List.getD_eq_getElem?_getD]
 · rename_i h
   split
   · rename_i h2; subst h2; simp [List.getD_eq_getElem?_getD]
   · simp [List.getD_eq_getElem?_getD, List.getElem?_eq_none (show (l ++ [x]).length ≤ k by simp; omega)]
theorem fk.snoc {O : an} {vs : List Value} {xs : List (List Int)} {v : Value} {x : List Int} (h : fk O vs xs) (hv : xw O v x) : fk O (vs ++ [v]) (xs ++ [x]) := by
 obtain ⟨h1, h2⟩ := h
 refine ⟨by simp [h1], fun k hk => ?_⟩
 rw [qX, qX, h1]
 rw [List.length_append, List.length_singleton] at hk
 split
 · exact h2 k (by assumption)
 · rw [if_pos (by omega), if_pos (by omega)]; exact hv
structure yV where
 k : Nat
 a : Option Addr
 c : Nat
 vs : List Value
 G : an
 R : an
theorem rR (O : an) (a : Option Addr) (n c : Nat) :
  Spec Tryz.prog false 44 #[.slice a n c] O fun v O' => ∃ cb, v = .func (.func 60) #[] #[Ptr cb 0] ∧ O' = (cb, ⟨0, false, [.slice a n c]⟩) :: O := by
 refine Spec.enter (args := [_]) (m := 4) Tryz.func44 rfl rfl (by decide +kernel) fun h0 => ?_
 refine WX.seq (WX.region rfl ?_)
 refine ae.box (c := [_]) Met.none rfl rfl rfl (fun b1 => ?_)
 refine za rfl (zR rfl ?_)
 refine ae.makeFunc Met.none rfl rfl ?_
 refine za rfl (ae.nil (Fin.aa (WX.ret ?_)))
 exact Fin.result (O' := (b1, ⟨0, false, [.slice a n c]⟩) :: O) (.inr rfl) rfl rfl au ⟨b1, rfl, rfl⟩
theorem Sat.vB {h : ai} {N O : an} (hs : Sat h (N ++ O)) : Sat h N :=
 ⟨by
  have := hs.nd
  rw [List.map_append, List.nodup_append] at this
  exact this.1, fun p hp => hs.is p (List.mem_append_left _ hp), hs.wf⟩
theorem Src.right {N O : an} {sz n : Nat} {v : Value} {cs : List Value} (h : Src N sz v n cs) : Src (N ++ O) sz v n cs := fun g hg => h g hg.vB
theorem fk.right {N O : an} {vs : List Value} {xs : List (List Int)} (h : fk N vs xs) : fk (N ++ O) vs xs := ⟨h.1, fun k hk => by
 obtain ⟨a, c, h1, h2⟩ := h.2 k hk
 exact ⟨a, c, h1, h2.right⟩⟩
theorem qB (O : an) (b : List Int) (a : Option Addr) (c : Nat) (hB : Bytes b) (hlen : b.length ≤ 100000) (hr : bK O 1 a b.length (b.map B8)) (hc : a = none → c = 0) :
  Spec Tryz.prog false 23 #[.slice a b.length c] O fun v O' => ∃ ao co vs G R, v = .tuple #[.slice ao (aG b).length co, I (cZ b (aG b).length : Nat)] ∧ Grow 1 ao (aG b).length co vs G ∧ fk R vs (aG b) ∧ O' = G ++ (R ++ O) := by
 have hrl := kQ b
 refine Spec.enter (args := [_]) (m := 19) Tryz.func23 rfl rfl (by decide +kernel) fun h0 => ?_
 refine WX.seq (WX.region rfl (za rfl (za rfl (zR rfl ?_))))
 refine ae.alloc (c := [_]) Met.none yb rfl (fun b4 => ?_)
 refine zR rfl ?_
 refine ae.alloc (c := [_]) Met.none ij rfl (fun b5 => ?_)
 refine ae.st (vs := [_]) (c' := [_]) Met.none rfl rfl rfl cj ?_
 refine ae.nil (Fin.aa (WX.seq (WX.seq (WX.region rfl (zm rfl ?_)))))
 refine ae.cl (O1 := _) Met.none rfl (ah Tryz.func44 (by decide +kernel)) rfl (fun _ h => h) (rR _ a b.length c) (fun v O' hp => ?_)
 obtain ⟨cb, rfl, rfl⟩ := hp
 refine ae.nil (Fin.aa (WX.block ?_))
 refine WX.nB (fun q : yV => (cb, ⟨0, false, [.slice a b.length c]⟩) :: (b5, ⟨0, false, [I (cZ b q.k : Nat)]⟩) :: (b4, ⟨0, false, [.slice q.a q.k q.c]⟩) :: (q.G ++ (q.R ++ O))) (fun k q => q.k = k ∧ Grow 1 q.a q.k q.c q.vs q.G ∧ fk q.R q.vs ((aG b).take k)) (fun k _ vs N => vH b k vs N) (aG b).length ⟨0, none, 0, [], [], []⟩ ⟨rfl, rfl⟩ rfl (ah Tryz.func60 (by decide +kernel)) (fun s hs => hs.sat) rfl ⟨rfl, .nil, .nil⟩ (fun k y vs N hvs => by obtain ⟨a1, c1, h1, _⟩ := hvs; rw [h1]; rfl)
  (fun ρ y hy => p5 (fun q : yV => (cb, ⟨0, false, [.slice a b.length c]⟩) :: (b5, ⟨0, false, [I (cZ b q.k : Nat)]⟩) :: (b4, ⟨0, false, [.slice q.a q.k q.c]⟩) :: (q.G ++ (q.R ++ O))) (fun k q => q.k = k ∧ Grow 1 q.a q.k q.c q.vs q.G ∧ fk q.R q.vs ((aG b).take k)) ρ y b hB cb a c hlen (fun x => aU.at 0 rfl) (fun x => hr.app.app.cons.cons.cons) hc ⟨0, none, 0, [], [], []⟩ ⟨rfl, .nil, .nil⟩ hy) (fun h0 ρ k q vs N hk hq hvs => ?_) (fun q hq => ?_)
 · refine WX.seq ?_
   refine WX.seq ?_
   obtain ⟨k', aw, cw, ws, Gw, R⟩ := q
   obtain ⟨hkk, hGw, hRw⟩ := hq
   simp only at hkk hGw hRw
   subst hkk
   obtain ⟨a1, c1, rfl, hN⟩ := hvs
   dsimp only
   refine WX.re (O' := (cb, ⟨0, false, [.slice a b.length c]⟩) :: (b5, ⟨0, false, [I (cZ b k' : Nat)]⟩) :: (b4, ⟨0, false, [.slice aw k' cw]⟩) :: (Gw ++ (N ++ (R ++ O)))) ?_
   refine WX.region rfl (za rfl (ae.nil (Fin.aa (WX.region rfl (za rfl (ae.nil (Fin.aa (WX.block (WX.seq (WX.region rfl ?_))))))))))
   first | refine ae.ld Met.none rfl bJ ?_ | refine ae.ba Met.none rfl bJ ?_
   refine zm rfl ?_
   refine ae.buildSlice (c := [_]) Met.none rfl aR aO kf (by decide) (by decide) rfl rfl rfl rfl (fun b14 => ?_)
   refine ae.mH [_, _, _, _] Met.none rfl rfl pT aR aO wS kf (Src.lit (cs := [_])) (fun a15 c15 G15 hG15 => ?_)
   refine ae.st (vs := [_]) (c' := [_]) Met.none rfl rfl rfl cG ?_
   refine ae.nil (Fin.aa (WX.region rfl (zm rfl ?_)))
   refine ae.st (vs := [_]) (c' := [_]) Met.none rfl rfl rfl cj ?_
   refine ae.nil (Fin.ag ?_)
   have hb : fk (N ++ R) (ws ++ [.slice a1 (nth (aG b) k').length c1]) ((aG b).take (k' + 1)) := by
    rw [bG hk]
    exact hRw.app.snoc ⟨a1, c1, rfl, hN.src⟩
   exact Fin.round (⟨k' + 1, a15, c15, ws ++ [.slice a1 (nth (aG b) k').length c1], G15, N ++ R⟩ : yV) ⟨rfl, hG15, hb⟩ aC
 · skip
   refine Fin.ag (Fin.aa (WX.seq ?_))
   refine WX.draw rfl ?_
   first | refine ae.ld Met.none rfl bJ ?_ | refine ae.ba Met.none rfl bJ ?_
   first | refine ae.ld Met.none rfl bY ?_ | refine ae.ba Met.none rfl bY ?_
   refine za rfl (za rfl (ae.nil (Fin.aa (WX.ret ?_))))
   obtain ⟨k', aw, cw, ws, Gw, R⟩ := q
   obtain ⟨hkk, hGw, hRw⟩ := hq
   simp only at hkk hGw hRw
   subst hkk
   rw [List.take_length] at hRw
   exact Fin.result (O' := Gw ++ (R ++ O)) (.inr rfl) rfl rfl aC ⟨aw, cw, ws, Gw, R, rfl, hGw, hRw, rfl⟩
theorem wG (O : an) (b : List Int) (a : Option Addr) (c : Nat) (hB : Bytes b) (hlen : b.length ≤ 100000) (hr : bK O 1 a b.length (b.map B8)) (hc : a = none → c = 0) :
  Spec Tryz.prog false 23 #[.slice a b.length c] O fun v O' => ∃ ao co vs G R, v = .tuple #[.slice ao (aG b).length co, I (cZ b (aG b).length : Nat)] ∧ Grow 1 ao (aG b).length co vs G ∧ fk (R ++ O) vs (aG b) ∧ O' = G ++ (R ++ O) :=
 (qB O b a c hB hlen hr hc).mono fun v O' ⟨ao, co, vs, G, R, h1, h2, h3, h4⟩ => ⟨ao, co, vs, G, R, h1, h2, h3.right, h4⟩
end Go.Proofs.YthekokdpplobhaaGreat.Eng
set_option maxRecDepth 8000
namespace Go.Proofs.YthekokdpplobhaaGreat.Eng
theorem lS (O : an) (xs ys : List (List Int)) (vs ws : List Value) (a b : Option Addr) (c e : Nat) (hlen : xs.length ≤ 1000000000) (hsh : ∀ x ∈ xs, x.length ≤ 1000000000) (hv : Src O 1 (.slice a xs.length c) xs.length vs) (hw : Src O 1 (.slice b ys.length e) ys.length ws) (hx : fk O vs xs) (hy : fk O ws ys) :
  Spec Tryz.prog true 13 #[.slice a xs.length c, .slice b ys.length e] O fun v O' => ∃ x, v = .bool x ∧ x = decide (xs = ys) ∧ O' = O := by
 refine Spec.enter (args := [_, _]) (m := 27) Tryz.func13 rfl rfl (by decide +kernel) fun h0 => ?_
 refine WX.seq (WX.region rfl (za rfl (ae.nil (Fin.aa (WX.seq (WX.seq (WX.region rfl (zm rfl (ae.len Met.none rfl Tryz.underlying29 (zm rfl (ae.len Met.none rfl Tryz.underlying29 (zb rfl rfl rfl (ae.nil (Fin.aa ?_))))))))))))))
 refine WX.cond rfl (fun hc0 => ?_) (fun hc0 => ?_)
 · try simp only [aB] at hc0
   refine WX.seq (WX.region rfl (za rfl (ae.nil (Fin.aa (WX.ret (Fin.az ?_))))))
   first
   | exact Fin.result (O' := O) (.inr rfl) rfl rfl au ⟨_, rfl, (decide_eq_false (fun h => hc0 (by rw [h]))).symm, rfl⟩
   | exact Fin.result (O' := O) (.inr rfl) rfl rfl au ⟨_, rfl, (decide_eq_false (fun h => hc2 (by rw [h]))).symm, rfl⟩
   | exact Fin.result (O' := O) (.inr rfl) rfl rfl au ⟨_, rfl, (decide_eq_true (by
     have e1 : k = xs.length := by omega
     have e2 := hk.2
     rw [e1, List.take_length, List.take_of_length_le (by omega)] at e2
     exact e2)).symm, rfl⟩
 · try simp only [aB] at hc0
   refine WX.skip (Fin.aa (WX.seq (WX.seq (WX.region rfl (za rfl (ae.nil (Fin.aa (WX.block ?_))))))))
   refine WX.loop (fun k : Nat => [(0, .slice a xs.length c), (1, .slice b ys.length e), (5, I k)]) (fun _ => O) (fun k => k ≤ xs.length ∧ xs.take k = ys.take k) (fun k => xs.length - k) 0 ⟨Nat.zero_le _, rfl⟩ (fun s hs => hs.tl [] 0) (fun k hk => ?_)
   refine WX.seq (WX.seq (WX.region rfl (zm rfl (zm rfl (ae.len Met.none rfl Tryz.underlying29 (zb rfl rfl rfl (ae.nil (Fin.aa ?_))))))))
   refine WX.cond rfl (fun hc1 => ?_) (fun hc1 => ?_)
   · try simp only [aB] at hc1
     refine WX.skip (Fin.aa (WX.seq (WX.block (WX.seq ?_))))
     have hk1 : k < xs.length := by omega
     have hk2 : k < ys.length := by omega
     obtain ⟨a1, c1, e1, s1⟩ := hx.2 k hk1
     obtain ⟨a2, c2, e2, s2⟩ := hy.2 k hk2
     rw [e1] at s1
     rw [e2] at s2
     refine WX.draw rfl ?_
     refine zm rfl (zm rfl ?_)
     first | refine ae.ix Met.none rfl rfl aR aO ?_ | refine ae.eG Met.none rfl rfl aR aO ?_
     first | refine ae.ld Met.none rfl aD ?_ (hv := (show vs[k]? = some (.slice a1 (nth xs k).length c1) from by rw [← e1]; exact dq (by rw [hx.1]; exact hk1))) | refine ae.ba Met.none rfl aD ?_ (hv := (show vs[k]? = some (.slice a1 (nth xs k).length c1) from by rw [← e1]; exact dq (by rw [hx.1]; exact hk1)))
     refine zm rfl (zm rfl ?_)
     first | refine ae.ix Met.none rfl rfl aR aO ?_ | refine ae.eG Met.none rfl rfl aR aO ?_
     first | refine ae.ld Met.none rfl aD ?_ (hv := (show ws[k]? = some (.slice a2 (nth ys k).length c2) from by rw [← e2]; exact dq (by rw [hy.1]; exact hk2))) | refine ae.ba Met.none rfl aD ?_ (hv := (show ws[k]? = some (.slice a2 (nth ys k).length c2) from by rw [← e2]; exact dq (by rw [hy.1]; exact hk2)))
     refine ae.cl (O1 := _) Met.none rfl (ah Tryz.func20 (by decide +kernel)) rfl (fun _ h => h) (gz O (nth xs k) (nth ys k) a1 a2 c1 c2 (by have := hsh _ (dQ hk1); unfold gY; omega) s1 s2) (fun v O' hp => ?_)
     obtain ⟨rfl, hO⟩ := hp
     subst O'
     refine ae.not Met.none rfl (ae.nil (Fin.aa ?_))
     refine WX.cond rfl (fun hc2 => ?_) (fun hc2 => ?_)
     · try simp only [aB] at hc2
       refine WX.seq (WX.region rfl (za rfl (ae.nil (Fin.aa (WX.ret (Fin.bq (Fin.az (Fin.dN (Fin.bq (Fin.az ?_))))))))))
       first
       | exact Fin.result (O' := O) (.inr rfl) rfl rfl au ⟨_, rfl, (decide_eq_false (fun h => hc0 (by rw [h]))).symm, rfl⟩
       | exact Fin.result (O' := O) (.inr rfl) rfl rfl au ⟨_, rfl, (decide_eq_false (fun h => hc2 (by rw [h]))).symm, rfl⟩
       | exact Fin.result (O' := O) (.inr rfl) rfl rfl au ⟨_, rfl, (decide_eq_true (by
         have e1 : k = xs.length := by omega
         have e2 := hk.2
         rw [e1, List.take_length, List.take_of_length_le (by omega)] at e2
         exact e2)).symm, rfl⟩
     · try simp only [aB] at hc2
       refine WX.skip (Fin.ag (Fin.aa (WX.region rfl (zm rfl (zb rfl rfl dH (za rfl (ae.nil ?_)))))))
       refine Fin.aj (k + 1) ⟨by omega, ?_⟩ (by omega) (fun s hs => hs.tl [] 0)
       rw [bG hk1, bG hk2, hk.2, hc2]
   · try simp only [aB] at hc1
     refine WX.exit (Fin.aF (Fin.aN (Fin.aK rfl (Fin.aa (WX.seq (WX.region rfl (za rfl (ae.nil (Fin.aa (WX.ret ?_))))))))))
     first
     | exact Fin.result (O' := O) (.inr rfl) rfl rfl au ⟨_, rfl, (decide_eq_false (fun h => hc0 (by rw [h]))).symm, rfl⟩
     | exact Fin.result (O' := O) (.inr rfl) rfl rfl au ⟨_, rfl, (decide_eq_false (fun h => hc2 (by rw [h]))).symm, rfl⟩
     | exact Fin.result (O' := O) (.inr rfl) rfl rfl au ⟨_, rfl, (decide_eq_true (by
       have e1 : k = xs.length := by omega
       have e2 := hk.2
       rw [e1, List.take_length, List.take_of_length_le (by omega)] at e2
       exact e2)).symm, rfl⟩
theorem jv {n m : Int} (hm : 0 < m) : 0 ≤ ie n m ∧ ie n m < m := by
 unfold ie
 split
 · rw [Int.tmod_eq_emod_of_nonneg (by omega)]
   exact ⟨Int.emod_nonneg _ (by omega), Int.emod_lt_of_pos _ hm⟩
 · rw [Int.tmod_eq_emod_of_nonneg (by omega)]
   exact ⟨Int.emod_nonneg _ (by omega), Int.emod_lt_of_pos _ hm⟩
theorem ry (n : Int) : 0 ≤ IntKind.wrap .u8 n ∧ IntKind.wrap .u8 n < 256 := by
 unfold IntKind.wrap
 have e1 : (2 : Int) ^ IntKind.bits .u8 = 256 := rfl
 have e3 : IntKind.signed .u8 = false := rfl
 simp only [e1, e3, Bool.false_and, Bool.false_eq_true, if_false]
 omega
structure y8 where
 xs : List (List Int)
 a : Option Addr
 c : Nat
 vs : List Value
 G : an
 R : an
def yH (xs : List (List Int)) : Prop := xs.length ≤ 6 ∧ ∀ x ∈ xs, Bytes x ∧ x.length ≤ 10
theorem oS (O : an) (l : List Int) (a : Option Addr) (c : Nat) (hl64 : ∀ n ∈ l, dG n) (hlen : gY l) (hl : Src O 1 (.slice a l.length c) l.length (l.map I)) :
  Spec Tryz.prog false 14 #[.slice a l.length c] O fun v O' => ∃ xs ao co vs G R, v = .slice ao xs.length co ∧ Grow 1 ao xs.length co vs G ∧ fk R vs xs ∧ yH xs ∧ O' = G ++ (R ++ O) ∧ xs.length = min l.length 6 := by
 unfold gY at hlen
 refine Spec.enter (args := [_]) (m := 44) Tryz.func14 rfl rfl (by decide +kernel) fun h0 => ?_
 refine WX.seq (WX.region rfl (za rfl (zR rfl (za rfl (ae.nil (Fin.aa (WX.seq (WX.seq (WX.region rfl (za rfl (ae.nil (Fin.aa (WX.block ?_)))))))))))))
 refine WX.loop (fun q : y8 => [(0, .slice a l.length c), (3, .slice q.a q.xs.length q.c), (4, I (q.xs.length : Int))]) (fun q => q.G ++ (q.R ++ O)) (fun q => q.xs.length ≤ l.length ∧ Grow 1 q.a q.xs.length q.c q.vs q.G ∧ fk q.R q.vs q.xs ∧ yH q.xs) (fun q => 6 - q.xs.length) ⟨[], none, 0, [], [], []⟩ ⟨Nat.zero_le _, .nil, .nil, by decide, fun x hx => by simp at hx⟩ (fun s hs => hs.tl [] 0) (fun q hq => ?_)
 obtain ⟨xs, ao, co, vs, G, R⟩ := q
 obtain ⟨h1, hG, hvs, hR1, hR2⟩ := hq
 simp only at h1 hG hvs hR1 hR2
 dsimp only
 have hls : Src (G ++ (R ++ O)) 1 (.slice a l.length c) l.length (l.map I) := Src.app (Src.app hl)
 refine WX.seq (WX.seq (WX.region rfl (zm rfl (zm rfl (ae.len Met.none rfl Tryz.underlying22 (zb rfl rfl rfl (zm rfl ?_)))))))
 refine ae.split (d := 12) rfl (fun hg12 => ?_) (fun hg12 => ?_)
 · try simp only [aB] at hg12
   refine ae.move (Met.some rfl rfl rfl) rfl (ae.bin (Met.some rfl rfl rfl) rfl rfl rfl (ae.bD Met.none rfl rfl (ae.nil (Fin.aa ?_))))
   refine WX.cond rfl (fun hc0 => ?_) (fun hc0 => ?_)
   · try simp only [aB] at hc0
     refine WX.skip (Fin.aa (WX.seq (WX.block (WX.seq ?_))))
     have hk1 : xs.length < l.length := by omega
     have hn64 := hl64 _ (dQ hk1)
     obtain ⟨n, hn⟩ : ∃ n, n = ie (nth l xs.length) 1000 := ⟨_, rfl⟩
     have hnr := jv (n := nth l xs.length) (m := 1000) (by decide)
     rw [← hn] at hnr
     refine WX.region rfl (zm rfl (zm rfl ?_))
     first | refine ae.ix Met.none rfl rfl bj cj ?_ | refine ae.eG Met.none rfl rfl bj cj ?_
     first | refine ae.ld Met.none rfl bY ?_ | refine ae.ba Met.none rfl bY ?_
     refine ae.cl (O1 := _) Met.none rfl (ah Tryz.func4 (by decide +kernel)) rfl (fun _ h => h) (kG _ (nth l xs.length) 1000 hn64 (by decide)) (fun v O' hp => ?_)
     obtain ⟨rfl, hO⟩ := hp
     subst O'
     rw [← hn]
     have hnm : 0 ≤ n.tmod 11 ∧ n.tmod 11 ≤ 10 := by rw [Int.tmod_eq_emod_of_nonneg hnr.1]; omega
     refine za rfl (zR rfl (za rfl (ae.nil (Fin.aa (WX.seq (WX.seq (WX.region rfl (za rfl (ae.nil (Fin.aa (WX.block ?_)))))))))))
     refine WX.loop (fun q : List Int × Option Addr × Nat × an => [(0, .slice a l.length c), (3, .slice ao xs.length co), (4, I (xs.length : Int)), (5, I n), (6, .slice q.2.1 q.1.length q.2.2.1), (7, I (q.1.length : Int))]) (fun q => q.2.2.2 ++ (G ++ (R ++ O))) (fun q => (q.1.length : Int) ≤ n.tmod 11 ∧ Bytes q.1 ∧ Grow 1 q.2.1 q.1.length q.2.2.1 (q.1.map B8) q.2.2.2) (fun q => 10 - q.1.length) ([], none, 0, []) ⟨by simp only [List.length_nil]; omega, fun x hx => by simp at hx, .nil⟩ (fun s hs => hs.tl [] 0) (fun q hq => ?_)
     obtain ⟨y, ay, cy, Gy⟩ := q
     obtain ⟨hy1, hyB, hGy⟩ := hq
     simp only at hy1 hyB hGy
     dsimp only
     refine WX.seq (WX.seq (WX.region rfl (zm rfl (zm rfl ?_))))
     refine ae.rem Met.none rfl rfl (by omega) ?_
     refine zb rfl rfl rfl (ae.nil (Fin.aa ?_))
     refine WX.cond rfl (fun hc1 => ?_) (fun hc1 => ?_)
     · try simp only [aB] at hc1
       refine WX.skip (Fin.aa (WX.seq (WX.block (WX.region rfl (zm rfl (zm rfl ?_))))))
       refine ae.qu Met.none rfl rfl ?_
       refine zm rfl (zm rfl (zb rfl rfl rfl (zb rfl rfl rfl ?_)))
       refine ae.conv Met.none rfl Tryz.underlying3 Tryz.underlying5 rfl ?_
       refine ae.buildSlice (c := [_]) Met.none rfl aQ ec dz (by decide) (by decide) rfl rfl rfl rfl (fun b37 => ?_)
       refine ae.mH [_] Met.none rfl rfl dM aQ ec qt dz (Src.lit (cs := [_])) (fun a38 c38 G38 hG38 => ?_)
       refine za rfl (ae.nil (Fin.ag (Fin.aa (WX.region rfl (zm rfl (zb rfl rfl dH (za rfl (ae.nil ?_))))))))
       refine Fin.aj (y ++ [IntKind.wrap .u8 (IntKind.wrap .i64 (n.tdiv 11 + IntKind.wrap .i64 ((y.length : Int) * n)))], a38, c38, G38) ⟨by simp only [List.length_append, List.length_singleton]; omega, ?_, ?_⟩ (by simp only [List.length_append, List.length_singleton]; omega) ?_
       · intro z hz
         rcases List.mem_append.1 hz with q | q
         · exact hyB z q
         · rw [List.mem_singleton] at q; subst q; exact ry _
       · simp only [List.length_append, List.length_singleton, List.map_append]; exact hG38
       · simp only [List.length_append, List.length_singleton]
         exact (fun s hs => hs.tl [] 1)
     · try simp only [aB] at hc1
       refine WX.exit (Fin.aF (Fin.aN (Fin.aK rfl (Fin.aa ?_))))
       refine WX.re (O' := G ++ (Gy ++ (R ++ O))) ?_
       refine WX.region rfl (zm rfl (zm rfl ?_))
       refine ae.buildSlice (c := [_]) Met.none rfl aR aO kf (by decide) (by decide) rfl rfl rfl rfl (fun b41 => ?_)
       refine ae.mH [_] Met.none rfl rfl pT aR aO wS kf (Src.lit (cs := [_])) (fun a42 c42 G42 hG42 => ?_)
       refine za rfl (ae.nil (Fin.ag (Fin.aa (WX.region rfl (zm rfl (zb rfl rfl dH (za rfl (ae.nil ?_))))))))
       refine Fin.aj (⟨xs ++ [y], a42, c42, vs ++ [.slice ay y.length cy], G42, Gy ++ R⟩ : y8) ⟨by simp only [List.length_append, List.length_singleton]; omega, ?_, ?_, ?_, ?_⟩ (by simp only [List.length_append, List.length_singleton]; omega) ?_
       · simp only [List.length_append, List.length_singleton]; exact hG42
       · simp only
         exact hvs.app.snoc ⟨ay, cy, rfl, hGy.src⟩
       · simp only [List.length_append, List.length_singleton]; omega
       · intro x hx
         rcases List.mem_append.1 hx with q | q
         · exact hR2 x q
         · rw [List.mem_singleton] at q; subst q; exact ⟨hyB, by omega⟩
       · simp only [List.length_append, List.length_singleton, List.append_assoc]
         exact (fun s hs => hs.tl [] 1)
   · try simp only [aB] at hc0
     refine WX.exit (Fin.aF (Fin.aN (Fin.aK rfl (Fin.aa (WX.seq (WX.region rfl (zm rfl (za rfl (ae.nil (Fin.aa (WX.ret ?_)))))))))))
     exact Fin.result (O' := G ++ (R ++ O)) (.inr rfl) rfl rfl aC ⟨xs, ao, co, vs, G, R, rfl, hG, hvs, ⟨hR1, hR2⟩, rfl, by omega⟩
 · try simp only [aB] at hg12
   refine zs 4 12 rfl rfl rfl (zs 4 12 rfl rfl rfl (ae.bd Met.none rfl rfl (ae.nil (Fin.aa ?_))))
   refine WX.cond rfl (fun hc0 => nomatch hc0) (fun hc0 => ?_)
   refine WX.exit (Fin.aF (Fin.aN (Fin.aK rfl (Fin.aa (WX.seq (WX.region rfl (zm rfl (za rfl (ae.nil (Fin.aa (WX.ret ?_)))))))))))
   exact Fin.result (O' := G ++ (R ++ O)) (.inr rfl) rfl rfl aC ⟨xs, ao, co, vs, G, R, rfl, hG, hvs, ⟨hR1, hR2⟩, rfl, by omega⟩
theorem Src.ug {O : an} {b n c : Nat} {r : Bool} {cs : List Value} (hl : cs.length = n) : Src ((b, ⟨1, r, cs⟩) :: O) 1 (.slice (some ⟨b, 0, none⟩) n c) n cs :=
 Src.of (y := ⟨1, r, cs⟩) (aU.at 0 rfl) (by show 0 + n * 1 ≤ cs.length; omega) (by show (cs.drop 0).take (n * 1) = cs; rw [Nat.mul_one, List.drop_zero, ← hl, List.take_length])
theorem nU (n : Nat) : 0 < (bA n).length := by
 rw [bA]; split <;> simp
theorem qy (x : List Int) : x.length < (dF x).length := by
 unfold dF
 have := nU x.length
 rw [List.length_append]
 omega
theorem kg (i : Int) (x : List Int) : x.length + 4 ≤ (ar i x).length := by
 unfold ar
 rw [List.length_append]
 have h1 := qy (aY i x)
 have h2 := nU (dE eD (aY i x)).toNat
 have h3 := qy x
 have h4 := nU (ff i).toNat
 have h5 : (aY i x).length = (bA (ff i).toNat).length + (dF x).length := by unfold aY; rw [List.length_append]
 omega
theorem sj : aY 0 [7] = [0, 1, 7] := by
 unfold aY dF
 have h1 : (ff 0).toNat = 0 := rfl
 rw [h1, cY (by decide), cY (by decide)]
 rfl
theorem rL (i : Nat) {b : List Int} (h : b.length < 4) : dB i b = ([], 0) := by
 rw [dB, dif_neg]
 rintro ⟨_, h2⟩
 have := h2.length_le
 have := kg i (aS b)
 omega
theorem xI : aG (ar 0 [7] ++ [3, 0, 1]) = [[7]] ∧ cZ (ar 0 [7] ++ [3, 0, 1]) 1 = (ar 0 [7]).length := by
 have h := qd [3, 0, 1] [[7]] 0 (by decide) (by intro x hx; simp at hx; subst hx; decide)
 have e : cM 0 [[7]] = ar 0 [7] := by rw [du]; show _ ++ [] = _; rw [List.append_nil]; rfl
 have h0 : dB (0 + ([[7]] : List (List Int)).length) [3, 0, 1] = ([], 0) := rL _ (by decide)
 rw [e, h0] at h
 have h1 : aG (ar 0 [7] ++ [3, 0, 1]) = [[7]] := by unfold aG; rw [h]; rfl
 refine ⟨h1, ?_⟩
 unfold cZ
 rw [h1]
 show (cM 0 [[7]]).length = _
 rw [e]
theorem xm : 4 < (ar 0 [7]).length := kg 0 [7]
theorem rA (O : an) : Spec Tryz.prog false 21 #[] O fun v O' => v = .bool true ∧ O' = O := by
 have hf7 := xm
 have hfl : (ar 0 [7]).length ≤ 100 := by
  unfold ar
  rw [List.length_append]
  have h1 := il (b := aY 0 [7]) (by rw [sj]; decide)
  have h2 := gy eD (aY 0 [7])
  have h3 := dY (k := 9) (n := (dE eD (aY 0 [7])).toNat) (by unfold mK at h2; omega)
  rw [sj] at *
  simp only [List.length_cons, List.length_nil] at h1
  omega
 have hhr := gy eD [0, 1, 7]
 have hB7 : Bytes [7] := by intro x hx; simp at hx; omega
 have hB017 : Bytes [0, 1, 7] := by intro x hx; simp at hx; omega
 have hBl : Bytes eD := by unfold eD; intro x hx; simp at hx; omega
 have hrl := il (b := [0, 1, 7]) (by decide)
 have hfe : dF [0, 1, 7] ++ bA (dE eD [0, 1, 7]).toNat = ar 0 [7] := by unfold ar; rw [sj]
 obtain ⟨hr1, hr2⟩ := xI
 simp only [List.length_cons, List.length_nil] at hrl
 refine Spec.enter (args := []) (m := 40) Tryz.func21 rfl rfl (by decide +kernel) fun h0 => ?_
 refine WX.seq (WX.region rfl (za rfl (zR rfl ?_)))
 refine ae.buildSlice (c := [_]) Met.none rfl aQ ec dz (by decide) (by decide) rfl rfl rfl rfl (fun b6 => ?_)
 refine ae.cl (O1 := _) Met.none rfl (ah Tryz.func36 (by decide +kernel)) rfl (fun _ h => h) (nJ _ 0 [7] (some ⟨b6, 0, none⟩) 1 (by unfold dG; decide) hB7 (by decide) (Src.lit)) (fun v O' hp => ?_)
 obtain ⟨a1, c1, G1, rfl, hG1, rfl⟩ := hp
 refine za rfl (zR rfl ?_)
 refine ae.alloc (c := [_]) Met.none rN rfl (fun b2 => ?_)
 refine zR rfl ?_
 refine ae.buildSlice (c := [_, _, _]) Met.none rfl aQ ec dz (by decide) (by decide) rfl rfl rfl rfl (fun b8 => ?_)
 refine ae.cl (O1 := (b2, ⟨0, false, [.slice none 0 0]⟩) :: ([] ++ ((b8, ⟨1, false, [B8 0, B8 1, B8 7]⟩) :: (G1 ++ ((b6, ⟨1, false, [B8 7]⟩) :: O))))) Met.none rfl (ah Tryz.func40 (by decide +kernel)) rfl (fun _ hs => hs.tl [1, 0] 2) (qh _ [] b2 [] [0, 1, 7] none (some ⟨b8, 0, none⟩) 0 3 hB017 (by decide) (by decide) .nil (Src.lit)) (fun v O' hp => ?_)
 obtain ⟨a2, c2, G2, hG2, rfl⟩ := hp
 rw [show [] ++ (bA ([0, 1, 7] : List Int).length ++ [0, 1, 7]) = dF [0, 1, 7] from rfl] at hG2 ⊢
 refine zR rfl ?_
 refine ae.buildSlice (c := [_, _, _]) Met.none rfl aQ ec dz (by decide) (by decide) rfl rfl rfl rfl (fun b10 => ?_)
 refine ae.cl (O1 := _) Met.none rfl (ah Tryz.func42 (by decide +kernel)) rfl (fun _ h => h) (sQ _ eD [0, 1, 7] (some ⟨b10, 0, none⟩) 3 hBl hB017 (by decide) (by decide) (Src.lit)) (fun v O' hp => ?_)
 obtain ⟨rfl, hO⟩ := hp
 subst O'
 rw [show U (dE eD [0, 1, 7]) = U (((dE eD [0, 1, 7]).toNat : Nat) : Int) from by rw [Int.toNat_of_nonneg hhr.1]]
 refine ae.cl (O1 := (b2, ⟨0, false, [.slice a2 (dF [0, 1, 7]).length c2]⟩) :: (G2 ++ (G1 ++ O))) Met.none rfl (ah Tryz.func41 (by decide +kernel)) rfl aC (mu _ G2 b2 (dF [0, 1, 7]) a2 c2 (dE eD [0, 1, 7]).toNat (by unfold mK at hhr; omega) (by omega) hG2) (fun v O' hp => ?_)
 obtain ⟨a3, c3, G3, hG3, rfl⟩ := hp
 rw [hfe] at hG3 ⊢
 refine zR rfl (zm rfl (ae.len Met.none rfl Tryz.underlying39 (za rfl (zR rfl (zm rfl ?_)))))
 refine ae.buildSlice (c := [_, _, _]) Met.none rfl aQ ec dz (by decide) (by decide) rfl rfl rfl rfl (fun b17 => ?_)
 refine ae.wL (_ :: _ :: G3) Met.none rfl rfl dM aQ ec qt dz (Src.lit (cs := [_, _, _])) (fun o18 b18 ha18 => ?_)
 have hsl : (ar 0 [7]).length + 3 = (ar 0 [7] ++ [3, 0, 1]).length := by rw [List.length_append]; rfl
 subst ha18
 rw [hsl]
 refine ae.cl (O1 := _) Met.none rfl (ah Tryz.func23 (by decide +kernel)) rfl (fun _ h => h) (wG _ (ar 0 [7] ++ [3, 0, 1]) (some ⟨b18, 0, none⟩) _ (fun x hx => by
 rcases List.mem_append.1 hx with q | q
 · exact gT hB7 x q
 · simp at q; omega) (by rw [← hsl]; omega) (.inr ⟨b18, 0, _, rfl, aU.at 0 rfl, rfl, by rw [← hsl]; simp, by
   rw [← hsl]
   show (List.map B8 (ar 0 [7]) ++ [B8 3, B8 0, B8 1]).take (((ar 0 [7]).length + 3) * 1) = _
   rw [List.take_of_length_le (by simp), List.map_append]
   rfl⟩) (fun q => by cases q)) (fun v O' hp => ?_)
 obtain ⟨ao, co, ws, Go, Ro, rfl, hGo, hRo, rfl⟩ := hp
 rw [hr1] at hGo hRo ⊢
 refine zm rfl (ze rfl rfl (ze rfl rfl (za rfl (za rfl (zR rfl (zm rfl ?_))))))
 refine ae.cl (O1 := _) Met.none rfl (ah Tryz.func43 (by decide +kernel)) rfl (fun _ h => h) (nt _ G3 b2 (ar 0 [7]) a3 c3 (by omega) hG3 (Src.app (Src.app (Src.cons (Src.cons (Src.cons hG3.src))))) (aU.app (aU.app (aU.cons (aU.cons (aU.at 0 rfl)))))) (fun v O' hp => ?_)
 obtain ⟨a4, c4, G4, rfl, hG4, rfl⟩ := hp
 refine ae.cl (O1 := _) Met.none rfl (ah Tryz.func20 (by decide +kernel)) rfl (fun _ h => h) (gz _ (ar 0 [7]) (ar 0 [7]) (some ⟨o18, 0, none⟩) a4 c1 c4 (by unfold gY; omega) (Src.app (Src.app (Src.app (Src.cons (Src.cons (Src.cons (Src.app (Src.ug (by simp))))))))) hG4.src) (fun v O' hp => ?_)
 obtain ⟨rfl, hO⟩ := hp
 subst O'
 refine zm rfl ?_
 refine ae.split (d := 25) rfl (fun hg25 => ?_) (fun hg25 => ?_)
 · try simp only [aB] at hg25
   refine ae.move (Met.some rfl rfl rfl) rfl (ae.bin (Met.some rfl rfl rfl) rfl rfl rfl (ae.bD Met.none rfl rfl (zm rfl ?_)))
   refine ae.split (d := 29) rfl (fun hg29 => ?_) (fun hg29 => ?_)
   · try simp only [aB] at hg29
     refine ae.move (Met.some rfl rfl rfl) rfl (ae.move (Met.some rfl rfl rfl) rfl (ae.bin (Met.some rfl rfl rfl) rfl rfl rfl (ae.bD Met.none rfl rfl (zm rfl ?_))))
     refine ae.split (d := 34) rfl (fun hg34 => ?_) (fun hg34 => ?_)
     · try simp only [aB] at hg34
       refine ae.move (Met.some rfl rfl rfl) rfl ?_
       refine ae.buildSlice (c := [_]) (Met.some rfl rfl rfl) rfl aQ ec dz (by decide) (by decide) rfl rfl rfl rfl (fun b36 => ?_)
       refine ae.buildSlice (c := [_]) (Met.some rfl rfl rfl) rfl aR aO kf (by decide) (by decide) rfl rfl rfl rfl (fun b37 => ?_)
       refine ae.cl (O1 := _) (Met.some rfl rfl rfl) rfl (ah Tryz.func13 (by decide +kernel)) rfl (fun _ h => h) (lS _ [[7]] [[7]] ws [.slice (some ⟨b36, 0, none⟩) 1 1] ao (some ⟨b37, 0, none⟩) co 1 (by decide) (by intro x hx; simp at hx; subst hx; decide) (Src.cons (Src.cons (Src.app hGo.src))) (Src.lit) hRo.app.app.cons.cons ⟨rfl, fun k hk => by
       have : k = 0 := by simp at hk; omega
       subst this
       exact ⟨some ⟨b36, 0, none⟩, 1, rfl, Src.cons (Src.lit)⟩⟩) (fun v O' hp => ?_)
       obtain ⟨bx, rfl, hbx, rfl⟩ := hp
       rw [decide_eq_true rfl] at hbx
       subst hbx
       refine ae.bD Met.none rfl rfl (za rfl (ae.nil (Fin.aa (WX.ret ?_))))
       exact Fin.result (O' := O) (.inr rfl) rfl rfl aC ⟨rfl, rfl⟩
     · try simp only [aB] at hg34
       exact absurd hg34 (by have := hr2; simp only [List.length_cons, List.length_nil, Nat.zero_add]; omega)
   · try simp only [aB] at hg29
     exact absurd hg29 (by omega)
 · try simp only [aB] at hg25
   exact (by simp at hg25)
theorem sA {i : Int} {x : List Int} (hi : dG i) (hx : x.length ≤ 1000) : (ar i x).length ≤ x.length + 50 := by
 unfold ar
 rw [List.length_append]
 have h0 := gW hi (b := x) (by omega)
 have h1 := il (b := aY i x) (by omega)
 have h2 := gy eD (aY i x)
 have h3 := dY (k := 9) (n := (dE eD (aY i x)).toNat) (by unfold mK at h2; omega)
 omega
theorem m5 : ∀ (l : List (List Int)) (i : Nat) (x : List Int), x ∈ l → x.length ≤ (cM i l).length
 | [], _, _, h => by simp at h
 | y :: l, i, x, h => by
  rw [du, List.length_append]
  rcases List.mem_cons.1 h with rfl | h
  · have := kg (i : Int) x
    omega
  · have := m5 l (i + 1) x h
    omega
theorem tL {b x : List Int} (h : x ∈ aG b) : x.length ≤ b.length := Nat.le_trans (m5 _ 0 x h) (kq b 0).2.length_le
theorem gb {l : List Int} {k : Nat} (h : Bytes l) : Bytes (l.take k) := fun x hx => h x (List.mem_of_mem_take hx)
end Go.Proofs.YthekokdpplobhaaGreat.Eng
set_option linter.unusedVariables false
set_option linter.unusedSimpArgs false
set_option maxRecDepth 4000
namespace Go.Proofs.YthekokdpplobhaaGreat.Eng
theorem ae.re {P : Program} {x : Cx} {ops : Array Oper} {mq : Mk} {i : Nat} {l : List Oper} {L : da} {O O' : an} {K : bN → Prop} (h : ae P x ops mq i l L O' K) (hs : ∀ g, Sat g O → Sat g O' := by exact aC) (hq : x.q = false := by exact rfl) : ae P x ops mq i l L O K :=
 fun a b s hst hz => h a b s ⟨hst.m, hst.t, hs _ hst.sat, fun q => by rw [hq] at q; cases q⟩ hz
structure Fi where
 bs : List Int
 d : Int
def eA (R : an) (v : Value) (f : Fi) : Prop := ∃ a c, v = cJ a f.bs.length c f.d ∧ bK R 1 a f.bs.length (f.bs.map B8) ∧ (a = none → c = 0) ∧ Bytes f.bs
inductive eZ (R : an) : List (Int × Value) → List (Int × Fi) → Prop
 | nil : eZ R [] []
 | cons {k v f m fs} : eA R v f → eZ R m fs → eZ R ((k, v) :: m) ((k, f) :: fs)
def used : List (Int × Fi) → Int
 | [] => 0
 | e :: l => (e.2.bs.length : Int) + used l
theorem pR : ∀ fs, 0 ≤ used fs
 | [] => Int.le_refl _
 | e :: l => by
  have := pR l
  unfold used
  omega
variable {R : an}
theorem eA.app {N : an} {v : Value} {f : Fi} (h : eA R v f) : eA (N ++ R) v f := by
 obtain ⟨a, c, h1, h2, h3⟩ := h
 exact ⟨a, c, h1, h2.app, h3⟩
theorem eZ.app {N : an} {m : List (Int × Value)} {fs : List (Int × Fi)} (h : eZ R m fs) : eZ (N ++ R) m fs := by
 induction h with
 | nil => exact .nil
 | cons h1 _ ih => exact .cons h1.app ih
theorem eZ.get {m : List (Int × Value)} {fs : List (Int × Fi)} (h : eZ R m fs) (k : Int) : (bI k m = none ∧ bI k fs = none) ∨ ∃ v f, bI k m = some v ∧ bI k fs = some f ∧ eA R v f := by
 induction h with
 | nil => exact .inl ⟨rfl, rfl⟩
 | @cons k' v f m fs h1 _ ih =>
  simp only [bI]
  by_cases q : k = k'
  · rw [if_pos q, if_pos q]; exact .inr ⟨v, f, rfl, rfl, h1⟩
  · rw [if_neg q, if_neg q]; exact ih
theorem eZ.put {m : List (Int × Value)} {fs : List (Int × Fi)} (h : eZ R m fs) (k : Int) {v : Value} {f : Fi} (hv : eA R v f) : eZ R (eN k v m) (eN k f fs) := by
 induction h with
 | nil => exact .cons hv .nil
 | @cons k' v' f' m fs h1 h2 ih =>
  simp only [eN]
  by_cases q : k = k'
  · rw [if_pos q, if_pos q]; exact .cons hv h2
  · rw [if_neg q, if_neg q]; exact .cons h1 ih
theorem eZ.del {m : List (Int × Value)} {fs : List (Int × Fi)} (h : eZ R m fs) (k : Int) : eZ R (jR k m) (jR k fs) := by
 induction h with
 | nil => exact .nil
 | @cons k' v' f' m fs h1 h2 ih =>
  simp only [jR]
  by_cases q : k = k'
  · rw [if_pos q, if_pos q]; exact h2
  · rw [if_neg q, if_neg q]; exact .cons h1 ih
theorem eZ.keys {m : List (Int × Value)} {fs : List (Int × Fi)} (h : eZ R m fs) : m.map (·.1) = fs.map (·.1) := by
 induction h with
 | nil => rfl
 | cons _ _ ih => rw [List.map_cons, List.map_cons, ih]
def Fi.cX (f : Fi) : Fi := ⟨f.bs, f.bs.length⟩
def dg (fs : List (Int × Fi)) : List (Int × Fi) := fs.map fun e => (e.1, e.2.cX)
theorem eZ.cX {m : List (Int × Value)} {fs : List (Int × Fi)} (h : eZ R m fs) : eZ R (m.map fun e => (e.1, Eng.cX e.2)) (dg fs) := by
 induction h with
 | nil => exact .nil
 | cons h1 _ ih =>
  obtain ⟨a, c, rfl, h2, h3⟩ := h1
  exact .cons ⟨a, c, rfl, h2, h3⟩ ih
theorem bf.xd (mx : bf) : mx.cX.kv = mx.kv.map fun e => (e.1, Eng.cX e.2) := by
 unfold bf.cX bf.kv
 simp only [List.map_map]
 rfl
theorem eZ.file {m : List (Int × Value)} {fs : List (Int × Fi)} (h : eZ R m fs) : ∀ e ∈ m, iI e.2 := by
 induction h with
 | nil => intro e he; simp at he
 | cons h1 _ ih =>
  intro e he
  rcases List.mem_cons.1 he with rfl | he
  · obtain ⟨a, c, h2, _⟩ := h1; exact ⟨a, _, c, _, h2⟩
  · exact ih e he
theorem eZ.lens {mx : bf} {fs : List (Int × Fi)} (h : eZ R mx.kv fs) : Eng.lens mx.es = used fs := by
 obtain ⟨ck, es⟩ := mx
 unfold bf.kv at h
 simp only at h ⊢
 induction es generalizing fs with
 | nil => cases h; rfl
 | cons e es ih =>
  rw [List.map_cons] at h
  cases h with
  | cons h1 h2 =>
   obtain ⟨a, c, h3, _⟩ := h1
   simp only [Eng.lens, used]
   rw [ih h2, h3, mP]
theorem tV {mx : bf} (h : ∀ e ∈ mx.kv, iI e.2) : ∀ e ∈ mx.es, iI e.2.2 := fun e he => h (e.1, e.2.2) (List.mem_map.2 ⟨e, he, rfl⟩)
theorem me (mx : bf) : mx.es.map (·.1) = mx.kv.map (·.1) := by
 unfold bf.kv
 rw [List.map_map]; rfl
theorem qS {α : Type} {k : Int} {u : α} {x : Int} : ∀ {m : List (Int × α)}, x ∈ (eN k u m).map (·.1) → x = k ∨ x ∈ m.map (·.1)
 | [], h => by simp [eN] at h; exact .inl h
 | (n, v) :: m, h => by
  simp only [eN] at h
  split at h
  · rename_i q
    simp only [List.map_cons, List.mem_cons] at h ⊢
    rcases h with h | h
    · exact .inl h
    · exact .inr (.inr h)
  · simp only [List.map_cons, List.mem_cons] at h ⊢
    rcases h with h | h
    · exact .inr (.inl h)
    · exact (qS h).imp id .inr
theorem jj {α : Type} {k : Int} {u : α} : ∀ {m : List (Int × α)}, (m.map (·.1)).Nodup → ((eN k u m).map (·.1)).Nodup
 | [], _ => by simp [eN]
 | (n, v) :: m, h => by
  simp only [List.map_cons, List.nodup_cons] at h
  simp only [eN]
  split
  · rename_i q
    subst q
    simp only [List.map_cons, List.nodup_cons]
    exact h
  · rename_i q
    simp only [List.map_cons, List.nodup_cons]
    refine ⟨fun hm => ?_, jj h.2⟩
    rcases qS hm with e | e
    · exact q e.symm
    · exact h.1 e
theorem nQ {α : Type} {k : Int} : ∀ {m : List (Int × α)}, (jR k m).Sublist m
 | [] => List.Sublist.slnil
 | (n, v) :: m => by
  simp only [jR]
  split
  · exact List.sublist_cons_self _ _
  · exact nQ.cons_cons _
theorem wW {α : Type} {k : Int} {m : List (Int × α)} (h : (m.map (·.1)).Nodup) : ((jR k m).map (·.1)).Nodup := (nQ.map _).nodup h
structure DI (R : an) (mx : bf) (fs : List (Int × Fi)) : Prop where
 rel : eZ R mx.kv fs
 nd : (fs.map (·.1)).Nodup
theorem DI.app {N : an} {mx : bf} {fs : List (Int × Fi)} (h : DI R mx fs) : DI (N ++ R) mx fs := ⟨h.rel.app, h.nd⟩
def gR (fs : List (Int × Fi)) (k : Int) (f : Fi) : List (Int × Fi) := if f.bs = [] then jR k (eN k f fs) else eN k f fs
def iu (mx : bf) (k : Int) (v : Value) (n : Nat) : bf := if n = 0 then (mx.put k v).del k else mx.put k v
theorem DI.set {mx : bf} {fs : List (Int × Fi)} (h : DI R mx fs) (k : Int) {v : Value} {f : Fi} (hv : eA R v f) : DI R (iu mx k v f.bs.length) (gR fs k f) := by
 unfold iu gR
 by_cases q : f.bs = []
 · rw [if_pos (by rw [q]; rfl), if_pos q]
   refine ⟨?_, wW (jj h.nd)⟩
   rw [bf.vi, bf.qi]
   exact (h.rel.put k hv).del k
 · rw [if_neg (fun e => q (List.length_eq_zero_iff.1 e)), if_neg q]
   refine ⟨?_, jj h.nd⟩
   rw [bf.qi]
   exact h.rel.put k hv
theorem DI.cX {mx : bf} {fs : List (Int × Fi)} (h : DI R mx fs) : DI R mx.cX (dg fs) := ⟨by rw [bf.xd]; exact h.rel.cX, by
 unfold dg
 rw [List.map_map]
 exact h.nd⟩
def aI (fs : List (Int × Fi)) (k : Int) : Fi := (bI k fs).getD ⟨[], 0⟩
theorem DI.get {mx : bf} {fs : List (Int × Fi)} (h : DI R mx fs) (k : Int) : eA R ((bI k mx.kv).getD (cJ none 0 0 0)) (aI fs k) := by
 unfold aI
 rcases h.rel.get k with ⟨h1, h2⟩ | ⟨v, f, h1, h2, h3⟩
 · rw [h1, h2]; exact ⟨none, 0, rfl, .inl ⟨rfl, rfl, rfl⟩, fun _ => rfl, fun x hx => by simp at hx⟩
 · rw [h1, h2]; exact h3
theorem DI.new : DI R bf.new [] := ⟨.nil, by simp⟩
theorem bK.inc {R0 : an} {sz : Nat} {a : Option Addr} {n : Nat} {cs : List Value} (h : bK R0 sz a n cs) (hi : ∀ g, Sat g R → Sat g R0) : bK R sz a n cs := by
 rcases h with h | ⟨b, off, y, h1, h2, h3⟩
 · exact .inl h
 · exact .inr ⟨b, off, y, h1, fun g hg => h2 g (hi g hg), h3⟩
structure Dk where
 room : Int
 off : Bool
 armed : Bool
 left : Int
 fs : List (Int × Fi)
def bE (D : Dk) : Bool × Dk :=
 if D.armed = false then (true, D)
 else if D.left - 1 < 0 then (false, { D with off := true, armed := false, left := D.left - 1 })
 else (!D.off, { D with left := D.left - 1 })
def cK (D : Dk) (n : Int) : List Int × Int :=
 if ¬ (0 ≤ n ∧ n < 64) then ([], 1) else if D.off = true then ([], 23) else ((aI D.fs n).bs, 0)
def gD (D : Dk) (n : Int) (b : List Int) : Dk := { D with fs := gR D.fs n ⟨(aI D.fs n).bs ++ b, (aI D.fs n).d⟩ }
def bL (D : Dk) (n : Int) (b : List Int) : Int × Dk :=
 if ¬ (0 ≤ n ∧ n < 64) then (1, D) else if D.off = true then (23, D) else if (b.length : Int) > D.room - used D.fs then (22, D)
 else (if (bE (gD D n b)).1 = true then 0 else 23, (bE (gD D n b)).2)
def bT (D : Dk) : Int × Dk :=
 if D.off = true then (23, D) else if (bE D).1 = false then (23, (bE D).2) else (0, { (bE D).2 with fs := dg (bE D).2.fs })
def cA (D : Dk) (n size : Int) : Int × Dk :=
 if ¬ (0 ≤ n ∧ n < 64) ∨ size < 0 ∨ size > ((aI D.fs n).bs.length : Int) then (1, D)
 else if D.off = true then (23, D) else if (bE D).1 = false then (23, (bE D).2)
 else (0, { (bE D).2 with fs := gR D.fs n ⟨(aI D.fs n).bs.take size.toNat, min (aI D.fs n).d size⟩ })
abbrev bu (d bm : Nat) (D : Dk) (mx : bf) (R : an) : an := (d, ⟨0, false, oo bm D.room D.off D.armed D.left⟩) :: (bm, ⟨2, false, bW mx⟩) :: R
def yF (e : Int × Fi) : Prop := (0 ≤ e.1 ∧ e.1 < 64) ∧ e.2.bs ≠ [] ∧ 0 ≤ e.2.d ∧ e.2.d ≤ e.2.bs.length
structure dX (R : an) (D : Dk) (mx : bf) : Prop where
 di : DI R mx D.fs
 ok : ∀ e ∈ D.fs, yF e
 room : 0 ≤ D.room ∧ D.room ≤ 16777216
 left : D.armed = true → 0 ≤ D.left ∧ D.left < 9223372036854775808
 used : used D.fs ≤ D.room
theorem eT (D : Dk) : (bE D).2.fs = D.fs ∧ (bE D).2.room = D.room := by
 unfold bE
 split
 · exact ⟨rfl, rfl⟩
 · split <;> exact ⟨rfl, rfl⟩
theorem sw {D : Dk} (h : D.armed = true → 0 ≤ D.left ∧ D.left < 9223372036854775808) : (bE D).2.armed = true → 0 ≤ (bE D).2.left ∧ (bE D).2.left < 9223372036854775808 := by
 unfold bE
 split
 · exact h
 · rename_i q
   split
   · intro q2; simp at q2
   · intro q2
     have := h (by simpa using q)
     simp only
     omega
theorem dX.step {D : Dk} {mx : bf} (h : dX R D mx) : dX R (bE D).2 mx := by
 obtain ⟨h1, h2⟩ := eT D
 exact ⟨by rw [h1]; exact h.di, by rw [h1]; exact h.ok, by rw [h2]; exact h.room, sw h.left, by rw [h1, h2]; exact h.used⟩
theorem dX.app {N : an} {D : Dk} {mx : bf} (h : dX R D mx) : dX (N ++ R) D mx := ⟨h.di.app, h.ok, h.room, h.left, h.used⟩
theorem pk : ∀ fs, used (dg fs) = used fs
 | [] => rfl
 | e :: l => by
  have := pk l
  unfold dg at this ⊢
  simp only [List.map_cons, used, this]
  rfl
theorem dX.cX {D : Dk} {mx : bf} (h : dX R D mx) : dX R { D with fs := dg D.fs } mx.cX := ⟨h.di.cX, (fun e he => by
  obtain ⟨e', he', rfl⟩ := List.mem_map.1 he
  obtain ⟨h1, h2, h3, h4⟩ := h.ok e' he'
  exact ⟨h1, h2, Int.natCast_nonneg _, Int.le_refl _⟩), h.room, h.left, by simp only [pk]; exact h.used⟩
theorem lQ : ∀ (fs : List (Int × Fi)) (k : Int), ((aI fs k).bs.length : Int) ≤ used fs
 | [], k => Int.le_refl _
 | e :: l, k => by
  have h1 := lQ l k
  have h2 := pR l
  unfold aI at h1 ⊢
  obtain ⟨n, f⟩ := e
  simp only [bI, used]
  split
  · simp only [Option.getD_some]; omega
  · omega
theorem l7 : ∀ (fs : List (Int × Fi)) (k : Int) (f : Fi), used (eN k f fs) = used fs - (aI fs k).bs.length + f.bs.length
 | [], k, f => by
  show (f.bs.length : Int) + 0 = 0 - (0 : Nat) + f.bs.length
  omega
 | (n, v) :: l, k, f => by
  have h1 := l7 l k f
  unfold aI at h1 ⊢
  simp only [eN, bI]
  by_cases q : k = n
  · rw [if_pos q, if_pos q]
    simp only [used, Option.getD_some]
    omega
  · rw [if_neg q, if_neg q]
    simp only [used]
    omega
theorem wK {fs : List (Int × Fi)} {k : Int} {f : Fi} : aI (eN k f fs) k = f := by
 unfold aI
 induction fs with
 | nil => simp [eN, bI]
 | cons e l ih =>
  obtain ⟨n, v⟩ := e
  simp only [eN]
  by_cases q : k = n
  · rw [if_pos q]; simp [bI]
  · rw [if_neg q]; simp only [bI]; rw [if_neg q]; exact ih
theorem rj : ∀ (fs : List (Int × Fi)) (k : Int), used (jR k fs) = used fs - (aI fs k).bs.length
 | [], k => rfl
 | (n, v) :: l, k => by
  have h1 := rj l k
  unfold aI at h1 ⊢
  simp only [jR, bI]
  by_cases q : k = n
  · rw [if_pos q, if_pos q]
    simp only [used, Option.getD_some]
    omega
  · rw [if_neg q, if_neg q]
    simp only [used]
    omega
theorem uM (fs : List (Int × Fi)) (k : Int) (f : Fi) : used (gR fs k f) = used fs - (aI fs k).bs.length + f.bs.length := by
 unfold gR
 split
 · rename_i q
   rw [rj, l7, wK, q]
   simp
 · exact l7 fs k f
theorem dX.nj {D : Dk} {mx : bf} (h : dX R D mx) (k : Int) : (aI D.fs k).bs.length ≤ 16777216 := by
 have h1 := lQ D.fs k
 have h2 := h.used
 have h3 := h.room
 omega
theorem j7 {α : Type} {k : Int} {u : α} : ∀ {m : List (Int × α)} {e : Int × α}, e ∈ eN k u m → e = (k, u) ∨ e ∈ m
 | [], e, h => by simp [eN] at h; exact .inl h
 | (n, v) :: m, e, h => by
  simp only [eN] at h
  split at h
  · rcases List.mem_cons.1 h with h | h
    · exact .inl h
    · exact .inr (List.mem_cons_of_mem _ h)
  · rcases List.mem_cons.1 h with h | h
    · exact .inr (h ▸ List.mem_cons_self ..)
    · exact (j7 h).imp id (List.mem_cons_of_mem _)
theorem sM {α : Type} {k : Int} : ∀ {m : List (Int × α)} {e : Int × α}, (m.map (·.1)).Nodup → e ∈ jR k m → e.1 ≠ k ∧ e ∈ m
 | [], e, _, h => by simp [jR] at h
 | (n, v) :: m, e, hn, h => by
  simp only [List.map_cons, List.nodup_cons] at hn
  simp only [jR] at h
  split at h
  · rename_i q
    subst q
    exact ⟨fun q => hn.1 (List.mem_map.2 ⟨e, h, q⟩), List.mem_cons_of_mem _ h⟩
  · rename_i q
    rcases List.mem_cons.1 h with rfl | h
    · exact ⟨fun e => q e.symm, List.mem_cons_self ..⟩
    · exact (sM hn.2 h).imp id (List.mem_cons_of_mem _)
theorem fN {α : Type} {k : Int} {u : α} : ∀ {m : List (Int × α)}, bI k m = some u → (k, u) ∈ m
 | [], h => by simp [bI] at h
 | (n, v) :: m, h => by
  simp only [bI] at h
  split at h
  · rename_i q; injection h with h; subst q h; exact List.mem_cons_self ..
  · exact List.mem_cons_of_mem _ (fN h)
theorem dX.kW {D : Dk} {mx : bf} (h : dX R D mx) (k : Int) : 0 ≤ (aI D.fs k).d ∧ (aI D.fs k).d ≤ (aI D.fs k).bs.length := by
 unfold aI
 cases hg : bI k D.fs with
 | none => exact ⟨Int.le_refl _, Int.le_refl _⟩
 | some f =>
  obtain ⟨_, _, h3⟩ := h.ok _ (fN hg)
  exact h3
theorem dX.set {D : Dk} {mx : bf} (h : dX R D mx) (k : Int) {v : Value} {f : Fi} (hv : eA R v f) (hk : 0 ≤ k ∧ k < 64) (hd : 0 ≤ f.d ∧ f.d ≤ f.bs.length) (hu : Eng.used D.fs - (aI D.fs k).bs.length + f.bs.length ≤ D.room) : dX R { D with fs := gR D.fs k f } (iu mx k v f.bs.length) :=
 ⟨h.di.set k hv, (fun e he => by
  unfold gR at he
  split at he
  · obtain ⟨h1, h2⟩ := sM (jj h.di.nd) he
    rcases j7 h2 with h2 | h2
    · exact absurd (by rw [h2]) h1
    · exact h.ok e h2
  · rename_i q
    rcases j7 he with h2 | h2
    · rw [h2]; exact ⟨hk, q, hd⟩
    · exact h.ok e h2), h.room, h.left, by simp only [uM]; exact hu⟩
theorem dX.lens {D : Dk} {mx : bf} (h : dX R D mx) : Eng.lens mx.es = Eng.used D.fs := h.di.rel.lens
theorem dX.files {D : Dk} {mx : bf} (h : dX R D mx) : ∀ e ∈ mx.es, iI e.2.2 := tV h.di.rel.file
theorem dX.keys {D : Dk} {mx : bf} (h : dX R D mx) : (mx.es.map (·.1)).Nodup := by rw [me, h.di.rel.keys]; exact h.di.nd
end Go.Proofs.YthekokdpplobhaaGreat.Eng
namespace Go.Proofs.YthekokdpplobhaaGreat.Eng
theorem mB (O : an) (n : Int) : Spec Tryz.prog false 39 #[I n] O fun v O' => v = .bool (decide (0 ≤ n ∧ n < 64)) ∧ O' = O := by
 refine Spec.enter (args := [_]) (m := 9) Tryz.func39 rfl rfl (by decide +kernel) fun h0 => ?_
 refine WX.seq (WX.region rfl (za rfl (zR rfl (zm rfl (zb rfl rfl rfl (zm rfl ?_))))))
 refine ae.split (d := 5) rfl (fun hg5 => ?_) (fun hg5 => ?_)
 · try simp only [aB] at hg5
   refine ae.move (Met.some rfl rfl rfl) rfl (ae.bin (Met.some rfl rfl rfl) rfl rfl rfl (ae.bD Met.none rfl rfl (za rfl (ae.nil (Fin.aa (WX.ret ?_))))))
   exact Fin.result (O' := O) (.inr rfl) rfl rfl au ⟨zd, rfl⟩
 · try simp only [aB] at hg5
   refine zs 2 5 rfl rfl rfl (zs 2 5 rfl rfl rfl (ae.bd Met.none rfl rfl (za rfl (ae.nil (Fin.aa (WX.ret ?_))))))
   exact Fin.result (O' := O) (.inr rfl) rfl rfl au ⟨zd, rfl⟩
theorem qm (R : an) (d bm : Nat) (D : Dk) (mx : bf) (hl : D.armed = true → 0 ≤ D.left ∧ D.left < 9223372036854775808) :
  Spec Tryz.prog false 45 #[Ptr d 0] (bu d bm D mx R) fun v O' => v = .bool (bE D).1 ∧ O' = bu d bm (bE D).2 mx R := by
 refine Spec.enter (args := [_]) (m := 31) Tryz.func45 rfl rfl (by decide +kernel) fun h0 => ?_
 refine WX.seq (WX.region rfl (za rfl (ae.nil (Fin.aa (WX.seq (WX.seq (WX.region rfl (zm rfl (zn rfl ?_)))))))))
 first | refine ae.fieldAddr Met.none rfl Tryz.underlying62 rfl dm rfl ?_ | refine ae.bQ Met.none rfl Tryz.underlying62 rfl dm ?_
 first | refine ae.ld Met.none rfl cV ?_ | refine ae.ba Met.none rfl cV ?_
 refine ae.not Met.none rfl (ae.nil (Fin.aa ?_))
 refine WX.cond rfl (fun hc0 => ?_) (fun hc0 => ?_)
 · try simp only [aB] at hc0
   refine WX.seq (WX.region rfl (za rfl (ae.nil (Fin.aa (WX.ret (Fin.az ?_))))))
   first
   | exact Fin.result (O' := bu d bm D mx R) (.inr rfl) rfl rfl au (by unfold bE; rw [if_pos (by simpa using hc0)]; exact ⟨rfl, rfl⟩)
   | exact Fin.result (O' := bu d bm { D with off := true, armed := false, left := D.left - 1 } mx R) (.inr rfl) rfl rfl au (by unfold bE; rw [if_neg (by rw [ha]; simp), if_pos (by omega)]; exact ⟨rfl, rfl⟩)
   | exact Fin.result (O' := bu d bm { D with left := D.left - 1 } mx R) (.inr rfl) rfl rfl au (by unfold bE; rw [if_neg (by rw [ha]; simp), if_neg (by omega)]; exact ⟨rfl, rfl⟩)
 · try simp only [aB] at hc0
   have ha : D.armed = true := by simpa using hc0
   have hl := hl ha
   refine WX.skip (Fin.aa (WX.seq (WX.region rfl (zm rfl (zn rfl ?_)))))
   first | refine ae.fieldAddr Met.none rfl Tryz.underlying62 rfl cj rfl ?_ | refine ae.bQ Met.none rfl Tryz.underlying62 rfl cj ?_
   first | refine ae.ld Met.none rfl bY ?_ | refine ae.ba Met.none rfl bY ?_
   refine zb rfl rfl nh (zn rfl ?_)
   first | refine ae.fieldAddr Met.none rfl Tryz.underlying62 rfl cj rfl ?_ | refine ae.bQ Met.none rfl Tryz.underlying62 rfl cj ?_
   refine ae.st (vs := [_]) (j := 0) Met.none rfl rfl rfl cj ?_ (hj := rfl)
   refine ae.nil (Fin.aa (WX.seq (WX.seq (WX.region rfl (zm rfl (zn rfl ?_))))))
   first | refine ae.fieldAddr Met.none rfl Tryz.underlying62 rfl cj rfl ?_ | refine ae.bQ Met.none rfl Tryz.underlying62 rfl cj ?_
   first | refine ae.ld Met.none rfl bY ?_ | refine ae.ba Met.none rfl bY ?_
   refine zb rfl rfl rfl (ae.nil (Fin.aa ?_))
   refine WX.cond rfl (fun hc1 => ?_) (fun hc1 => ?_)
   · try simp only [aB] at hc1
     refine WX.region rfl (zm rfl (zm rfl (zn rfl ?_)))
     first | refine ae.fieldAddr Met.none rfl Tryz.underlying62 rfl dm rfl ?_ | refine ae.bQ Met.none rfl Tryz.underlying62 rfl dm ?_
     refine ae.st (vs := [_]) (j := 0) Met.none rfl rfl rfl dm ?_ (hj := rfl)
     refine zn rfl ?_
     first | refine ae.fieldAddr Met.none rfl Tryz.underlying62 rfl dm rfl ?_ | refine ae.bQ Met.none rfl Tryz.underlying62 rfl dm ?_
     refine ae.st (vs := [_]) (j := 0) Met.none rfl rfl rfl dm ?_ (hj := rfl)
     refine zR rfl (zm rfl (zn rfl ?_))
     first | refine ae.fieldAddr Met.none rfl Tryz.underlying62 rfl dm rfl ?_ | refine ae.bQ Met.none rfl Tryz.underlying62 rfl dm ?_
     first | refine ae.ld Met.none rfl cV ?_ | refine ae.ba Met.none rfl cV ?_
     refine ae.not Met.none rfl (za rfl (ae.nil (Fin.aa (WX.ret ?_))))
     first
     | exact Fin.result (O' := bu d bm D mx R) (.inr rfl) rfl rfl au (by unfold bE; rw [if_pos (by simpa using hc0)]; exact ⟨rfl, rfl⟩)
     | exact Fin.result (O' := bu d bm { D with off := true, armed := false, left := D.left - 1 } mx R) (.inr rfl) rfl rfl au (by unfold bE; rw [if_neg (by rw [ha]; simp), if_pos (by omega)]; exact ⟨rfl, rfl⟩)
     | exact Fin.result (O' := bu d bm { D with left := D.left - 1 } mx R) (.inr rfl) rfl rfl au (by unfold bE; rw [if_neg (by rw [ha]; simp), if_neg (by omega)]; exact ⟨rfl, rfl⟩)
   · try simp only [aB] at hc1
     refine WX.skip (Fin.aa (WX.seq (WX.region rfl (zm rfl (zn rfl ?_)))))
     first | refine ae.fieldAddr Met.none rfl Tryz.underlying62 rfl dm rfl ?_ | refine ae.bQ Met.none rfl Tryz.underlying62 rfl dm ?_
     first | refine ae.ld Met.none rfl cV ?_ | refine ae.ba Met.none rfl cV ?_
     refine ae.not Met.none rfl (za rfl (ae.nil (Fin.aa (WX.ret ?_))))
     first
     | exact Fin.result (O' := bu d bm D mx R) (.inr rfl) rfl rfl au (by unfold bE; rw [if_pos (by simpa using hc0)]; exact ⟨rfl, rfl⟩)
     | exact Fin.result (O' := bu d bm { D with off := true, armed := false, left := D.left - 1 } mx R) (.inr rfl) rfl rfl au (by unfold bE; rw [if_neg (by rw [ha]; simp), if_pos (by omega)]; exact ⟨rfl, rfl⟩)
     | exact Fin.result (O' := bu d bm { D with left := D.left - 1 } mx R) (.inr rfl) rfl rfl au (by unfold bE; rw [if_neg (by rw [ha]; simp), if_neg (by omega)]; exact ⟨rfl, rfl⟩)
theorem pX (R : an) (d bm : Nat) (D : Dk) (mx : bf) (n : Int) (a : Option Addr) (m c : Nat) (t : Int) :
  Spec Tryz.prog false 31 #[Ptr d 0, I n, cJ a m c t] (bu d bm D mx R) fun v O' => O' = bu d bm D (iu mx n (cJ a m c t) m) R := by
 refine Spec.enter (args := [_, _, _]) (m := 21) Tryz.func31 rfl rfl (by decide +kernel) fun h0 => ?_
 refine WX.seq (WX.region rfl ?_)
 refine ae.box (c := [_, _]) Met.none rfl rfl rfl (fun b5 => ?_)
 refine ae.nil (Fin.aa (WX.seq ?_))
 refine WX.draw rfl ?_
 refine zm rfl (zn rfl ?_)
 first | refine ae.fieldAddr Met.none rfl Tryz.underlying62 rfl iV rfl ?_ | refine ae.bQ Met.none rfl Tryz.underlying62 rfl iV ?_
 first | refine ae.ld Met.none rfl fB ?_ | refine ae.ba Met.none rfl fB ?_
 refine zm rfl ?_
 refine ae.yR (vs := [_, _]) Met.none rfl sY pN ?_
 refine ae.mapUpdate (j := 2) Met.none rfl rfl rfl lu ?_ (hj := rfl)
 refine zR rfl ?_
 refine ae.fieldAddr (off' := 0) Met.none rfl Tryz.underlying66 rfl aO rfl ?_
 first | refine ae.ld Met.none rfl aD ?_ | refine ae.ba Met.none rfl aD ?_
 refine ae.len Met.none rfl Tryz.underlying39 (zb rfl rfl rfl (ae.nil (Fin.aa ?_)))
 refine WX.cond rfl (fun hc0 => ?_) (fun hc0 => ?_)
 · try simp only [aB] at hc0
   refine WX.region rfl (zm rfl (zn rfl ?_))
   first | refine ae.fieldAddr Met.none rfl Tryz.underlying62 rfl iV rfl ?_ | refine ae.bQ Met.none rfl Tryz.underlying62 rfl iV ?_
   first | refine ae.ld Met.none rfl fB ?_ | refine ae.ba Met.none rfl fB ?_
   refine zm rfl ?_
   refine ae.delete (j := 2) Met.none rfl rfl lu ?_ (hj := rfl)
   refine ae.nil ?_
   first
   | exact Fin.result (O' := bu d bm D ((mx.put n (cJ a m c t)).del n) R) (.inl rfl) rfl rfl au (by unfold iu; rw [if_pos (by omega)])
   | exact Fin.result (O' := bu d bm D (mx.put n (cJ a m c t)) R) (.inl rfl) rfl rfl au (by unfold iu; rw [if_neg (by omega)])
 · try simp only [aB] at hc0
   refine WX.skip ?_
   first
   | exact Fin.result (O' := bu d bm D ((mx.put n (cJ a m c t)).del n) R) (.inl rfl) rfl rfl au (by unfold iu; rw [if_pos (by omega)])
   | exact Fin.result (O' := bu d bm D (mx.put n (cJ a m c t)) R) (.inl rfl) rfl rfl au (by unfold iu; rw [if_neg (by omega)])
theorem sc (O : an) (room : Int) : Spec Tryz.prog false 22 #[I room] O fun v O' =>
  (0 ≤ room ∧ room ≤ 16777216 ∧ ∃ d bm, v = .tuple #[Ptr d 0, I 0] ∧ O' = bu d bm ⟨room, false, false, 0, []⟩ .new O) ∨ (¬ (0 ≤ room ∧ room ≤ 16777216) ∧ v = .tuple #[.pointer none, I 1] ∧ O' = O) := by
 refine Spec.enter (args := [_]) (m := 14) Tryz.func22 rfl rfl (by decide +kernel) fun h0 => ?_
 refine WX.seq (WX.region rfl (za rfl (za rfl (ae.nil (Fin.aa (WX.seq (WX.seq (WX.region rfl (zm rfl (zb rfl rfl rfl (zm rfl ?_)))))))))))
 refine ae.split (d := 6) rfl (fun hg6 => ?_) (fun hg6 => ?_)
 · try simp only [aB] at hg6
   refine zs 2 6 rfl rfl rfl (zs 2 6 rfl rfl rfl (ae.bD Met.none rfl rfl (ae.nil (Fin.aa ?_))))
   refine WX.cond rfl (fun hc0 => ?_) (fun hc0 => nomatch hc0)
   refine WX.seq (WX.region rfl (za rfl (za rfl (ae.nil (Fin.aa (WX.ret (Fin.az ?_)))))))
   first
   | exact Fin.result (O' := O) (.inr rfl) rfl rfl au (.inr ⟨by omega, rfl, rfl⟩)
   | exact Fin.result (O' := bu b13 b10 ⟨room, false, false, 0, []⟩ .new O) (.inr rfl) rfl rfl au (.inl ⟨by omega, by omega, _, _, rfl, rfl⟩)
 · try simp only [aB] at hg6
   refine ae.move (Met.some rfl rfl rfl) rfl (ae.bin (Met.some rfl rfl rfl) rfl rfl rfl (ae.bd Met.none rfl rfl (ae.nil (Fin.aa ?_))))
   refine WX.cond rfl (fun hc0 => ?_) (fun hc0 => ?_)
   · try simp only [aB] at hc0
     refine WX.seq (WX.region rfl (za rfl (za rfl (ae.nil (Fin.aa (WX.ret (Fin.az ?_)))))))
     first
     | exact Fin.result (O' := O) (.inr rfl) rfl rfl au (.inr ⟨by omega, rfl, rfl⟩)
     | exact Fin.result (O' := bu b13 b10 ⟨room, false, false, 0, []⟩ .new O) (.inr rfl) rfl rfl au (.inl ⟨by omega, by omega, _, _, rfl, rfl⟩)
   · try simp only [aB] at hc0
     refine WX.skip (Fin.aa (WX.seq (WX.region rfl ?_)))
     refine ae.makeMap Met.none (fun b10 => ?_)
     refine zm rfl ?_
     refine ae.build (c := [_, _, _, _, _]) Met.none rfl yg wa rfl ?_
     refine ae.box (c := [_, _, _, _, _]) Met.none rfl rfl rfl (fun b13 => ?_)
     refine za rfl (za rfl (ae.nil (Fin.aa (WX.ret ?_))))
     first
     | exact Fin.result (O' := O) (.inr rfl) rfl rfl au (.inr ⟨by omega, rfl, rfl⟩)
     | exact Fin.result (O' := bu b13 b10 ⟨room, false, false, 0, []⟩ .new O) (.inr rfl) rfl rfl au (.inl ⟨by omega, by omega, _, _, rfl, rfl⟩)
theorem fG (R : an) {R0 : an} (d bm : Nat) (D : Dk) (mx : bf) (n : Int) (hD : dX R0 D mx) (hi : ∀ g, Sat g R → Sat g R0) :
  Spec Tryz.prog false 19 #[Ptr d 0, I n] (bu d bm D mx R) fun v O' => ∃ a c G, v = .tuple #[.slice a (cK D n).1.length c, I (cK D n).2] ∧ Grow 1 a (cK D n).1.length c ((cK D n).1.map B8) G ∧ O' = bu d bm D mx (G ++ R) := by
 obtain ⟨fa, fc, hfv, hrow0, hnil, hB⟩ := hD.di.get n
 have hrow := hrow0.inc hi
 have hlen := hD.nj n
 refine Spec.enter (args := [_, _]) (m := 23) Tryz.func19 rfl rfl (by decide +kernel) fun h0 => ?_
 refine WX.seq (WX.region rfl (za rfl (za rfl (ae.nil (Fin.aa (WX.seq (WX.block (WX.seq (WX.region rfl (zm rfl ?_))))))))))
 refine ae.cl (O1 := _) Met.none rfl (ah Tryz.func39 (by decide +kernel)) rfl (fun _ h => h) (mB _ n) (fun v O' hp => ?_)
 obtain ⟨rfl, hO⟩ := hp
 subst O'
 refine ae.not Met.none rfl (za rfl (ae.nil (Fin.aa ?_)))
 refine WX.cond rfl (fun hc0 => ?_) (fun hc0 => ?_)
 · try simp only [aB] at hc0
   refine WX.seq (WX.region rfl (za rfl (za rfl (ae.nil (Fin.aa (WX.ret (Fin.bq (Fin.az ?_))))))))
   first
   | exact Fin.result (O' := bu d bm D mx ([] ++ R)) (.inr rfl) rfl rfl au (by unfold cK; rw [if_pos (by omega)]; exact ⟨none, 0, [], rfl, .nil, rfl⟩)
   | exact Fin.result (O' := bu d bm D mx ([] ++ R)) (.inr rfl) rfl rfl au (by unfold cK; rw [if_neg (by omega), if_pos (by assumption)]; exact ⟨none, 0, [], rfl, .nil, rfl⟩)
   | exact Fin.result (O' := bu d bm D mx (G7 ++ R)) (.inr rfl) rfl rfl aC (by unfold cK; rw [if_neg (by omega), if_neg (by simp [hc1])]; exact ⟨a7, c7, G7, rfl, hG7, rfl⟩)
 · try simp only [aB] at hc0
   refine WX.seq (WX.region rfl (zm rfl (zn rfl ?_)))
   first | refine ae.fieldAddr Met.none rfl Tryz.underlying62 rfl dm rfl ?_ | refine ae.bQ Met.none rfl Tryz.underlying62 rfl dm ?_
   first | refine ae.ld Met.none rfl cV ?_ | refine ae.ba Met.none rfl cV ?_
   refine za rfl (ae.nil (Fin.aa ?_))
   refine WX.cond rfl (fun hc1 => ?_) (fun hc1 => ?_)
   · try simp only [aB] at hc1
     refine WX.seq (WX.region rfl (za rfl (za rfl (ae.nil (Fin.aa (WX.ret (Fin.bq (Fin.az ?_))))))))
     first
     | exact Fin.result (O' := bu d bm D mx ([] ++ R)) (.inr rfl) rfl rfl au (by unfold cK; rw [if_pos (by omega)]; exact ⟨none, 0, [], rfl, .nil, rfl⟩)
     | exact Fin.result (O' := bu d bm D mx ([] ++ R)) (.inr rfl) rfl rfl au (by unfold cK; rw [if_neg (by omega), if_pos (by assumption)]; exact ⟨none, 0, [], rfl, .nil, rfl⟩)
     | exact Fin.result (O' := bu d bm D mx (G7 ++ R)) (.inr rfl) rfl rfl aC (by unfold cK; rw [if_neg (by omega), if_neg (by simp [hc1])]; exact ⟨a7, c7, G7, rfl, hG7, rfl⟩)
   · try simp only [aB] at hc1
     refine WX.skip (Fin.ag (Fin.aa (WX.seq (WX.region rfl (zm rfl (zn rfl ?_))))))
     first | refine ae.fieldAddr Met.none rfl Tryz.underlying62 rfl iV rfl ?_ | refine ae.bQ Met.none rfl Tryz.underlying62 rfl iV ?_
     first | refine ae.ld Met.none rfl fB ?_ | refine ae.ba Met.none rfl fB ?_
     refine zm rfl ?_
     refine ae.lookup Met.none rfl rfl lu ik at_ (show _ = cJ fa (aI D.fs n).bs.length fc (aI D.fs n).d from hfv) ?_
     refine ae.xW Met.none rfl Tryz.underlying66 rfl (yx aD rfl) ?_
     refine ae.cl (O1 := _) Met.none rfl (ah Tryz.func30 (by decide +kernel)) rfl (fun _ h => h) (iY _ (aI D.fs n).bs fa fc (by omega) (fun q => by
     have := hrow.eh q
     exact List.length_eq_zero_iff.1 this) (Src.cons (Src.cons (hrow.src hnil)))) (fun v O' hp => ?_)
     obtain ⟨a7, c7, G7, rfl, hG7, rfl⟩ := hp
     refine za rfl (za rfl (ae.nil (Fin.aa (WX.ret ?_))))
     first
     | exact Fin.result (O' := bu d bm D mx ([] ++ R)) (.inr rfl) rfl rfl au (by unfold cK; rw [if_pos (by omega)]; exact ⟨none, 0, [], rfl, .nil, rfl⟩)
     | exact Fin.result (O' := bu d bm D mx ([] ++ R)) (.inr rfl) rfl rfl au (by unfold cK; rw [if_neg (by omega), if_pos (by assumption)]; exact ⟨none, 0, [], rfl, .nil, rfl⟩)
     | exact Fin.result (O' := bu d bm D mx (G7 ++ R)) (.inr rfl) rfl rfl aC (by unfold cK; rw [if_neg (by omega), if_neg (by simp [hc1])]; exact ⟨a7, c7, G7, rfl, hG7, rfl⟩)
theorem xi (q : Bool) (R : an) {R0 : an} (d bm : Nat) (D : Dk) (mx : bf) (hD : dX R0 D mx) :
  Spec Tryz.prog q 50 #[Ptr d 0] (bu d bm D mx R) fun v O' => v = I (used D.fs) ∧ O' = bu d bm D mx R :=
 Spec.direct fun g hs => ⟨_, g, _, qv (ro1 := false) (ro2 := false) (bm := bm) (mx := mx) (hs.at (j := 0) rfl) (hs.at (j := 1) rfl) hD.files (by
  have h1 := hD.lens
  have h2 := hD.used
  have h3 := hD.room
  omega), ⟨by rw [hD.lens], rfl⟩, hs, fun _ => Old.refl g⟩
theorem kH (R : an) {R0 : an} (d bm : Nat) (D : Dk) (mx : bf) (hD : dX R0 D mx) :
  Spec Tryz.prog false 32 #[Ptr d 0] (bu d bm D mx R) fun v O' => v = .tuple #[] ∧ O' = bu d bm { D with fs := dg D.fs } mx.cX R :=
 Spec.direct fun g hs => by
  obtain ⟨f, k, h2⟩ := hs.at (j := 1) (b := bm) (x := ⟨2, false, bW mx⟩) rfl
  exact ⟨_, _, bu d bm { D with fs := dg D.fs } mx.cX R, oQ (ro1 := false) (bm := bm) (mx := mx) (hs.at (j := 0) rfl) h2 hD.files hD.keys, ⟨rfl, rfl⟩, hs.set (j := 1) rfl h2, fun q => by cases q⟩
theorem ml (R : an) {R0 : an} (d bm : Nat) (D : Dk) (mx : bf) (hD : dX R0 D mx) :
  Spec Tryz.prog false 25 #[Ptr d 0] (bu d bm D mx R) fun v O' => ∃ mx', v = I (bT D).1 ∧ O' = bu d bm (bT D).2 mx' R ∧ dX R0 (bT D).2 mx' := by
 refine Spec.enter (args := [_]) (m := 14) Tryz.func25 rfl rfl (by decide +kernel) fun h0 => ?_
 refine WX.seq (WX.region rfl (za rfl (ae.nil (Fin.aa (WX.seq (WX.seq (WX.region rfl (zm rfl (zn rfl ?_)))))))))
 first | refine ae.fieldAddr Met.none rfl Tryz.underlying62 rfl dm rfl ?_ | refine ae.bQ Met.none rfl Tryz.underlying62 rfl dm ?_
 first | refine ae.ld Met.none rfl cV ?_ | refine ae.ba Met.none rfl cV ?_
 refine zm rfl ?_
 refine ae.split (d := 7) rfl (fun hg7 => ?_) (fun hg7 => ?_)
 · try simp only [aB] at hg7
   refine zs 4 7 rfl rfl rfl (zs 4 7 rfl rfl rfl (zs 4 7 rfl rfl rfl (ae.bD Met.none rfl rfl (ae.nil (Fin.aa ?_)))))
   refine WX.cond rfl (fun hc0 => ?_) (fun hc0 => nomatch hc0)
   refine WX.seq (WX.region rfl (za rfl (ae.nil (Fin.aa (WX.ret (Fin.az ?_))))))
   first
   | exact Fin.result (O' := bu d bm D mx R) (.inr rfl) rfl rfl au (by unfold bT; rw [if_pos (by assumption)]; exact ⟨mx, rfl, rfl, hD⟩)
   | exact Fin.result (O' := bu d bm (bE D).2 mx R) (.inr rfl) rfl rfl au (by unfold bT; rw [if_neg (by simp [hg7]), if_pos (by simpa using hc0)]; exact ⟨mx, rfl, rfl, hD.step⟩)
   | exact Fin.result (O' := bu d bm { (bE D).2 with fs := dg (bE D).2.fs } mx.cX R) (.inr rfl) rfl rfl au (by unfold bT; rw [if_neg (by simp [hg7]), if_neg (by simpa using hc0)]; exact ⟨mx.cX, rfl, rfl, hD.step.cX⟩)
 · try simp only [aB] at hg7
   refine ae.move (Met.some rfl rfl rfl) rfl ?_
   refine ae.cl (O1 := _) (Met.some rfl rfl rfl) rfl (ah Tryz.func45 (by decide +kernel)) rfl (fun _ h => h) (qm R d bm D mx hD.left) (fun v O' hp => ?_)
   obtain ⟨rfl, hO⟩ := hp
   subst O'
   refine ae.not (Met.some rfl rfl rfl) rfl (ae.bd Met.none rfl rfl (ae.nil (Fin.aa ?_)))
   refine WX.cond rfl (fun hc0 => ?_) (fun hc0 => ?_)
   · try simp only [aB] at hc0
     refine WX.seq (WX.region rfl (za rfl (ae.nil (Fin.aa (WX.ret (Fin.az ?_))))))
     first
     | exact Fin.result (O' := bu d bm D mx R) (.inr rfl) rfl rfl au (by unfold bT; rw [if_pos (by assumption)]; exact ⟨mx, rfl, rfl, hD⟩)
     | exact Fin.result (O' := bu d bm (bE D).2 mx R) (.inr rfl) rfl rfl au (by unfold bT; rw [if_neg (by simp [hg7]), if_pos (by simpa using hc0)]; exact ⟨mx, rfl, rfl, hD.step⟩)
     | exact Fin.result (O' := bu d bm { (bE D).2 with fs := dg (bE D).2.fs } mx.cX R) (.inr rfl) rfl rfl au (by unfold bT; rw [if_neg (by simp [hg7]), if_neg (by simpa using hc0)]; exact ⟨mx.cX, rfl, rfl, hD.step.cX⟩)
   · try simp only [aB] at hc0
     refine WX.skip (Fin.aa (WX.seq (WX.region rfl (zm rfl ?_))))
     refine ae.cl (O1 := _) Met.none rfl (ah Tryz.func32 (by decide +kernel)) rfl (fun _ h => h) (kH R d bm (bE D).2 mx hD.step) (fun v O' hp => ?_)
     obtain ⟨rfl, hO⟩ := hp
     subst O'
     refine zR rfl (za rfl (ae.nil (Fin.aa (WX.ret ?_))))
     first
     | exact Fin.result (O' := bu d bm D mx R) (.inr rfl) rfl rfl au (by unfold bT; rw [if_pos (by assumption)]; exact ⟨mx, rfl, rfl, hD⟩)
     | exact Fin.result (O' := bu d bm (bE D).2 mx R) (.inr rfl) rfl rfl au (by unfold bT; rw [if_neg (by simp [hg7]), if_pos (by simpa using hc0)]; exact ⟨mx, rfl, rfl, hD.step⟩)
     | exact Fin.result (O' := bu d bm { (bE D).2 with fs := dg (bE D).2.fs } mx.cX R) (.inr rfl) rfl rfl au (by unfold bT; rw [if_neg (by simp [hg7]), if_neg (by simpa using hc0)]; exact ⟨mx.cX, rfl, rfl, hD.step.cX⟩)
theorem vy (R : an) {R0 : an} (d bm : Nat) (D : Dk) (mx : bf) (n size : Int) (hD : dX R0 D mx) (hi : ∀ g, Sat g R → Sat g R0) :
  Spec Tryz.prog false 24 #[Ptr d 0, I n, I size] (bu d bm D mx R) fun v O' => ∃ mx', v = I (cA D n size).1 ∧ O' = bu d bm (cA D n size).2 mx' R ∧ dX R0 (cA D n size).2 mx' := by
 obtain ⟨fa, fc, hfv, hrow0, hnil, hB⟩ := hD.di.get n
 have hrow := hrow0.inc hi
 have hlen := hD.nj n
 refine Spec.enter (args := [_, _, _]) (m := 49) Tryz.func24 rfl rfl (by decide +kernel) fun h0 => ?_
 refine WX.seq (WX.region rfl (za rfl (zR rfl (zm rfl (zn rfl ?_)))))
 first | refine ae.fieldAddr Met.none rfl Tryz.underlying62 rfl iV rfl ?_ | refine ae.bQ Met.none rfl Tryz.underlying62 rfl iV ?_
 first | refine ae.ld Met.none rfl fB ?_ | refine ae.ba Met.none rfl fB ?_
 refine zm rfl ?_
 refine ae.lookup Met.none rfl rfl lu ik at_ (show _ = cJ fa (aI D.fs n).bs.length fc (aI D.fs n).d from hfv) ?_
 refine ae.alloc (c := [_, _]) Met.none ik rfl (fun b7 => ?_)
 refine ae.st (vs := [_, _]) (c' := [_, _]) (j := 0) Met.none rfl rfl rfl pN ?_ (hj := rfl)
 refine ae.nil (Fin.aa (WX.seq (WX.seq (WX.region rfl (zm rfl ?_)))))
 refine ae.cl (O1 := _) Met.none rfl (ah Tryz.func39 (by decide +kernel)) rfl (fun _ h => h) (mB _ n) (fun v O' hp => ?_)
 obtain ⟨rfl, hO⟩ := hp
 subst O'
 refine ae.not Met.none rfl (zm rfl ?_)
 refine ae.split (d := 17) rfl (fun hg17 => ?_) (fun hg17 => ?_)
 · try simp only [aB] at hg17
   refine zs 3 17 rfl rfl rfl (zs 3 17 rfl rfl rfl (ae.bD Met.none rfl rfl (zm rfl (zs 7 21 rfl rfl rfl (zs 7 21 rfl rfl rfl (zs 7 21 rfl rfl rfl (zs 7 21 rfl rfl rfl (zs 7 21 rfl rfl rfl (ae.bD Met.none rfl rfl (ae.nil (Fin.aa ?_)))))))))))
   refine WX.cond rfl (fun hc0 => ?_) (fun hc0 => nomatch hc0)
   refine WX.seq (WX.region rfl (za rfl (ae.nil (Fin.aa (WX.ret (Fin.az ?_))))))
   first
   | exact Fin.result (O' := bu d bm D mx R) (.inr rfl) rfl rfl au (by unfold cA; rw [if_pos (by omega)]; exact ⟨mx, rfl, rfl, hD⟩)
   | exact Fin.result (O' := bu d bm D mx R) (.inr rfl) rfl rfl au (by unfold cA; rw [if_neg (by omega), if_pos (by assumption)]; exact ⟨mx, rfl, rfl, hD⟩)
   | exact Fin.result (O' := bu d bm (bE D).2 mx R) (.inr rfl) rfl rfl aC (by unfold cA; rw [if_neg (by omega), if_neg (by simp [hg32]), if_pos (by simpa using hc1)]; exact ⟨mx, rfl, rfl, hD.step⟩)
   | exact Fin.result (O' := bu d bm { (bE D).2 with fs := gR D.fs n ⟨(aI D.fs n).bs.take k, min (aI D.fs n).d k⟩ } (iu mx n (cJ fa k k (min (aI D.fs n).d k)) k) R) (.inr rfl) rfl rfl au (by
     unfold cA
     rw [if_neg (by omega), if_neg (by simp [hg32]), if_neg (by simpa using hc1)]
     have hk : k ≤ (aI D.fs n).bs.length := by omega
     have hlk : ((aI D.fs n).bs.take k).length = k := by rw [List.length_take, Nat.min_eq_left hk]
     have hpre := hrow0.pre hk
     rw [Nat.mul_one, ← List.map_take] at hpre
     have hf : eA R0 (cJ fa k k (min (aI D.fs n).d k)) ⟨(aI D.fs n).bs.take k, min (aI D.fs n).d k⟩ := ⟨fa, k, by rw [hlk], by rw [hlk]; exact hpre, hpre.eh, fun x hx => hB x (List.mem_of_mem_take hx)⟩
     obtain ⟨h1, h2⟩ := eT D
     have hgd := hD.kW n
     have hs := hD.step.set n hf (by omega) ⟨by simp only; omega, by rw [hlk]; simp only; omega⟩ (by
      have := hD.used
      rw [h1, h2, hlk]
      omega)
     rw [hlk, h1] at hs
     exact ⟨_, rfl, rfl, hs⟩)
 · try simp only [aB] at hg17
   refine ae.move (Met.some rfl rfl rfl) rfl (ae.bin (Met.some rfl rfl rfl) rfl rfl rfl (ae.bd Met.none rfl rfl (zm rfl ?_)))
   refine ae.split (d := 21) rfl (fun hg21 => ?_) (fun hg21 => ?_)
   · try simp only [aB] at hg21
     refine zs 7 21 rfl rfl rfl (zs 7 21 rfl rfl rfl (zs 7 21 rfl rfl rfl (zs 7 21 rfl rfl rfl (zs 7 21 rfl rfl rfl (ae.bD Met.none rfl rfl (ae.nil (Fin.aa ?_)))))))
     refine WX.cond rfl (fun hc0 => ?_) (fun hc0 => nomatch hc0)
     refine WX.seq (WX.region rfl (za rfl (ae.nil (Fin.aa (WX.ret (Fin.az ?_))))))
     first
     | exact Fin.result (O' := bu d bm D mx R) (.inr rfl) rfl rfl au (by unfold cA; rw [if_pos (by omega)]; exact ⟨mx, rfl, rfl, hD⟩)
     | exact Fin.result (O' := bu d bm D mx R) (.inr rfl) rfl rfl au (by unfold cA; rw [if_neg (by omega), if_pos (by assumption)]; exact ⟨mx, rfl, rfl, hD⟩)
     | exact Fin.result (O' := bu d bm (bE D).2 mx R) (.inr rfl) rfl rfl aC (by unfold cA; rw [if_neg (by omega), if_neg (by simp [hg32]), if_pos (by simpa using hc1)]; exact ⟨mx, rfl, rfl, hD.step⟩)
     | exact Fin.result (O' := bu d bm { (bE D).2 with fs := gR D.fs n ⟨(aI D.fs n).bs.take k, min (aI D.fs n).d k⟩ } (iu mx n (cJ fa k k (min (aI D.fs n).d k)) k) R) (.inr rfl) rfl rfl au (by
       unfold cA
       rw [if_neg (by omega), if_neg (by simp [hg32]), if_neg (by simpa using hc1)]
       have hk : k ≤ (aI D.fs n).bs.length := by omega
       have hlk : ((aI D.fs n).bs.take k).length = k := by rw [List.length_take, Nat.min_eq_left hk]
       have hpre := hrow0.pre hk
       rw [Nat.mul_one, ← List.map_take] at hpre
       have hf : eA R0 (cJ fa k k (min (aI D.fs n).d k)) ⟨(aI D.fs n).bs.take k, min (aI D.fs n).d k⟩ := ⟨fa, k, by rw [hlk], by rw [hlk]; exact hpre, hpre.eh, fun x hx => hB x (List.mem_of_mem_take hx)⟩
       obtain ⟨h1, h2⟩ := eT D
       have hgd := hD.kW n
       have hs := hD.step.set n hf (by omega) ⟨by simp only; omega, by rw [hlk]; simp only; omega⟩ (by
        have := hD.used
        rw [h1, h2, hlk]
        omega)
       rw [hlk, h1] at hs
       exact ⟨_, rfl, rfl, hs⟩)
   · try simp only [aB] at hg21
     refine ae.move (Met.some rfl rfl rfl) rfl ?_
     refine ae.fieldAddr (off' := 0) (Met.some rfl rfl rfl) rfl Tryz.underlying66 rfl aO rfl ?_
     first | refine ae.ld (Met.some rfl rfl rfl) rfl aD ?_ | refine ae.ba (Met.some rfl rfl rfl) rfl aD ?_
     refine ae.len (Met.some rfl rfl rfl) rfl Tryz.underlying39 (ae.bin (Met.some rfl rfl rfl) rfl rfl rfl (ae.bd Met.none rfl rfl (ae.nil (Fin.aa ?_))))
     refine WX.cond rfl (fun hc0 => ?_) (fun hc0 => ?_)
     · try simp only [aB] at hc0
       refine WX.seq (WX.region rfl (za rfl (ae.nil (Fin.aa (WX.ret (Fin.az ?_))))))
       first
       | exact Fin.result (O' := bu d bm D mx R) (.inr rfl) rfl rfl au (by unfold cA; rw [if_pos (by omega)]; exact ⟨mx, rfl, rfl, hD⟩)
       | exact Fin.result (O' := bu d bm D mx R) (.inr rfl) rfl rfl au (by unfold cA; rw [if_neg (by omega), if_pos (by assumption)]; exact ⟨mx, rfl, rfl, hD⟩)
       | exact Fin.result (O' := bu d bm (bE D).2 mx R) (.inr rfl) rfl rfl aC (by unfold cA; rw [if_neg (by omega), if_neg (by simp [hg32]), if_pos (by simpa using hc1)]; exact ⟨mx, rfl, rfl, hD.step⟩)
       | exact Fin.result (O' := bu d bm { (bE D).2 with fs := gR D.fs n ⟨(aI D.fs n).bs.take k, min (aI D.fs n).d k⟩ } (iu mx n (cJ fa k k (min (aI D.fs n).d k)) k) R) (.inr rfl) rfl rfl au (by
         unfold cA
         rw [if_neg (by omega), if_neg (by simp [hg32]), if_neg (by simpa using hc1)]
         have hk : k ≤ (aI D.fs n).bs.length := by omega
         have hlk : ((aI D.fs n).bs.take k).length = k := by rw [List.length_take, Nat.min_eq_left hk]
         have hpre := hrow0.pre hk
         rw [Nat.mul_one, ← List.map_take] at hpre
         have hf : eA R0 (cJ fa k k (min (aI D.fs n).d k)) ⟨(aI D.fs n).bs.take k, min (aI D.fs n).d k⟩ := ⟨fa, k, by rw [hlk], by rw [hlk]; exact hpre, hpre.eh, fun x hx => hB x (List.mem_of_mem_take hx)⟩
         obtain ⟨h1, h2⟩ := eT D
         have hgd := hD.kW n
         have hs := hD.step.set n hf (by omega) ⟨by simp only; omega, by rw [hlk]; simp only; omega⟩ (by
          have := hD.used
          rw [h1, h2, hlk]
          omega)
         rw [hlk, h1] at hs
         exact ⟨_, rfl, rfl, hs⟩)
     · try simp only [aB] at hc0
       refine WX.skip (Fin.aa (WX.seq (WX.seq (WX.region rfl (zm rfl (zn rfl ?_))))))
       first | refine ae.fieldAddr Met.none rfl Tryz.underlying62 rfl dm rfl ?_ | refine ae.bQ Met.none rfl Tryz.underlying62 rfl dm ?_
       first | refine ae.ld Met.none rfl cV ?_ | refine ae.ba Met.none rfl cV ?_
       refine zm rfl ?_
       refine ae.split (d := 32) rfl (fun hg32 => ?_) (fun hg32 => ?_)
       · try simp only [aB] at hg32
         refine zs 4 32 rfl rfl rfl (zs 4 32 rfl rfl rfl (zs 4 32 rfl rfl rfl (ae.bD Met.none rfl rfl (ae.nil (Fin.aa ?_)))))
         refine WX.cond rfl (fun hc1 => ?_) (fun hc1 => nomatch hc1)
         refine WX.seq (WX.region rfl (za rfl (ae.nil (Fin.aa (WX.ret (Fin.az ?_))))))
         first
         | exact Fin.result (O' := bu d bm D mx R) (.inr rfl) rfl rfl au (by unfold cA; rw [if_pos (by omega)]; exact ⟨mx, rfl, rfl, hD⟩)
         | exact Fin.result (O' := bu d bm D mx R) (.inr rfl) rfl rfl au (by unfold cA; rw [if_neg (by omega), if_pos (by assumption)]; exact ⟨mx, rfl, rfl, hD⟩)
         | exact Fin.result (O' := bu d bm (bE D).2 mx R) (.inr rfl) rfl rfl aC (by unfold cA; rw [if_neg (by omega), if_neg (by simp [hg32]), if_pos (by simpa using hc1)]; exact ⟨mx, rfl, rfl, hD.step⟩)
         | exact Fin.result (O' := bu d bm { (bE D).2 with fs := gR D.fs n ⟨(aI D.fs n).bs.take k, min (aI D.fs n).d k⟩ } (iu mx n (cJ fa k k (min (aI D.fs n).d k)) k) R) (.inr rfl) rfl rfl au (by
           unfold cA
           rw [if_neg (by omega), if_neg (by simp [hg32]), if_neg (by simpa using hc1)]
           have hk : k ≤ (aI D.fs n).bs.length := by omega
           have hlk : ((aI D.fs n).bs.take k).length = k := by rw [List.length_take, Nat.min_eq_left hk]
           have hpre := hrow0.pre hk
           rw [Nat.mul_one, ← List.map_take] at hpre
           have hf : eA R0 (cJ fa k k (min (aI D.fs n).d k)) ⟨(aI D.fs n).bs.take k, min (aI D.fs n).d k⟩ := ⟨fa, k, by rw [hlk], by rw [hlk]; exact hpre, hpre.eh, fun x hx => hB x (List.mem_of_mem_take hx)⟩
           obtain ⟨h1, h2⟩ := eT D
           have hgd := hD.kW n
           have hs := hD.step.set n hf (by omega) ⟨by simp only; omega, by rw [hlk]; simp only; omega⟩ (by
            have := hD.used
            rw [h1, h2, hlk]
            omega)
           rw [hlk, h1] at hs
           exact ⟨_, rfl, rfl, hs⟩)
       · try simp only [aB] at hg32
         refine ae.move (Met.some rfl rfl rfl) rfl ?_
         refine ae.cl (O1 := bu d bm D mx ((b7, ⟨0, false, [.slice fa (aI D.fs n).bs.length fc, I (aI D.fs n).d]⟩) :: R)) (Met.some rfl rfl rfl) rfl (ah Tryz.func45 (by decide +kernel)) rfl aC (qm _ d bm D mx hD.left) (fun v O' hp => ?_)
         obtain ⟨rfl, hO⟩ := hp
         subst O'
         refine ae.not (Met.some rfl rfl rfl) rfl (ae.bd Met.none rfl rfl (ae.nil (Fin.aa ?_)))
         refine WX.cond rfl (fun hc1 => ?_) (fun hc1 => ?_)
         · try simp only [aB] at hc1
           refine WX.seq (WX.region rfl (za rfl (ae.nil (Fin.aa (WX.ret (Fin.az ?_))))))
           first
           | exact Fin.result (O' := bu d bm D mx R) (.inr rfl) rfl rfl au (by unfold cA; rw [if_pos (by omega)]; exact ⟨mx, rfl, rfl, hD⟩)
           | exact Fin.result (O' := bu d bm D mx R) (.inr rfl) rfl rfl au (by unfold cA; rw [if_neg (by omega), if_pos (by assumption)]; exact ⟨mx, rfl, rfl, hD⟩)
           | exact Fin.result (O' := bu d bm (bE D).2 mx R) (.inr rfl) rfl rfl aC (by unfold cA; rw [if_neg (by omega), if_neg (by simp [hg32]), if_pos (by simpa using hc1)]; exact ⟨mx, rfl, rfl, hD.step⟩)
           | exact Fin.result (O' := bu d bm { (bE D).2 with fs := gR D.fs n ⟨(aI D.fs n).bs.take k, min (aI D.fs n).d k⟩ } (iu mx n (cJ fa k k (min (aI D.fs n).d k)) k) R) (.inr rfl) rfl rfl au (by
             unfold cA
             rw [if_neg (by omega), if_neg (by simp [hg32]), if_neg (by simpa using hc1)]
             have hk : k ≤ (aI D.fs n).bs.length := by omega
             have hlk : ((aI D.fs n).bs.take k).length = k := by rw [List.length_take, Nat.min_eq_left hk]
             have hpre := hrow0.pre hk
             rw [Nat.mul_one, ← List.map_take] at hpre
             have hf : eA R0 (cJ fa k k (min (aI D.fs n).d k)) ⟨(aI D.fs n).bs.take k, min (aI D.fs n).d k⟩ := ⟨fa, k, by rw [hlk], by rw [hlk]; exact hpre, hpre.eh, fun x hx => hB x (List.mem_of_mem_take hx)⟩
             obtain ⟨h1, h2⟩ := eT D
             have hgd := hD.kW n
             have hs := hD.step.set n hf (by omega) ⟨by simp only; omega, by rw [hlk]; simp only; omega⟩ (by
              have := hD.used
              rw [h1, h2, hlk]
              omega)
             rw [hlk, h1] at hs
             exact ⟨_, rfl, rfl, hs⟩)
         · try simp only [aB] at hc1
           refine WX.skip (Fin.aa (WX.seq ?_))
           obtain ⟨k, rfl⟩ : ∃ k : Nat, size = (k : Int) := ⟨size.toNat, by omega⟩
           refine WX.draw rfl ?_
           refine zm rfl (zm rfl ?_)
           refine ae.fieldAddr (off' := 0) Met.none rfl Tryz.underlying66 rfl aO rfl ?_
           first | refine ae.ld Met.none rfl aD ?_ | refine ae.ba Met.none rfl aD ?_
           refine zm rfl ?_
           refine ae.pre (m := k) Met.none rfl rfl aQ ec (bK.cons (bK.cons (bK.cons hrow))) hnil ?_
           refine ae.fieldAddr (off' := 1) Met.none rfl Tryz.underlying66 rfl cj rfl ?_
           first | refine ae.ld Met.none rfl bY ?_ | refine ae.ba Met.none rfl bY ?_
           refine zm rfl ?_
           refine ae.min Met.none rfl rfl ?_
           refine ae.build (c := [_, _]) Met.none rfl ik rq rfl ?_
           refine ae.cl (O1 := bu d bm (bE D).2 mx R) Met.none rfl (ah Tryz.func31 (by decide +kernel)) rfl aC (pX R d bm (bE D).2 mx n fa k k (min (aI D.fs n).d k)) (fun v O' hp => ?_)
           obtain rfl := hp
           refine zR rfl (za rfl (ae.nil (Fin.aa (WX.ret ?_))))
           first
           | exact Fin.result (O' := bu d bm D mx R) (.inr rfl) rfl rfl au (by unfold cA; rw [if_pos (by omega)]; exact ⟨mx, rfl, rfl, hD⟩)
           | exact Fin.result (O' := bu d bm D mx R) (.inr rfl) rfl rfl au (by unfold cA; rw [if_neg (by omega), if_pos (by assumption)]; exact ⟨mx, rfl, rfl, hD⟩)
           | exact Fin.result (O' := bu d bm (bE D).2 mx R) (.inr rfl) rfl rfl aC (by unfold cA; rw [if_neg (by omega), if_neg (by simp [hg32]), if_pos (by simpa using hc1)]; exact ⟨mx, rfl, rfl, hD.step⟩)
           | exact Fin.result (O' := bu d bm { (bE D).2 with fs := gR D.fs n ⟨(aI D.fs n).bs.take k, min (aI D.fs n).d k⟩ } (iu mx n (cJ fa k k (min (aI D.fs n).d k)) k) R) (.inr rfl) rfl rfl au (by
             unfold cA
             rw [if_neg (by omega), if_neg (by simp [hg32]), if_neg (by simpa using hc1)]
             have hk : k ≤ (aI D.fs n).bs.length := by omega
             have hlk : ((aI D.fs n).bs.take k).length = k := by rw [List.length_take, Nat.min_eq_left hk]
             have hpre := hrow0.pre hk
             rw [Nat.mul_one, ← List.map_take] at hpre
             have hf : eA R0 (cJ fa k k (min (aI D.fs n).d k)) ⟨(aI D.fs n).bs.take k, min (aI D.fs n).d k⟩ := ⟨fa, k, by rw [hlk], by rw [hlk]; exact hpre, hpre.eh, fun x hx => hB x (List.mem_of_mem_take hx)⟩
             obtain ⟨h1, h2⟩ := eT D
             have hgd := hD.kW n
             have hs := hD.step.set n hf (by omega) ⟨by simp only; omega, by rw [hlk]; simp only; omega⟩ (by
              have := hD.used
              rw [h1, h2, hlk]
              omega)
             rw [hlk, h1] at hs
             exact ⟨_, rfl, rfl, hs⟩)
end Go.Proofs.YthekokdpplobhaaGreat.Eng
set_option maxRecDepth 4000
namespace Go.Proofs.YthekokdpplobhaaGreat.Eng
open Go Go.Proofs Go.ChangeShapes Go.WideShapes Go.RowKit
def kZ (l : List Int) : List Int := l.mergeSort fun x y => decide (x ≤ y)
def eF (mx : bf) : List Int := mx.es.map (·.1)
abbrev uz : Value → Option (DataW Unit × List MemPlace) := fun _ => some (.nil, [])
theorem tF {ι : Lay} {c : List (Int × Nat × Value)} : ∀ {es : List MapEntry}, cL ι (dA c) es → es.map (·.key) = c.map fun e => I e.1 := by
 induction c with
 | nil => intro es hp; cases hp; rfl
 | cons p c ih =>
  obtain ⟨k, n, v⟩ := p
  intro es hp
  unfold dA at hp
  generalize hX : I k :: I n :: v :: dA c = X at hp
  cases hp with
  | nil => cases hX
  | cons h1 h2 h3 h4 =>
   rename_i c3 e2 es2
   injection hX with q1 q2
   injection q2 with q3 q4
   injection q4 with q5 q6
   subst q1 q5 q6
   rw [List.map_cons, List.map_cons, ih h4, h1]
theorem vw {k : Int} (h : 0 ≤ k ∧ k < 64) : (Lit.int .i64 k).wf = true := by
 simp only [Lit.wf, Bool.and_eq_true, decide_eq_true_eq]
 have h1 : IntKind.i64.min = -9223372036854775808 := rfl
 have h2 : IntKind.i64.max = 9223372036854775807 := rfl
 omega
theorem vQ {w : World} {B : Nat} {es : Array MapEntry} {clock : Nat} {ks : List Int} (hb : w.heap[B]? = some (.map es clock)) (hk : es.toList.map (·.key) = ks.map I) (hn : ks.Nodup) (hr : ∀ k ∈ ks, 0 ≤ k ∧ k < 64) (hl : ks.length ≤ 16777216)
  (h1 : ∀ en ∈ es.toList, en.born < clock) (h2 : es.toList.Pairwise fun x y => x.born < y.born) :
  ∃ D0 : DataW Unit, w.ownsMap Tryz.prog 3 uz B es.size D0 ∧ (intKeys D0).Perm ks ∧ Maps.size D0 = ks.length := by
 have hlen : es.size = ks.length := by
  have := congrArg List.length hk
  simpa using this
 have hread : ∀ x ∈ es.toList, ∃ k ∈ ks, x.key = I k ∧ WideElems.rd Tryz.prog 3 uz x = some (.int .i64 k, .nil) := fun x hx => by
  have hm : x.key ∈ ks.map I := by rw [← hk]; exact List.mem_map.2 ⟨x, hx, rfl⟩
  obtain ⟨k, hk1, hk2⟩ := List.mem_map.1 hm
  have hkey : keyOf Tryz.prog 3 (I k) = some (.int .i64 k) := Maps.keyOf_int_mk Tryz.underlying3 (vw (hr k hk1))
  refine ⟨k, hk1, hk2.symm, ?_⟩
  simp only [WideElems.rd, ← hk2, hkey, uz, Option.bind_some, Option.map_some]
 refine ⟨_, ⟨es, clock, hb, ⟨by rw [hlen]; exact Nat.le_trans hl (by decide), ⟨h1, ?_, ?_⟩, fun x hx => ?_⟩, Nat.le_refl _, rfl⟩, ?_, ?_⟩
 · exact (List.pairwise_map.2 h2).imp fun q => Nat.ne_of_lt q
 · rw [hk]
   exact List.pairwise_map.2 (hn.imp fun q e => q (by injection e))
 · obtain ⟨k, _, _, h⟩ := hread x hx
   exact ⟨_, h⟩
 · show (((es.toList.map (WideElems.rg Tryz.prog 3 uz)).foldr DataW.insert []).map fun p => Go.intOf p.1).Perm ks
   refine ((WideShapes.sorted_perm _).map _).trans ?_
   rw [List.map_map]
   have e1 : es.toList.map ((fun p : Lit × DataW Unit => Go.intOf p.1) ∘ WideElems.rg Tryz.prog 3 uz) = es.toList.map fun x => (match x.key with | .int _ k => k | _ => 0) := List.map_congr_left fun x hx => by
    obtain ⟨k, _, h3, h4⟩ := hread x hx
    simp only [Function.comp, WideElems.rg, h4, Option.getD_some, h3]
    rfl
   have e2 : (es.toList.map fun x => (match x.key with | .int _ k => k | _ => 0)) = (es.toList.map (·.key)).map fun v => (match v with | .int _ k => k | _ => 0) := by rw [List.map_map]; rfl
   rw [e1, e2, hk, List.map_map]
   have e3 : ks.map ((fun v : Value => (match v with | .int _ k => k | _ => 0)) ∘ I) = ks := by
    rw [show ((fun v : Value => (match v with | .int _ k => k | _ => 0)) ∘ I) = id from rfl, List.map_id]
   rw [e3]
 · show ((es.toList.map (WideElems.rg Tryz.prog 3 uz)).foldr DataW.insert []).length = _
   rw [(WideShapes.sorted_perm _).length_eq, List.length_map, Array.length_toList, hlen]
theorem vG (m : Nat) : AnyZI.SortsIn Tryz.prog na Fence.wide m :=
 ⟨fun gF off cap ss W hH hblk hsz => callsIn_wide.2 (AnyM.slices_Sort_int xv gF off cap ss W hH hblk hsz),
  fun p cap W => callsIn_wide.2 (AnyM.slices_Sort_int_none xv p cap W)⟩
theorem rO (B : Nat) (w : World) : Calls Tryz.prog 49 #[.map (some B)] w fun e w' => e = .returned (.func (.func 68) #[] #[.pointer (some ⟨w.heap.size, 0, none⟩)]) ∧ w' = w.alloc (.cells #[.map (some B)] 60) :=
 (callsIn_wide (n := 5)).1 (AnyZI.keys_in xx Fence.wide 5 trivial rfl (some B) w)
theorem pW {w : World} {B : Nat} {es : Array MapEntry} {clock : Nat} {ks : List Int} (hb : w.heap[B]? = some (.map es clock)) (hk : es.toList.map (·.key) = ks.map I) (hn : ks.Nodup) (hr : ∀ k ∈ ks, 0 ≤ k ∧ k < 64) (hl : ks.length ≤ 16777216)
  (h1 : ∀ en ∈ es.toList, en.born < clock) (h2 : es.toList.Pairwise fun x y => x.born < y.born) :
  Calls Tryz.prog 48 #[.func (.func 68) #[] #[.pointer (some ⟨w.heap.size, 0, none⟩)]] (w.alloc (.cells #[.map (some B)] 60)) fun e w' => ∃ v, e = .returned v ∧
   w'.ownsRow (w.heap.size + 1) 3 1 v ks.length ((kZ ks).map I) ∧ (v = .slice none 0 0 ↔ ks = []) ∧ Below (w.heap.size + 1) (w.alloc (.cells #[.map (some B)] 60)) w' := by
 have hB : B < w.heap.size := (Array.getElem?_eq_some_iff.1 hb).1
 have hb' : (w.alloc (.cells #[.map (some B)] 60)).heap[B]? = some (.map es clock) := (Below.heap_alloc _ _ B hB).trans hb
 obtain ⟨D0, hown, hperm, hsize⟩ := vQ hb' hk hn hr hl h1 h2
 have hseq : SeqGives Fence.wide 2 Tryz.prog 68 #[.pointer (some ⟨w.heap.size, 0, none⟩)] encZ (fun ss => ss.Perm (intKeys D0)) (Maps.size D0) (w.alloc (.cells #[.map (some B)] 60)) :=
  AnyZI.keys_gives (ρ := pD) { xx with } Fence.wide _ trivial rfl (by omega) w.heap.size B es.size D0 _ (by simp) (by simp) hown
 have cS := AnyZI.sorted_in xb Fence.wide 5 trivial trivial trivial trivial rfl (by omega) (vG _) (enters_of Tryz.func67 (by kernel_rfl) rfl) 68 #[.pointer (some ⟨w.heap.size, 0, none⟩)] trivial (enters_of Tryz.func68 (by kernel_rfl) rfl) _ _ (by rw [hsize]; exact Nat.le_trans hl (by decide)) (by rw [hsize]; omega) _ hseq
 change CallsIn _ _ Tryz.prog 48 _ _ _ at cS
 refine ((callsIn_wide (n := 5)).1 cS).mono ?_
 rintro e w' ⟨v, ss, rfl, hS, hrow, hnil, hbl⟩
 have hp : ss.Perm ks := hS.trans hperm
 have hsz : (w.alloc (.cells #[.map (some B)] 60)).heap.size = w.heap.size + 1 := by simp
 rw [hsz] at hrow hbl
 rw [show ss.mergeSort (fun x y => decide (x ≤ y)) = kZ ks from mergeSort_of_perm_i hp, hp.length_eq] at hrow
 exact ⟨v, rfl, hrow, by rw [hnil]; exact ⟨fun q => by subst q; exact hp.symm.eq_nil, fun q => by subst q; exact hp.eq_nil⟩, hbl⟩
theorem qU {P : Program} {w : World} {ops : Array Oper} {i : Nat} {rest : List Nat} {a : Act} {Q : Exit → Act → World → Prop} {dst : Option Tmp} {f : FuncId} {fn : Func} {gargs : Array Operand} {ts : Array TypeId} {t : TypeId} {p : String} {af : Array Edge} {args : Array Value}
  (ho : ops[i]? = some { dst := dst, op := .call { callee := .value (.func f), args := gargs, argTypes := ts }, type := t, pos := p, after := af, guard := none }) (hf : P.funcs[f]? = some fn) (hb : (fn.body.isSome && fn.name != "runtime.NumGoroutine") = true) (hargs : gargs.map a.eval = args)
  (hc : Calls P f args w fun e w' => ∃ v, e = .returned v ∧ wpOpsIn (FR none) 0 P ops Q rest (a.put dst v) w') : wpOpsIn (FR none) 0 P ops Q (i :: rest) a w := by
 simp only [Bool.and_eq_true] at hb
 rw [wpOpsIn_cons]
 unfold wpOpIn
 simp only [ho]
 have hwant : Region.wanted { dst := dst, op := .call { callee := .value (.func f), args := gargs, argTypes := ts }, type := t, pos := p, after := af, guard := none } (yielded ops a.tmps) = true := rfl
 rw [hwant, if_pos rfl]
 refine ⟨fun _ _ => trivial, ?_⟩
 rw [Oper.semAt_eq _ _ _ (fun c hc => by cases hc)]
 have hrun : (execOp a.eval { dst := dst, op := .call { callee := .value (.func f), args := gargs, argTypes := ts }, type := t, pos := p, after := af, guard := none }).run P w = .ok (.enter f args) w := by
  have hga : a.eval (.func f) = .func (.func f) #[] #[] := rfl
  have e1 : (fn.name == "runtime.NumGoroutine") = false := by simpa using hb.2
  have e2 : fn.body.isNone = false := by
   have := hb.1
   cases hb0 : fn.body with
   | none => rw [hb0] at this; cases this
   | some c => rfl
  simp only [execOp, resolve, hga, hargs, Deferred.ofValue, Sem.run_bind, Sem.run_pure, Result.andThen_ok, invoke, callFunc, run_program, hf, e1, e2]
  simp
 rw [hrun]
 simp only [Oper.uponIn]
 refine ⟨fun hd => by simp [FR, Fence.wide] at hd, ?_⟩
 have hin : CallsIn (FR none) 0 P f args w _ := callsIn_wide.2 hc
 refine hin.mono fun e w' ⟨v, he, h⟩ => ?_
 subst he
 exact h
theorem rm {P : Program} {w : World} {o : Oper} {ρ : Operand → Value} {y : Operand} {v : Value} (ho : o.op = .assign y) (hy : ρ y = v) : (execOp ρ o).run P w = .ok (.value v) w := by
 subst hy
 unfold execOp
 rw [ho]
 rfl
theorem At.pre {P : Program} {x : Cx} {L L1 : da} {O O1 : an} {base : Nat} {ι0 : Lay} {h0 : ai} {w0 w : World} {D : List Deferred} {a : Act} {Q : Exit → Act → World → Prop} (hm : P.follows .mixedOrders = true) (hr0 : bn base ι0 h0 w0) (hat : At x L O base ι0 h0 w0 D a w) {pl : List Oper} {ops : Array Oper} {i0 : Nat} {rest : List Nat}
  (hx : x.ρ = .late) (n : Nat) (hops1 : ops.toList.take n = pl) (hn : pl.length = n) (hsz : List.range ops.size = List.range' 0 n ++ rest) (hreg : fE ops x.m = true) (hpre : ae P x ops mM 0 pl L O (fun s => St x L1 O1 s))
  (h : ∀ a w, At x L1 O1 base ι0 h0 w0 D a w → wpOpsIn (FR none) 0 P ops Q rest a w) : (Code.region i0 ops false).wpIn (FR none) 0 P Q a w := by
 obtain ⟨ι, s, g1, g2, g3, g4, g5, g6⟩ := hat
 refine wpIn_region ?_
 rw [hsz, ← hn]
 refine ae.wp hm hpre hx ⟨ops.toList.drop n, by rw [List.drop_zero, ← hops1, List.take_append_drop]⟩ rest hreg g1 g2 fun s2 ι2 a2 w2 hK r1 r2 r3 r4 r5 r6 => ?_
 exact h a2 w2 ⟨ι2, s2, hK, r1, bw.trans hr0 g2.heap g3 r2 g4.size, bg.trans hr0 g2.heap g3 r2 g4 r3, r4.trans g5, g6.trans r6⟩
def nX (n : Nat) (mx : bf) : Value := if eF mx = [] then .slice none 0 0 else .slice (some ⟨n, 0, none⟩) (eF mx).length (eF mx).length
def jE (h : ai) (mx : bf) : ai := if eF mx = [] then h else h.new (.cells 1 false h.n none 0 ((kZ (eF mx)).map I))
theorem tC {h : ai} {d bm : Nat} {ro1 ro2 off armed : Bool} {room lft : Int} {mx : bf} (h1 : Is h d ⟨0, ro1, oo bm room off armed lft⟩) (h2 : Is h bm ⟨2, ro2, bW mx⟩) (hk : (eF mx).Nodup) (hr : ∀ k ∈ eF mx, 0 ≤ k ∧ k < 64) (hl : (eF mx).length ≤ 16777216) :
  ∀ ρ, iz Tryz.prog ρ 29 #[Ptr d 0] h (nX h.n mx) (jE h mx) := by
 have hm : Tryz.prog.follows .mixedOrders = true := Checked.mixed Tryz.checked
 refine lD Tryz.func29 rfl ?_
 intro base ι w a hs hd
 have hr1 : bn base ι h w := hs.heap
 obtain ⟨g, hg⟩ : ∃ g, g = h.lF fun _ => true := ⟨_, rfl⟩
 have hr0 : bn base ι g w := by rw [hg]; exact hr1.lF _
 have i1 : Is g d ⟨0, true, oo bm room off armed lft⟩ := by rw [hg]; exact h1.lF _
 have i2 : Is g bm ⟨2, true, bW mx⟩ := by rw [hg]; exact h2.lF _
 have hat : At ⟨9, false, h, .late⟩ (lW [Ptr d 0] 0) (dO d bm true true room off armed lft mx) base ι g w [] a w :=
  ⟨ι, cz Tryz.f29 #[Ptr d 0] g, ⟨rfl, gC _ 0 fun j v hj => by simp [cz, Array.getD_eq_getD_getElem?, hj], x7 hr0.nO i1 i2 (by intro q; cases q), fun q => by cases q⟩, ⟨hs.size, hs.tmps, hr0, hs.base⟩, bw.refl hr0, eL.zero (dD.refl ι _ w), hd, dC.refl _⟩
 refine At.seq (L1 := [(2, .slice none 0 0), (0, Ptr d 0)]) (O1 := dO d bm true true room off armed lft mx) hm hr0 hat rfl (show codeOk 9 _ = true by decide +kernel) ?_ (fun a1 w1 hat1 => ?_)
 refine WX.region rfl (za rfl (ae.nK ?_))
 exact fun s hs => ⟨rfl, hs.tl [0, 1] 2⟩
 refine wpIn_seq (At.pre (L1 := [(6, Mp bm)]) (O1 := dO d bm true true room off armed lft mx) (rest := [4, 5, 6]) hm hr0 hat1 rfl 4 rfl rfl rfl (show fE _ 9 = true by decide +kernel) ?_ (fun a2 w2 hat2 => ?_))
 · skip
   refine zm rfl (zn rfl ?_)
   first | refine ae.fieldAddr Met.none rfl Tryz.underlying62 rfl iV rfl ?_ | refine ae.bQ Met.none rfl Tryz.underlying62 rfl iV ?_
   first | refine ae.ld Met.none rfl fB ?_ | refine ae.ba Met.none rfl fB ?_
   refine ae.nK ?_
   exact (fun s hs => hs.tl [0, 1] 2)
 obtain ⟨ι2, s2, q1, q2, q3, q4, q5, q6⟩ := hat2
 have hold : ∀ b, b < h.n → s2.h.o b = g.o b := fun b hb => q6.2 b (by rw [hg]; exact hb) (by rw [hg]; show p6 (lr (h.o b)) = true; cases h.o b <;> rfl)
 have hblk : ∀ B, B < w.heap.size → w2.heap[B]? = w.heap[B]? := fun B hB => q4.block B hB fun b e r1 r2 => .inl (hold b (hr1.lt b e r1))
 obtain ⟨f2, k2, o2⟩ := q1.sat.at (j := 1) (b := bm) (x := ⟨2, true, bW mx⟩) rfl
 have hrel := dy (x := .tmp 6) q2.tmps rfl
 rw [q1.t.ev (y := .tmp 6) rfl] at hrel
 obtain ⟨em, r1, r2, r3⟩ := kN hrel
 obtain ⟨hone, es, clock, hes, c, hc0, hp, hp2, hp3⟩ := q2.heap.maps bm em _ _ _ _ _ _ r1 r2 o2
 unfold bW at hc0
 injection hc0 with e1 e2
 subst e2
 have hkeys : es.toList.map (·.key) = (eF mx).map I := by rw [tF hp]; unfold eF; rw [List.map_map]; rfl
 have hs2 : a2.tmps.size = 9 := q2.size.trans q1.m
 refine qU rfl Tryz.func49 (by decide +kernel) (args := #[.map (some em.block)]) (by simp [r3]) ((rO em.block w2).mono ?_)
 rintro e w3 ⟨rfl, rfl⟩
 refine ⟨_, rfl, ?_⟩
 refine qU rfl Tryz.func48 (by decide +kernel) (args := #[.func (.func 68) #[] #[.pointer (some ⟨w2.heap.size, 0, none⟩)]]) ?_ ((pW hes hkeys hk hr hl hp2 hp3).mono ?_)
 · have e7 : ∀ v, (a2.put (some 7) v).eval (.tmp 7) = v := fun v => by
     show (a2.put (some 7) v).tmps.getD 7 undef = v
     rw [fK hs2 (by intro d hd; cases hd; decide), if_pos rfl]
   simp [e7]
 rintro e w4 ⟨v, rfl, hrow, hnil, hbl⟩
 refine ⟨v, rfl, ?_⟩
 obtain ⟨F7, hF7⟩ : ∃ F7 : Value, F7 = .func (.func 68) #[] #[.pointer (some ⟨w2.heap.size, 0, none⟩)] := ⟨_, rfl⟩
 rw [← hF7]
 have hs3 : (a2.put (some 7) F7).tmps.size = 9 := by simp [Act.put, hs2]
 have hs4 : ((a2.put (some 7) F7).put (some 8) v).tmps.size = 9 := by simp [Act.put, hs2]
 have e8 : ((a2.put (some 7) F7).put (some 8) v).eval (.tmp 8) = v := by
  show ((a2.put (some 7) F7).put (some 8) v).tmps.getD 8 undef = v
  rw [fK hs3 (by intro d hd; cases hd; decide), if_pos rfl]
 refine eP rfl rfl (fun c h => by cases h) (w1 := w4) (v := v) (rm (y := .tmp 8) rfl e8) ?_
 refine wpIn_ret ⟨.inr rfl, ?_⟩
 have e2 : (((a2.put (some 7) F7).put (some 8) v).put (some 2) v).tmps.getD 2 undef = v := by
  rw [fK hs4 (by intro d hd; cases hd; decide), if_pos rfl]
 have hres : (results Tryz.f29 (((a2.put (some 7) F7).put (some 8) v).put (some 2) v).tmps).run Tryz.prog w4 = .ok v w4 := by
  obtain ⟨tm, htm⟩ : ∃ tm, tm = (((a2.put (some 7) F7).put (some 8) v).put (some 2) v).tmps := ⟨_, rfl⟩
  rw [← htm] at e2 ⊢
  have : results Tryz.f29 tm = pure (tm.getD 2 undef) := by
   simp [results, Tryz.f29]
  rw [this, e2]
  rfl
 have hsz2 : (w2.alloc (.cells #[.map (some em.block)] 60)).heap.size = w2.heap.size + 1 := by simp
 have hsz : w.heap.size ≤ w4.heap.size := by
  have h3 := hbl.size
  have h4 := q4.size
  omega
 have hb4 : ∀ B, B < w.heap.size → w4.heap[B]? = w.heap[B]? := fun B hB => by
  have h4 := q4.size
  rw [hbl.block B (by omega), Below.heap_alloc _ _ B (by omega), hblk B hB]
 have ho4 : w4.os = w.os ∧ w4.tape = w.tape ∧ w4.output = w.output := ⟨by rw [hbl.os]; exact q4.os, by rw [hbl.tape]; exact q4.tape, by rw [hbl.output]; exact q4.output⟩
 have hr4 : bn base ι h w4 := hr1.pre hsz hb4
 refine ⟨q5, ?_⟩
 by_cases hk0 : eF mx = []
 · have hv := hnil.2 hk0
   subst hv
   unfold nX jE
   rw [if_pos hk0, if_pos hk0]
   exact ⟨ι, _, hres, bw.refl hr1, .atom rfl, hr4, bg.grow ho4.1 ho4.2.1 ho4.2.2 hsz hb4⟩
 · unfold nX jE
   rw [if_neg hk0, if_neg hk0]
   rcases hrow.2 with ⟨h0, _⟩ | ⟨g', cap, cur, hv, hgb, hg', hn1, hcap, hcs, htake⟩
   · exact absurd (hnil.1 h0) hk0
   have h4 := q4.size
   have hg4 : g' < w4.heap.size := (Array.getElem?_eq_some_iff.1 hg').1
   have hcell : ∀ i, w4.cell? ⟨g', i, none⟩ = cur[i]? := fun i => by unfold World.cell?; simp only [hg']; rfl
   have hfro : ∀ i, w4.frozen? ⟨g', i, none⟩ = false := fun i => by unfold World.frozen?; simp only [hg']; simp
   have hsl : (kZ (eF mx)).length = (eF mx).length := List.length_mergeSort _
   rw [Nat.mul_one] at hcs htake
   have hT : eJ w w4 fun _ _ => False := ⟨ho4.1, ho4.2.1, ho4.2.2, hsz, fun B hB _ => hb4 B hB, fun B o u hc _ => by rw [(fO (hb4 B (fp hc))).1]; exact hc, fun B o u hc => ⟨⟨u, by rw [(fO (hb4 B (fp hc))).1]; exact hc⟩, (fO (hb4 B (fp hc))).2⟩⟩
   obtain ⟨n1, n2, n3⟩ := qa hr1 hs.base hT (en := ⟨g', 0, cap, 1, false⟩) (sz := 1) (cn := (kZ (eF mx)).map I) ⟨by show w.heap.size ≤ g'; omega, hg4⟩ rfl (fun _ => by rw [List.length_map, hsl]; exact hn1) (fun _ x hx => by
     obtain ⟨k, _, rfl⟩ := List.mem_map.1 hx; rfl) (fun _ i v hi => ⟨v, by
      rw [← htake] at hi
      have hi2 : i < (eF mx).length := by
       have h5 := (List.getElem?_eq_some_iff.1 hi).1
       rw [List.length_take] at h5
       omega
      rw [List.getElem?_take_of_lt hi2, Array.getElem?_toList] at hi
      show w4.cell? ⟨g', 0 + i, none⟩ = _
      rw [hcell, Nat.zero_add]
      exact hi, by
      obtain ⟨k, _, rfl⟩ := List.mem_map.1 (List.mem_of_getElem? hi)
      exact .atom rfl⟩) (fun i hi => ⟨by
      show ∃ v, w4.cell? ⟨g', 0 + i, none⟩ = _
      rw [hcell, Nat.zero_add]
      exact ⟨_, Array.getElem?_eq_getElem (by rw [hcs]; exact hi)⟩, hfro _⟩)
   refine ⟨_, v, hres, n3, ?_, n1, bg.grow ho4.1 ho4.2.1 ho4.2.2 hsz hb4⟩
   rw [hv]
   exact .slice (e := ⟨g', 0, cap, 1, false⟩) (by unfold Lay.add; rw [if_pos rfl]) rfl hn1 (by show 0 + cap * 1 ≤ cap; omega)
theorem pM {h : ai} {d bm : Nat} {ro1 ro2 off armed : Bool} {room lft : Int} {mx : bf} (h1 : Is h d ⟨0, ro1, oo bm room off armed lft⟩) (h2 : Is h bm ⟨2, ro2, bW mx⟩) (hk : (eF mx).Nodup) (hr : ∀ k ∈ eF mx, 0 ≤ k ∧ k < 64) (hl : (eF mx).length ≤ 16777216) :
  ll Tryz.prog 29 #[Ptr d 0] h (nX h.n mx) (jE h mx) :=
 ⟨by
  unfold jE
  split
  · exact .inl rfl
  · exact .inr (.inl ⟨_, _, rfl⟩), fun F ρ => by
  obtain ⟨f1, k1, e1⟩ := h1
  obtain ⟨f2, k2, e2⟩ := h2
  obtain ⟨r1, q1⟩ := eV (F := F) e1
  obtain ⟨r2, q2⟩ := eV (F := F) e2
  have := tC (ro1 := r1) (ro2 := r2) (off := off) (armed := armed) (room := room) (lft := lft) (bm := bm) (mx := mx) ⟨f1, k1, q1⟩ ⟨f2, k2, q2⟩ hk hr hl ρ
  have e3 : (jE h mx).un F = jE (h.un F) mx := by
   unfold jE
   split
   · rfl
   · rw [jD]; rfl
  rw [e3]
  exact this⟩
def cN (D : Dk) : List Int := kZ (D.fs.map (·.1))
theorem lx : ∀ {fs : List (Int × Fi)}, (∀ e ∈ fs, yF e) → (fs.length : Int) ≤ used fs
 | [], _ => Int.le_refl _
 | e :: l, h => by
  have h1 := lx fun e' he => h e' (List.mem_cons_of_mem _ he)
  have h2 := (h e (List.mem_cons_self ..)).2.1
  have h3 : 0 < e.2.bs.length := List.length_pos_iff.2 h2
  simp only [used, List.length_cons]
  omega
theorem dX.eF {R : an} {D : Dk} {mx : bf} (h : dX R D mx) : Eng.eF mx = D.fs.map (·.1) := by
 unfold Eng.eF
 rw [me, h.di.rel.keys]
theorem hU (l : List Int) : (kZ l).Perm l := List.mergeSort_perm _ _
theorem sU {R : an} {D : Dk} {mx : bf} (h : dX R D mx) : (cN D).Nodup := (hU _).nodup_iff.2 h.di.nd
theorem lO {D : Dk} {n : Int} : n ∈ cN D ↔ n ∈ D.fs.map (·.1) := (hU _).mem_iff
theorem qI {R : an} {D : Dk} {mx : bf} (h : dX R D mx) : (cN D).length ≤ 16777216 := by
 have h1 := lx h.ok
 have h2 := h.used
 have h3 := h.room
 have h4 : (cN D).length = D.fs.length := by
  unfold cN
  rw [(hU _).length_eq, List.length_map]
 omega
theorem sG {R : an} {D : Dk} {mx : bf} (h : dX R D mx) {n : Int} (hn : n ∈ cN D) : 0 ≤ n ∧ n < 64 := by
 obtain ⟨e, he, rfl⟩ := List.mem_map.1 (lO.1 hn)
 exact (h.ok e he).1
theorem uR (q : Bool) (R : an) {R0 : an} (d bm : Nat) (D : Dk) (mx : bf) (hD : dX R0 D mx) :
  Spec Tryz.prog q 29 #[Ptr d 0] (bu d bm D mx R) fun v O' => ∃ a c G, v = .slice a (cN D).length c ∧ Grow 1 a (cN D).length c ((cN D).map I) G ∧ O' = G ++ bu d bm D mx R :=
 Spec.direct fun g hs => by
  have hk := hD.eF
  have hd := pM (ro1 := false) (ro2 := false) (bm := bm) (mx := mx) (hs.at (j := 0) (b := d) rfl) (hs.at (j := 1) rfl) (by rw [hk]; exact hD.di.nd) (by
   rw [hk]
   intro k hk
   obtain ⟨e, he, rfl⟩ := List.mem_map.1 hk
   exact (hD.ok e he).1) (by
   have := qI hD
   unfold cN at this
   rw [(hU _).length_eq] at this
   rw [hk]
   exact this)
  have hf : cN D = kZ (Eng.eF mx) := by unfold cN; rw [hk]
  have hl : (cN D).length = (Eng.eF mx).length := by rw [hf]; exact List.length_mergeSort _
  unfold nX jE at hd
  by_cases h0 : Eng.eF mx = []
  · rw [if_pos h0, if_pos h0] at hd
    refine ⟨_, g, _, hd, ⟨none, 0, [], ?_, ?_, rfl⟩, hs, fun _ => Old.refl g⟩
    · rw [hl, h0]; rfl
    · rw [hl, hf, h0, show kZ [] = [] from by simp [kZ]]; exact .nil
  · rw [if_neg h0, if_neg h0] at hd
    refine ⟨_, _, _, hd, ⟨_, _, [(g.n, ⟨1, false, (cN D).map I⟩)], by rw [hl], .row (by simp), rfl⟩, ?_, fun _ => ⟨Nat.le_succ _, fun b hb => ?_⟩⟩
    · rw [← hf]
      exact hs.new 1 _
    · show (if b = g.n then _ else g.o b) = _
      rw [if_neg (by omega)]
def kX (aq : List Int) (i : Nat) (f : Fi) : Int := if i < aq.length then max 0 (min (nth aq i) (f.bs.length - f.d)) else 0
def jG (aq : List Int) (i : Nat) (f : Fi) : Fi := ⟨f.bs.take (f.d + kX aq i f).toNat, f.d⟩
def cutAt (D : Dk) (aq : List Int) (i : Nat) : Int × Fi := (nth (cN D) i, jG aq i (aI D.fs (nth (cN D) i)))
def iE (D : Dk) (aq : List Int) (i : Nat) : List (Int × Fi) := (List.range i).map (cutAt D aq)
def bp (f : Fi) : Nat := f.bs.length - f.d.toNat
def av : List (Int × Fi) → Nat
 | [] => 0
 | e :: l => bp e.2 + av l
def gN (a : Int) (k : Nat) : Int := IntKind.wrap .u8 ((BitVec.ofInt 8 a) ^^^ (BitVec.ofInt 8 (IntKind.wrap .u8 (1 * 2 ^ (min k 8))))).toNat
def fU (p k : Nat) : List (Int × Fi) → List (Int × Fi)
 | [] => []
 | e :: l => if p < bp e.2 then (e.1, ⟨e.2.bs.set (e.2.d.toNat + p) (gN (nth e.2.bs (e.2.d.toNat + p)) k), e.2.d⟩) :: l else e :: fU (p - bp e.2) k l
def dJ (D : Dk) (aq : List Int) (flip : Int) : List (Int × Fi) :=
 let l := iE D aq (cN D).length
 let m := 8 * av l
 if 0 ≤ flip ∧ 0 < m then fU (flip.toNat % m / 8) (7 - flip.toNat % m % 8) l else l
theorem iM (D : Dk) (aq : List Int) (i : Nat) : iE D aq (i + 1) = iE D aq i ++ [cutAt D aq i] := by
 unfold iE
 rw [List.range_succ, List.map_append]
 rfl
theorem dP : ∀ (a b : List (Int × Fi)), av (a ++ b) = av a + av b
 | [], b => by simp [av]
 | e :: a, b => by
  rw [List.cons_append]
  simp only [av]
  rw [dP a b]
  omega
theorem kj (aq : List Int) (i : Nat) {f : Fi} (h : 0 ≤ f.d ∧ f.d ≤ f.bs.length) : 0 ≤ kX aq i f ∧ f.d + kX aq i f ≤ f.bs.length := by
 unfold kX
 split <;> omega
theorem ra (aq : List Int) (i : Nat) {f : Fi} (h : 0 ≤ f.d ∧ f.d ≤ f.bs.length) : ((jG aq i f).bs.length : Int) = f.d + kX aq i f := by
 have := kj aq i h
 unfold jG
 simp only [List.length_take]
 omega
structure bM where
 n : Int
 f : Fi
 a : Option Addr
 c : Nat
 G : an
def bM.nf (o : bM) : Int × Fi := (o.n, o.f)
def aH (ow : List bM) : an := ow.flatMap (·.G)
def dR (a : Option Addr) (dn k : Nat) : List Value := (List.range' dn k).map (jC a)
def cI (ow : List bM) : List Value := ow.flatMap fun o => dR o.a o.f.d.toNat (bp o.f)
theorem ee (a b : List bM) : aH (a ++ b) = aH a ++ aH b := List.flatMap_append ..
theorem oz (a b : List bM) : cI (a ++ b) = cI a ++ cI b := List.flatMap_append ..
theorem eO (o : bM) (b : List bM) : aH (o :: b) = o.G ++ aH b := rfl
theorem kp (o : bM) (b : List bM) : cI (o :: b) = dR o.a o.f.d.toNat (bp o.f) ++ cI b := rfl
theorem fC (a : Option Addr) (dn k : Nat) : (dR a dn k).length = k := by unfold dR; rw [List.length_map, List.length_range']
theorem mg (a : Option Addr) (dn k : Nat) : dR a dn (k + 1) = dR a dn k ++ [jC a (dn + k)] := by
 unfold dR
 rw [List.range'_1_concat, List.map_append]
 rfl
theorem rC (a : Option Addr) (dn k r : Nat) (h : r < k) : (dR a dn k)[r]? = some (jC a (dn + r)) := by
 unfold dR
 rw [List.getElem?_map, List.getElem?_range' h]
 simp
theorem jl : ∀ ow : List bM, (cI ow).length = av (ow.map bM.nf)
 | [] => rfl
 | o :: ow => by
  rw [kp, List.length_append, fC, jl ow, List.map_cons]
  rfl
theorem nV (k : Nat) : ∀ (ow : List bM) (p : Nat), p < av (ow.map bM.nf) → ∃ ow1 o ow2 r, ow = ow1 ++ o :: ow2 ∧ r < bp o.f ∧ (cI ow)[p]? = some (jC o.a (o.f.d.toNat + r)) ∧
      fU p k (ow.map bM.nf) = ow1.map bM.nf ++ (o.n, ⟨o.f.bs.set (o.f.d.toNat + r) (gN (nth o.f.bs (o.f.d.toNat + r)) k), o.f.d⟩) :: ow2.map bM.nf
 | [], p, h => absurd h (Nat.not_lt_zero _)
 | o :: ow, p, h => by
  rw [List.map_cons] at h ⊢
  by_cases hp : p < bp o.f
  · refine ⟨[], o, ow, p, rfl, hp, ?_, ?_⟩
    · rw [kp, List.getElem?_append_left (by rw [fC]; exact hp)]
      exact rC _ _ _ _ hp
    · unfold fU
      rw [if_pos (show p < bp (bM.nf o).2 from hp)]
      rfl
  · have h2 : p - bp o.f < av (ow.map bM.nf) := by
      have : av (bM.nf o :: ow.map bM.nf) = bp o.f + av (ow.map bM.nf) := rfl
      omega
    obtain ⟨ow1, o', ow2, r, h3, h4, h5, h6⟩ := nV k ow (p - bp o.f) h2
    refine ⟨o :: ow1, o', ow2, r, by rw [h3]; rfl, h4, ?_, ?_⟩
    · rw [kp, List.getElem?_append_right (by rw [fC]; omega), fC]
      exact h5
    · unfold fU
      rw [if_neg (show ¬ p < bp (bM.nf o).2 from hp)]
      show bM.nf o :: fU (p - bp o.f) k _ = _
      rw [h6]
      rfl
theorem j8 {α : Type} (k : Int) : ∀ (a b : List (Int × α)), bI k (a ++ b) = (bI k a).or (bI k b)
 | [], b => by simp [bI]
 | (n, v) :: a, b => by
  rw [List.cons_append]
  simp only [bI]
  split
  · simp
  · exact j8 k a b
theorem eY {α : Type} {k : Int} : ∀ {m : List (Int × α)}, k ∉ m.map (·.1) → bI k m = none
 | [], _ => rfl
 | (n, v) :: m, h => by
  simp only [List.map_cons, List.mem_cons, not_or] at h
  simp only [bI]
  rw [if_neg h.1, eY h.2]
theorem kD {α : Type} {k : Int} {v : α} : ∀ {m : List (Int × α)}, (m.map (·.1)).Nodup → (k, v) ∈ m → bI k m = some v
 | [], _, h => by simp at h
 | (n, u) :: m, hn, h => by
  simp only [List.map_cons, List.nodup_cons] at hn
  simp only [bI]
  rcases List.mem_cons.1 h with h | h
  · injection h with h1 h2; subst h1 h2; rw [if_pos rfl]
  · rw [if_neg (fun q => hn.1 (by rw [← q]; exact List.mem_map.2 ⟨_, h, rfl⟩))]
    exact kD hn.2 h
theorem ia {α : Type} {k j : Int} {u : α} : ∀ {m : List (Int × α)}, bI j (eN k u m) = if j = k then some u else bI j m
 | [] => by simp only [eN, bI]
 | (n, v) :: m => by
  simp only [eN]
  by_cases q : k = n
  · rw [if_pos q]
    subst q
    simp only [bI]
    split <;> rfl
  · rw [if_neg q]
    simp only [bI]
    rw [ia]
    by_cases h1 : j = n
    · rw [if_pos h1, if_neg (fun e => q (e.symm.trans h1)), if_pos h1]
    · rw [if_neg h1, if_neg h1]
theorem nG {α : Type} {k j : Int} : ∀ {m : List (Int × α)}, (m.map (·.1)).Nodup → bI j (jR k m) = if j = k then none else bI j m
 | [], _ => by simp [jR, bI]
 | (n, v) :: m, hn => by
  simp only [List.map_cons, List.nodup_cons] at hn
  simp only [jR]
  by_cases q : k = n
  · rw [if_pos q]
    subst q
    by_cases h1 : j = k
    · rw [if_pos h1]; subst h1; exact eY hn.1
    · rw [if_neg h1]; simp only [bI]; rw [if_neg h1]
  · rw [if_neg q]
    simp only [bI]
    rw [nG hn.2]
    by_cases h1 : j = n
    · rw [if_pos h1, if_neg (fun e => q (e.symm.trans h1)), if_pos h1]
    · rw [if_neg h1, if_neg h1]
theorem lR {fs : List (Int × Fi)} {k j : Int} {f : Fi} (hn : (fs.map (·.1)).Nodup) : aI (gR fs k f) j = if j = k then (if f.bs = [] then ⟨[], 0⟩ else f) else aI fs j := by
 unfold gR aI
 by_cases hb : f.bs = []
 · rw [if_pos hb, nG (jj hn), ia]
   by_cases h : j = k
   · rw [if_pos h, if_pos h, if_pos hb]; rfl
   · rw [if_neg h, if_neg h, if_neg h]
 · rw [if_neg hb, ia]
   by_cases h : j = k
   · rw [if_pos h, if_pos h, if_neg hb]; rfl
   · rw [if_neg h, if_neg h]
theorem ri {mx : bf} {k j : Int} {v : Value} {n : Nat} (hn : (mx.kv.map (·.1)).Nodup) : bI j (iu mx k v n).kv = if j = k then (if n = 0 then none else some v) else bI j mx.kv := by
 unfold iu
 by_cases h0 : n = 0
 · rw [if_pos h0, bf.vi, bf.qi, nG (jj hn), ia]
   by_cases h : j = k
   · rw [if_pos h, if_pos h, if_pos h0]
   · rw [if_neg h, if_neg h, if_neg h]
 · rw [if_neg h0, bf.qi, ia]
   by_cases h : j = k
   · rw [if_pos h, if_pos h, if_neg h0]
   · rw [if_neg h, if_neg h]
theorem mem_set {fs : List (Int × Fi)} {k : Int} {f : Fi} {e : Int × Fi} (h : e ∈ gR fs k f) : e.1 = k ∨ e ∈ fs := by
 unfold gR at h
 have : e ∈ eN k f fs := by
  split at h
  · exact nQ.subset h
  · exact h
 rcases j7 this with q | q
 · exact .inl (by rw [q])
 · exact .inr q
structure yr where
 i : Nat
 ow : List bM
 D : Dk
 mx : bf
 a : Option Addr
 c : Nat
 G : an
structure yO (D0 : Dk) (aq : List Int) (R0 : an) (q : yr) : Prop where
 i : q.i ≤ (cN D0).length
 ow : q.ow.map bM.nf = iE D0 aq q.i
 row : ∀ o ∈ q.ow, Grow 1 o.a o.f.bs.length o.c (o.f.bs.map B8) o.G ∧ Bytes o.f.bs
 val : ∀ o ∈ q.ow, o.f.bs ≠ [] → bI o.n q.mx.kv = some (cJ o.a o.f.bs.length o.c o.f.d)
 get : ∀ m, aI q.D.fs m = (bI m (iE D0 aq q.i)).getD (aI D0.fs m)
 keys : ∀ e ∈ q.D.fs, e.1 ∈ cN D0
 dk : dX (aH q.ow ++ R0) q.D q.mx
 same : q.D.room = D0.room ∧ q.D.off = D0.off ∧ q.D.armed = D0.armed ∧ q.D.left = D0.left
 loose : Grow 1 q.a (cI q.ow).length q.c (cI q.ow) q.G
theorem mS (D0 : Dk) (aq : List Int) (i : Nat) (hi : i ≤ (cN D0).length) : (iE D0 aq i).map (·.1) = (cN D0).take i := by
 unfold iE
 rw [List.map_map]
 apply List.ext_getElem
 · rw [List.length_map, List.length_range, List.length_take]; omega
 · intro j h1 h2
   rw [List.length_map, List.length_range] at h1
   simp only [List.getElem_map, List.getElem_range, Function.comp, cutAt, List.getElem_take]
   exact dw (by omega)
theorem oh {l : List Int} (hn : l.Nodup) {i : Nat} (hi : i < l.length) : nth l i ∉ l.take i := by
 intro h
 rw [List.mem_take_iff_getElem] at h
 obtain ⟨j, hj, he⟩ := h
 rw [dw hi] at he
 have := (List.getElem_inj hn).1 he
 omega
theorem eZ.of {R : an} : ∀ {m : List (Int × Value)} {fs : List (Int × Fi)}, m.map (·.1) = fs.map (·.1) → (m.map (·.1)).Nodup → (∀ k v f, bI k m = some v → bI k fs = some f → eA R v f) → eZ R m fs
 | [], [], _, _, _ => .nil
 | [], _ :: _, h, _, _ => by simp at h
 | _ :: _, [], h, _, _ => by simp at h
 | (k, v) :: m, (k', f) :: fs, h, hn, ha => by
  simp only [List.map_cons, List.cons.injEq] at h
  obtain ⟨h1, h2⟩ := h
  subst h1
  simp only [List.map_cons, List.nodup_cons] at hn
  refine .cons (ha k v f (by simp [bI]) (by simp [bI])) (eZ.of h2 hn.2 fun j u g hu hg => ?_)
  have hj : j ≠ k := fun q => hn.1 (by
   subst q
   exact List.mem_map.2 ⟨_, fN hu, rfl⟩)
  exact ha j u g (by simp only [bI]; rw [if_neg hj]; exact hu) (by simp only [bI]; rw [if_neg hj]; exact hg)
theorem o6 {α : Type} {k : Int} {u : α} : ∀ {m : List (Int × α)}, k ∈ m.map (·.1) → (eN k u m).map (·.1) = m.map (·.1)
 | [], h => by simp at h
 | (n, v) :: m, h => by
  simp only [eN]
  by_cases q : k = n
  · rw [if_pos q]; subst q; rfl
  · rw [if_neg q]
    simp only [List.map_cons, List.mem_cons] at h ⊢
    rw [o6 (h.resolve_left q)]
theorem iD {o : bM} (Q : Nat × ga → Bool) : ∀ {ow : List bM}, o ∈ ow → o.G.countP Q ≤ (aH ow).countP Q
 | x :: ow, h => by
  rw [eO, List.countP_append]
  rcases List.mem_cons.1 h with rfl | h
  · omega
  · have := iD Q h
    omega
theorem mem_some {α : Type} {k : Int} : ∀ {m : List (Int × α)}, k ∈ m.map (·.1) → ∃ v, bI k m = some v
 | [], h => by simp at h
 | (n, v) :: m, h => by
  simp only [bI]
  by_cases q : k = n
  · rw [if_pos q]; exact ⟨v, rfl⟩
  · rw [if_neg q]
    simp only [List.map_cons, List.mem_cons] at h
    exact mem_some (h.resolve_left q)
theorem kO (fs : List (Int × Fi)) (k : Int) : aI (dg fs) k = (aI fs k).cX := by
 unfold aI dg
 induction fs with
 | nil => rfl
 | cons e l ih =>
  obtain ⟨n, f⟩ := e
  simp only [List.map_cons, bI]
  by_cases q : k = n
  · rw [if_pos q, if_pos q]; rfl
  · rw [if_neg q, if_neg q]; exact ih
theorem pr {D0 : Dk} {aq : List Int} {R0 : an} {q : yr} (h : yO D0 aq R0 q) (hq : q.i = (cN D0).length) (m : Int) : aI q.D.fs m = (bI m (iE D0 aq (cN D0).length)).getD ⟨[], 0⟩ := by
 rw [h.get m, hq]
 by_cases hm : m ∈ cN D0
 · obtain ⟨v, hv⟩ := mem_some (m := iE D0 aq (cN D0).length) (k := m) (by rw [mS D0 aq _ (Nat.le_refl _), List.take_length]; exact hm)
   rw [hv]; rfl
 · have : aI D0.fs m = ⟨[], 0⟩ := by
     unfold aI
     rw [eY (fun e => hm (lO.2 e))]
     rfl
   rw [this]
theorem lq {D0 : Dk} {aq : List Int} {R0 : an} {q : yr} (h : yO D0 aq R0 q) (hq : q.i = (cN D0).length) (hnd : (cN D0).Nodup) {ow1 ow2 : List bM} {o : bM} {b : Nat} {f2 : Fi} (how : q.ow = ow1 ++ o :: ow2) (ha : o.a = some ⟨b, 0, none⟩) (hne : o.f.bs ≠ [])
  (hl : f2.bs.length = o.f.bs.length) (hd : f2.d = o.f.d) (hB : Bytes f2.bs) :
  dX ((aH ow1 ++ ((b, ⟨1, false, f2.bs.map B8⟩) :: aH ow2)) ++ R0) { q.D with fs := eN o.n f2 q.D.fs } q.mx ∧
   (∀ m, aI (eN o.n f2 q.D.fs) m = if m = o.n then f2 else aI q.D.fs m) ∧ ∀ m, (bI m (ow1.map bM.nf ++ (o.n, f2) :: ow2.map bM.nf)).getD ⟨[], 0⟩ = if m = o.n then f2 else aI q.D.fs m := by
 have hck := mS D0 aq q.i (Nat.le_of_eq hq)
 have hkeys : q.ow.map (·.n) = cN D0 := by
  have e1 : q.ow.map (·.n) = (q.ow.map bM.nf).map (·.1) := by rw [List.map_map]; rfl
  rw [e1, h.ow, hck, hq, List.take_length]
 have hond : (q.ow.map (·.n)).Nodup := by rw [hkeys]; exact hnd
 have hcnd : ((iE D0 aq q.i).map (·.1)).Nodup := by rw [hck, hq, List.take_length]; exact hnd
 have hom : o ∈ q.ow := by rw [how]; simp
 have hown : ∀ o2 ∈ q.ow, aI q.D.fs o2.n = o2.f := fun o2 h2 => by
  rw [h.get, kD hcnd (by rw [← h.ow]; exact List.mem_map.2 ⟨o2, h2, rfl⟩)]
  rfl
 have hget : ∀ m, aI (eN o.n f2 q.D.fs) m = if m = o.n then f2 else aI q.D.fs m := fun m => by
  unfold aI
  rw [ia]
  split <;> rfl
 have hin : o.n ∈ q.D.fs.map (·.1) := by
  rw [← h.dk.di.rel.keys]
  exact List.mem_map.2 ⟨_, fN (h.val o hom hne), rfl⟩
 have hnk : (q.mx.kv.map (·.1)).Nodup := by rw [← me]; exact h.dk.keys
 have hf0 : f2.bs ≠ [] := fun e => hne (List.length_eq_zero_iff.1 (by rw [← hl, e]; rfl))
 refine ⟨⟨⟨eZ.of (by rw [o6 hin]; exact h.dk.di.rel.keys) hnk fun k v f hv hf => ?_, jj h.dk.di.nd⟩, fun e he => ?_, h.dk.room, h.dk.left, ?_⟩, hget, fun m => ?_⟩
 · rw [ia] at hf
   by_cases hk : k = o.n
   · subst hk
     rw [if_pos rfl] at hf
     injection hf with hf
     subst hf
     rw [h.val o hom hne] at hv
     injection hv with hv
     subst hv
     refine ⟨o.a, o.c, by rw [hl, hd], ?_, (fun q => by rw [ha] at q; cases q), hB⟩
     rw [ha]
     exact .inr ⟨b, 0, ⟨1, false, f2.bs.map B8⟩, rfl, fun g hg => hg.mem (by simp), rfl, by show 0 + f2.bs.length * 1 ≤ (f2.bs.map B8).length; rw [List.length_map]; omega, by rw [List.drop_zero, Nat.mul_one]; exact List.take_of_length_le (by rw [List.length_map]; omega)⟩
   · rw [if_neg hk] at hf
     have hkin : k ∈ cN D0 := h.keys _ (fN hf)
     rw [← hkeys] at hkin
     obtain ⟨o2, h2, rfl⟩ := List.mem_map.1 hkin
     have hgf := hown o2 h2
     have hff : aI q.D.fs o2.n = f := by unfold aI; rw [hf]; rfl
     rw [hgf] at hff
     subst hff
     have hne2 : o2.f.bs ≠ [] := (h.dk.ok _ (fN hf)).2.1
     rw [h.val o2 h2 hne2] at hv
     injection hv with hv
     subst hv
     obtain ⟨hg2, hB2⟩ := h.row o2 h2
     refine ⟨o2.a, o2.c, rfl, ?_, fun q => (hg2.eh q).1, hB2⟩
     have hr := hg2.oK (R := ([] : an))
     rw [List.append_nil] at hr
     refine hr.inc fun g hg => hg.sub fun Q => ?_
     rw [how] at h2
     have : o2 ∈ ow1 ∨ o2 ∈ ow2 := by
      rcases List.mem_append.1 h2 with h2 | h2
      · exact .inl h2
      · rcases List.mem_cons.1 h2 with h2 | h2
        · exact absurd (by rw [h2]) hk
        · exact .inr h2
     simp only [List.countP_append, List.countP_cons]
     rcases this with h3 | h3
     · have := iD Q h3; omega
     · have := iD Q h3; omega
 · rcases j7 he with q1 | q1
   · rw [q1]
     obtain ⟨v, hv⟩ := mem_some hin
     have h3 := h.dk.ok _ (fN hv)
     have h4 : v = o.f := by
      have := hown o hom
      unfold aI at this
      rw [hv] at this
      exact this
     rw [h4] at h3
     exact ⟨h3.1, hf0, by rw [hd]; exact h3.2.2.1, by rw [hd, hl]; exact h3.2.2.2⟩
   · exact h.dk.ok e q1
 · show used (eN o.n f2 q.D.fs) ≤ q.D.room
   rw [l7, hown o hom, hl]
   have := h.dk.used
   omega
 · rw [j8]
   have hn1 : (ow1.map bM.nf).map (·.1) = ow1.map (·.n) := by rw [List.map_map]; rfl
   have hn2 : (ow2.map bM.nf).map (·.1) = ow2.map (·.n) := by rw [List.map_map]; rfl
   by_cases hm : m = o.n
   · subst hm
     rw [if_pos rfl, eY (m := ow1.map bM.nf)]
     · simp [bI]
     · rw [hn1]
       rw [how, List.map_append, List.nodup_append] at hond
       exact fun e => hond.2.2 _ e _ (by simp) rfl
   · have e : ∀ v : Fi, bI m ((o.n, v) :: ow2.map bM.nf) = bI m (ow2.map bM.nf) := fun v => by
       simp only [bI]
       rw [if_neg hm]
     rw [if_neg hm, pr h hq m, ← hq, ← h.ow, how, List.map_append, List.map_cons, j8, show bM.nf o = (o.n, o.f) from rfl, e, e]
structure Rd where
 room : Int
 B : List (List Int)
 F : List Int
 off : Bool
 cB : Int
def fg (g : Nat → Int) : Nat → Int
 | 0 => 0
 | n + 1 => fg g n + g n
def bS (M : Rd) (n : Nat) : Int := ((nth M.B n).length : Nat)
def fF (M : Rd) : Int := fg (bS M) 64
def ep (M : Rd) : Rd := { M with cB := max (M.cB - 1) (-2), off := M.off || decide (max (M.cB - 1) (-2) = -1) }
def cg (M : Rd) : Bool × Rd := if M.cB < 0 then (false, M) else ((ep M).off, ep M)
def cR (M : Rd) (n : Int) (b : List Int) : Rd := { M with B := M.B.set n.toNat (nth M.B n.toNat ++ b) }
def aE (M : Rd) (n : Int) (b : List Int) : Int × Rd :=
 if n < 0 ∨ n > 63 then (1, M) else if M.off = true then (23, M) else if fF M + b.length > M.room then (22, M)
 else (if (cg (cR M n b)).1 = true then 23 else 0, (cg (cR M n b)).2)
def mi (M : Rd) : Rd := { M with F := (List.range 64).map (bS M) }
def bt (M : Rd) : Int × Rd := if M.off = true then (23, M) else if (cg M).1 = true then (23, (cg M).2) else (0, mi (cg M).2)
def ct (M : Rd) (n size : Int) : Int × Rd :=
 if n < 0 ∨ n > 63 ∨ size < 0 ∨ size > bS M n.toNat then (1, M) else if M.off = true then (23, M) else if (cg M).1 = true then (23, (cg M).2)
 else (0, { (cg M).2 with B := (cg M).2.B.set n.toNat ((nth (cg M).2.B n.toNat).take size.toNat), F := (cg M).2.F.set n.toNat (min (nth (cg M).2.F n.toNat) size) })
def oT (M : Rd) (n : Int) : Rd := if M.off = true then M else { M with cB := max n (-1) }
def ng (D : Dk) (n : Int) : Dk := if D.off = true then D else { D with armed := decide (0 ≤ n), left := n }
structure my (D : Dk) (M : Rd) : Prop where
 room : M.room = D.room
 off : M.off = D.off
 pl : (D.armed = true ∧ M.cB = D.left ∧ 0 ≤ D.left) ∨ (D.armed = false ∧ M.cB < 0 ∧ -2 ≤ M.cB)
 gM : M.B.length = 64
 eE : M.F.length = 64
 file : ∀ n : Nat, n < 64 → aI D.fs (n : Nat) = ⟨nth M.B n, nth M.F n⟩
theorem gj {g h : Nat → Int} : ∀ {n : Nat}, (∀ i, i < n → g i = h i) → fg g n = fg h n
 | 0, _ => rfl
 | n + 1, hh => by
  unfold fg
  rw [gj fun i hi => hh i (Nat.lt_succ_of_lt hi), hh n (Nat.lt_succ_self n)]
theorem nF (g : Nat → Int) (k : Nat) (a : Int) : ∀ n, fg (fun i => if i = k then a else g i) n = fg g n + (if k < n then a - g k else 0)
 | 0 => rfl
 | n + 1 => by
  unfold fg
  rw [nF g k a n]
  by_cases h1 : n = k
  · subst h1
    rw [if_pos rfl, if_neg (by omega), if_pos (by omega)]
    omega
  · rw [if_neg h1]
    by_cases h2 : k < n
    · rw [if_pos h2, if_pos (by omega)]; omega
    · rw [if_neg h2, if_neg (by omega)]; omega
theorem l9 : ∀ {fs : List (Int × Fi)}, (fs.map (·.1)).Nodup → (∀ e ∈ fs, 0 ≤ e.1 ∧ e.1 < 64) → used fs = fg (fun n => ((aI fs (n : Nat)).bs.length : Nat)) 64
 | [], _, _ => by
  show (0 : Int) = fg (fun _ => (0 : Int)) 64
  decide
 | (k, f) :: l, hn, hr => by
  simp only [List.map_cons, List.nodup_cons] at hn
  have ih := l9 hn.2 fun e he => hr e (List.mem_cons_of_mem _ he)
  have hk := hr (k, f) (List.mem_cons_self ..)
  have h0 : aI l k = ⟨[], 0⟩ := by unfold aI; rw [eY hn.1]; rfl
  have e1 : fg (fun n => ((aI ((k, f) :: l) (n : Nat)).bs.length : Nat)) 64 = fg (fun i => if i = k.toNat then (f.bs.length : Int) else ((aI l (i : Nat)).bs.length : Nat)) 64 := gj fun i hi => by
   unfold aI
   simp only [bI]
   by_cases hik : ((i : Nat) : Int) = k
   · rw [if_pos hik, if_pos (by omega)]; rfl
   · rw [if_neg hik, if_neg (by omega)]
  rw [e1, nF, if_pos (by omega), ← ih]
  have e2 : (((aI l ((k.toNat : Nat) : Int)).bs.length : Nat) : Int) = 0 := by
   rw [show ((k.toNat : Nat) : Int) = k by omega, h0]; rfl
  show (f.bs.length : Int) + used l = _
  omega
theorem dX.l9 {R : an} {D : Dk} {mx : bf} (h : dX R D mx) : Eng.used D.fs = fg (fun n => ((aI D.fs (n : Nat)).bs.length : Nat)) 64 := Eng.l9 h.di.nd fun e he => (h.ok e he).1
theorem my.used {R : an} {D : Dk} {M : Rd} {mx : bf} (h : my D M) (hD : dX R D mx) : fF M = Eng.used D.fs := by
 rw [hD.l9]
 exact gj fun i hi => by unfold bS; rw [h.file i hi]
theorem bZ {α : Type} [Inhabited α] {l : List α} {k i : Nat} {x : α} (hk : k < l.length) : nth (l.set k x) i = if i = k then x else nth l i := by
 unfold nth
 simp only [List.getD_eq_getElem?_getD, List.getElem?_set]
 by_cases h : k = i
 · subst h; rw [if_pos rfl, if_pos hk, if_pos rfl]; rfl
 · rw [if_neg h, if_neg (Ne.symm h)]
theorem cO {α : Type} [Inhabited α] (g : Nat → α) {n i : Nat} (h : i < n) : nth ((List.range n).map g) i = g i := by
 rw [dw (by rw [List.length_map, List.length_range]; exact h)]
 simp
theorem oA {D : Dk} {M : Rd} (h : my D M) (ho : D.off = false) : (cg M).1 = !(bE D).1 ∧ my (bE D).2 (cg M).2 := by
 unfold bE cg
 rcases h.pl with ⟨ha, hp, hl⟩ | ⟨ha, hp, hp2⟩
 · rw [if_neg (show ¬ D.armed = false by rw [ha]; simp), if_neg (show ¬ M.cB < 0 by omega)]
   by_cases hz : D.left - 1 < 0
   · have hm : max (M.cB - 1) (-2) = -1 := by omega
     rw [if_pos hz]
     refine ⟨by simp [ep, hm], h.room, by simp [ep, hm], .inr ⟨rfl, ?_, ?_⟩, h.gM, h.eE, h.file⟩
     · show max (M.cB - 1) (-2) < 0; omega
     · show -2 ≤ max (M.cB - 1) (-2); omega
   · have hm : max (M.cB - 1) (-2) = D.left - 1 := by omega
     have hne : ¬ max (M.cB - 1) (-2) = -1 := by omega
     rw [if_neg hz]
     refine ⟨by simp [ep, hne, h.off, ho], h.room, by simp [ep, hne, h.off], .inl ⟨ha, hm, by show 0 ≤ D.left - 1; omega⟩, h.gM, h.eE, h.file⟩
 · rw [if_pos ha, if_pos hp]
   exact ⟨rfl, h⟩
theorem rK {R : an} {D : Dk} {M : Rd} {mx : bf} (h : my D M) (hD : dX R D mx) (n : Int) (b : List Int) : (aE M n b).1 = (bL D n b).1 ∧ my (bL D n b).2 (aE M n b).2 := by
 have hu := h.used hD
 unfold bL aE
 by_cases h1 : ¬ (0 ≤ n ∧ n < 64)
 · rw [if_pos h1, if_pos (show n < 0 ∨ n > 63 by omega)]; exact ⟨rfl, h⟩
 rw [if_neg h1, if_neg (show ¬ (n < 0 ∨ n > 63) by omega)]
 by_cases h2 : D.off = true
 · rw [if_pos h2, if_pos (show M.off = true by rw [h.off]; exact h2)]; exact ⟨rfl, h⟩
 rw [if_neg h2, if_neg (show ¬ M.off = true by rw [h.off]; exact h2)]
 by_cases h3 : (b.length : Int) > D.room - Eng.used D.fs
 · rw [if_pos h3, if_pos (show fF M + b.length > M.room by rw [hu, h.room]; omega)]; exact ⟨rfl, h⟩
 rw [if_neg h3, if_neg (show ¬ fF M + b.length > M.room by rw [hu, h.room]; omega)]
 obtain ⟨k, rfl⟩ : ∃ k : Nat, n = (k : Int) := ⟨n.toNat, by omega⟩
 have hk : k < 64 := by omega
 have hs : my (gD D (k : Nat) b) (cR M (k : Nat) b) := ⟨h.room, h.off, h.pl, by unfold cR; simp only [List.length_set]; exact h.gM, h.eE, fun i hi => by
  show aI (gR D.fs (k : Nat) _) (i : Nat) = _
  rw [lR hD.di.nd]
  unfold cR
  simp only [Int.toNat_natCast]
  rw [bZ (by rw [h.gM]; exact hk), h.file k hk]
  have hd := hD.kW ((k : Nat) : Int)
  rw [h.file k hk] at hd
  by_cases hik : i = k
  · subst hik
    rw [if_pos rfl, if_pos rfl]
    split
    · rename_i hb0
      simp only at hb0 hd
      rw [(List.append_eq_nil_iff.1 hb0).1] at hd
      have : nth M.F i = 0 := by simp at hd; omega
      rw [hb0, this]
    · rfl
  · rw [if_neg (by omega), if_neg hik, h.file i hi]⟩
 have hoff : (gD D (k : Nat) b).off = false := by
  show D.off = false
  simpa using h2
 obtain ⟨e1, e2⟩ := oA hs hoff
 refine ⟨?_, e2⟩
 rw [e1]
 cases (bE (gD D (k : Nat) b)).1 <;> rfl
theorem rv {D : Dk} {M : Rd} (h : my D M) : (bt M).1 = (bT D).1 ∧ my (bT D).2 (bt M).2 := by
 unfold bT bt
 by_cases h2 : D.off = true
 · rw [if_pos h2, if_pos (show M.off = true by rw [h.off]; exact h2)]; exact ⟨rfl, h⟩
 rw [if_neg h2, if_neg (show ¬ M.off = true by rw [h.off]; exact h2)]
 obtain ⟨e1, e2⟩ := oA h (by simpa using h2)
 rw [e1]
 cases hs : (bE D).1
 · rw [if_pos (show (!false) = true from rfl), if_pos (show false = false from rfl)]; exact ⟨rfl, e2⟩
 · rw [if_neg (show ¬ (!true) = true by simp), if_neg (show ¬ true = false by simp)]
   refine ⟨rfl, e2.room, e2.off, e2.pl, e2.gM, by unfold mi; simp, fun i hi => ?_⟩
   show aI (dg (bE D).2.fs) (i : Nat) = _
   rw [kO, e2.file i hi]
   unfold mi
   simp only
   rw [cO _ hi]
   rfl
theorem ux {R : an} {D : Dk} {M : Rd} {mx : bf} (h : my D M) (hD : dX R D mx) (n size : Int) : (ct M n size).1 = (cA D n size).1 ∧ my (cA D n size).2 (ct M n size).2 := by
 unfold cA ct
 by_cases h0 : ¬ (0 ≤ n ∧ n < 64)
 · rw [if_pos (show n < 0 ∨ n > 63 ∨ size < 0 ∨ size > bS M n.toNat by omega), if_pos (show ¬ (0 ≤ n ∧ n < 64) ∨ size < 0 ∨ size > ((aI D.fs n).bs.length : Int) from .inl h0)]; exact ⟨rfl, h⟩
 obtain ⟨k, rfl⟩ : ∃ k : Nat, n = (k : Int) := ⟨n.toNat, by omega⟩
 have hk : k < 64 := by omega
 have hl : bS M k = ((aI D.fs (k : Nat)).bs.length : Nat) := by unfold bS; rw [h.file k hk]
 simp only [Int.toNat_natCast]
 rw [hl]
 by_cases h1 : size < 0 ∨ size > ((aI D.fs (k : Nat)).bs.length : Int)
 · rw [if_pos (show ((k : Nat) : Int) < 0 ∨ ((k : Nat) : Int) > 63 ∨ size < 0 ∨ size > ((aI D.fs (k : Nat)).bs.length : Int) by omega), if_pos (show ¬ (0 ≤ ((k : Nat) : Int) ∧ ((k : Nat) : Int) < 64) ∨ size < 0 ∨ size > ((aI D.fs (k : Nat)).bs.length : Int) by omega)]; exact ⟨rfl, h⟩
 rw [if_neg (show ¬ (((k : Nat) : Int) < 0 ∨ ((k : Nat) : Int) > 63 ∨ size < 0 ∨ size > ((aI D.fs (k : Nat)).bs.length : Int)) by omega), if_neg (show ¬ (¬ (0 ≤ ((k : Nat) : Int) ∧ ((k : Nat) : Int) < 64) ∨ size < 0 ∨ size > ((aI D.fs (k : Nat)).bs.length : Int)) by omega)]
 by_cases h2 : D.off = true
 · rw [if_pos h2, if_pos (show M.off = true by rw [h.off]; exact h2)]; exact ⟨rfl, h⟩
 rw [if_neg h2, if_neg (show ¬ M.off = true by rw [h.off]; exact h2)]
 obtain ⟨e1, e2⟩ := oA h (by simpa using h2)
 rw [e1]
 cases hs : (bE D).1
 · rw [if_pos (show (!false) = true from rfl), if_pos (show false = false from rfl)]; exact ⟨rfl, e2⟩
 · rw [if_neg (show ¬ (!true) = true by simp), if_neg (show ¬ true = false by simp)]
   obtain ⟨q1, q2⟩ := eT D
   have hk2 := e2.file k hk
   rw [q1] at hk2
   refine ⟨rfl, e2.room, e2.off, e2.pl, by simp only [List.length_set]; exact e2.gM, by simp only [List.length_set]; exact e2.eE, fun i hi => ?_⟩
   show aI (gR D.fs (k : Nat) _) (i : Nat) = _
   rw [lR hD.di.nd]
   simp only
   rw [bZ (by rw [e2.gM]; exact hk), bZ (by rw [e2.eE]; exact hk)]
   have hd := hD.kW ((k : Nat) : Int)
   by_cases hik : i = k
   · subst hik
     rw [if_pos rfl, if_pos rfl, if_pos rfl, hk2]
     rw [hk2] at hd
     simp only at hd ⊢
     split
     · rename_i hb0
       have hlz := congrArg List.length hb0
       rw [List.length_take] at hlz
       rw [hk2] at h1
       simp only [List.length_nil] at hlz h1
       rw [hb0]
       congr 1
       omega
     · rfl
   · rw [if_neg (by omega), if_neg hik, if_neg hik]
     have := e2.file i hi
     rw [q1] at this
     exact this
theorem wB {D : Dk} {M : Rd} (h : my D M) (n : Int) : my (ng D n) (oT M n) := by
 unfold ng oT
 by_cases h2 : D.off = true
 · rw [if_pos h2, if_pos (show M.off = true by rw [h.off]; exact h2)]; exact h
 rw [if_neg h2, if_neg (show ¬ M.off = true by rw [h.off]; exact h2)]
 refine ⟨h.room, h.off, ?_, h.gM, h.eE, h.file⟩
 by_cases hn : 0 ≤ n
 · exact .inl ⟨decide_eq_true hn, by show max n (-1) = n; omega, hn⟩
 · exact .inr ⟨decide_eq_false hn, by show max n (-1) < 0; omega, by show -2 ≤ max n (-1); omega⟩
def tZ (D0 : Dk) (aq : List Int) (flip : Int) (d bm : Nat) (R R0 : an) (O' : an) : Prop :=
 ∃ mx' N D', O' = bu d bm D' mx' (N ++ R) ∧ dX (N ++ R0) D' mx' ∧ D'.room = D0.room ∧ D'.off = false ∧ D'.armed = false ∧ ∀ m, aI D'.fs m = ((bI m (dJ D0 aq flip)).getD ⟨[], 0⟩).cX
theorem m8 (D0 : Dk) (aq : List Int) (M : Nat) (h : ∀ n, (aI D0.fs n).bs.length ≤ M) : ∀ i, av (iE D0 aq i) ≤ i * M
 | 0 => Nat.zero_le _
 | i + 1 => by
  have h1 := m8 D0 aq M h i
  have h2 := h (nth (cN D0) i)
  rw [iM, dP, Nat.succ_mul]
  have h3 : av [cutAt D0 aq i] ≤ M := by
   show bp (jG aq i (aI D0.fs (nth (cN D0) i))) + 0 ≤ M
   unfold bp jG
   simp only [List.length_take]
   omega
  omega
theorem iA (a : Int) (k : Nat) : 0 ≤ gN a k ∧ gN a k < 256 := ry _
theorem bK.qo {A N R : an} {sz : Nat} {a : Option Addr} {n : Nat} {cs : List Value} (h : bK (A ++ R) sz a n cs) : bK (A ++ (N ++ R)) sz a n cs :=
 h.inc fun g hg => hg.sub (by intro Q; simp only [List.countP_append]; omega)
theorem eZ.qo {A N R : an} {m : List (Int × Value)} {fs : List (Int × Fi)} (h : eZ (A ++ R) m fs) : eZ (A ++ (N ++ R)) m fs := by
 induction h with
 | nil => exact .nil
 | cons h1 _ ih =>
  obtain ⟨a, c, h2, h3, h4⟩ := h1
  exact .cons ⟨a, c, h2, h3.qo, h4⟩ ih
theorem qE (R : an) {R0 : an} (d bm : Nat) (D0 : Dk) (mx0 : bf) (aq : List Int) (ak : Option Addr) (ck : Nat) (flip : Int) (hD : dX R0 D0 mx0) (hi : ∀ Q : Nat × ga → Bool, R0.countP Q ≤ R.countP Q) (hroom : D0.room ≤ 1000000) (hf64 : dG flip) (hk64 : ∀ n ∈ aq, dG n) (hkl : gY aq)
  (hk : Src R 1 (.slice ak aq.length ck) aq.length (aq.map I)) :
  Spec Tryz.prog false 11 #[Ptr d 0, .slice ak aq.length ck, I flip] (bu d bm D0 mx0 R) fun v O' => tZ D0 aq flip d bm R R0 O' := by
 have hnd := sU hD
 have hfl := qI hD
 have hfl2 : (cN D0).length ≤ 1000000 := by
  have h1 := lx hD.ok
  have h2 := hD.used
  have h4 : (cN D0).length = D0.fs.length := by
   unfold cN
   rw [(hU _).length_eq, List.length_map]
  omega
 refine Spec.enter (args := [_, _, _]) (m := 107) Tryz.func11 rfl rfl (by decide +kernel) fun h0 => ?_
 refine WX.seq (WX.region rfl (za rfl (ae.nil (Fin.aa (WX.seq (WX.seq (WX.region rfl (zm rfl ?_))))))))
 refine ae.cl (O1 := _) Met.none rfl (ah Tryz.func29 (by decide +kernel)) rfl (fun _ h => h) (uR _ R d bm D0 mx0 hD) (fun v O' hp => ?_)
 obtain ⟨a15, c15, G15, rfl, hG15, rfl⟩ := hp
 refine ae.len Met.none rfl Tryz.underlying22 (zm rfl (ae.nil (Fin.aa (WX.block ?_))))
 obtain ⟨B, hB⟩ : ∃ B, B = G15 ++ R := ⟨_, rfl⟩
 have hsF : Src B 1 (.slice a15 (cN D0).length c15) (cN D0).length ((cN D0).map I) := hB ▸ hG15.src
 have hsK : Src B 1 (.slice ak aq.length ck) aq.length (aq.map I) := hB ▸ Src.app hk
 have hiB : ∀ Q : Nat × ga → Bool, R0.countP Q ≤ B.countP Q := fun Q => by
  have := hi Q
  rw [hB, List.countP_append]
  omega
 refine WX.re (O' := bu d bm D0 mx0 ([] ++ ([] ++ B))) ?_ (by rw [hB]; exact aC)
 refine WX.loop (fun q : yr => [(0, Ptr d 0), (1, .slice ak aq.length ck), (2, I flip), (6, .slice q.a (cI q.ow).length q.c), (15, .slice a15 (cN D0).length c15), (16, I ((cN D0).length : Nat)), (17, I (q.i : Nat))]) (fun q => bu d bm q.D q.mx (q.G ++ (aH q.ow ++ B))) (yO D0 aq R0) (fun q => (cN D0).length - q.i) ⟨0, [], D0, mx0, none, 0, []⟩ ⟨Nat.zero_le _, rfl, (fun o ho => by simp at ho), (fun o ho => by simp at ho), (fun m => rfl), (fun e he => lO.2 (List.mem_map.2 ⟨e, he, rfl⟩)), hD, ⟨rfl, rfl, rfl, rfl⟩, .nil⟩ (fun s hs => hs.tl [] 0) (fun q hq => ?_)
 obtain ⟨i, ow, D, mx, a6, c6, G6⟩ := q
 obtain ⟨hin, how, hgr, hval, hget, hkeys, hDi, hsame, hloose⟩ := hq
 simp only at hin how hgr hval hget hkeys hDi hsame hloose
 dsimp only
 have hlsum : (cI ow).length ≤ i * 1000000 := by
  rw [jl, how]
  exact m8 D0 aq 1000000 (fun n => by
   have h1 := lQ D0.fs n
   have h2 := hD.used
   omega) i
 refine WX.seq (WX.region rfl (zb rfl rfl rfl (ae.nil (Fin.aa (WX.seq ?_)))))
 refine WX.cond rfl (fun hc0 => ?_) (fun hc0 => ?_)
 · try simp only [aB] at hc0
   refine WX.skip (Fin.aa (WX.seq (WX.block (WX.seq ?_))))
   have hik : i < (cN D0).length := by omega
   obtain ⟨n, hn⟩ : ∃ n, n = nth (cN D0) i := ⟨_, rfl⟩
   have hnin : n ∈ cN D0 := hn ▸ dQ hik
   have hn64 := sG hD hnin
   have hnot : n ∉ (iE D0 aq i).map (·.1) := by rw [mS D0 aq i (by omega), hn]; exact oh hnd hik
   have hfn : aI D.fs n = aI D0.fs n := by rw [hget n, eY hnot]; rfl
   obtain ⟨fa, fc, hfv, hrow0, hnil, hfB⟩ := hDi.di.get n
   obtain ⟨f, hf⟩ : ∃ f, f = aI D.fs n := ⟨_, rfl⟩
   have hfd := hDi.kW n
   have hflen := hDi.nj n
   rw [← hf] at hfv hrow0 hfB hfd hflen hfn
   have hrow := hrow0.inc (R := G6 ++ (aH ow ++ B)) (fun g hg => hg.sub (by intro Q; have := hiB Q; simp only [List.countP_append]; omega))
   obtain ⟨kk, hkk⟩ : ∃ kk, kk = kX aq i f := ⟨_, rfl⟩
   have hkr := kj aq i hfd
   obtain ⟨cb, hcb⟩ : ∃ cb, cb = (jG aq i f).bs := ⟨_, rfl⟩
   have hcl := ra aq i hfd
   rw [← hcb, ← hkk] at hcl
   rw [← hkk] at hkr
   have htk : f.bs.take cb.length = cb := by
    rw [hcb]
    show f.bs.take (f.bs.take _).length = f.bs.take _
    rw [List.length_take, ← List.take_take, List.take_length]
   refine WX.region rfl (zm rfl ?_)
   first | refine ae.ix Met.none rfl rfl bj cj ?_ | refine ae.eG Met.none rfl rfl bj cj ?_
   first | refine ae.ld Met.none rfl bY ?_ (hv := (show ((cN D0).map I)[i]? = some (I n) from by rw [hn]; exact bB _ _ _ hik)) | refine ae.ba Met.none rfl bY ?_ (hv := (show ((cN D0).map I)[i]? = some (I n) from by rw [hn]; exact bB _ _ _ hik))
   refine za rfl (za rfl (zR rfl (zm rfl (zn rfl ?_))))
   first | refine ae.fieldAddr Met.none rfl Tryz.underlying62 rfl iV rfl ?_ | refine ae.bQ Met.none rfl Tryz.underlying62 rfl iV ?_
   first | refine ae.ld Met.none rfl fB ?_ | refine ae.ba Met.none rfl fB ?_
   refine zm rfl ?_
   refine ae.lookup Met.none rfl rfl lu ik at_ (show _ = cJ fa f.bs.length fc f.d from hfv) ?_
   refine ae.alloc (c := [_, _]) Met.none ik rfl (fun b9 => ?_)
   refine ae.st (vs := [_, _]) (c' := [_, _]) (j := 0) Met.none rfl rfl rfl pN ?_ (hj := rfl)
   refine zR rfl (za rfl (ae.nil (Fin.aa (WX.seq (WX.seq (WX.region rfl (zm rfl (zm rfl (ae.len Met.none rfl Tryz.underlying22 (zb rfl rfl rfl (ae.nil (Fin.aa ?_))))))))))))
   refine WX.cond rfl (fun hc1 => ?_) (fun hc1 => ?_)
   · try simp only [aB] at hc1
     have hik2 : i < aq.length := by omega
     refine WX.draw rfl ?_
     refine zm rfl (zm rfl ?_)
     first | refine ae.ix Met.none rfl rfl bj cj ?_ | refine ae.eG Met.none rfl rfl bj cj ?_
     first | refine ae.ld Met.none rfl bY ?_ (hv := (bB _ _ _ (by omega))) | refine ae.ba Met.none rfl bY ?_ (hv := (bB _ _ _ (by omega)))
     refine ae.fieldAddr (off' := 0) Met.none rfl Tryz.underlying66 rfl aO rfl ?_
     first | refine ae.ld Met.none rfl aD ?_ | refine ae.ba Met.none rfl aD ?_
     refine ae.len Met.none rfl Tryz.underlying39 ?_
     refine ae.fieldAddr (off' := 1) Met.none rfl Tryz.underlying66 rfl cj rfl ?_
     first | refine ae.ld Met.none rfl bY ?_ | refine ae.ba Met.none rfl bY ?_
     refine zb rfl rfl nh ?_
     refine ae.min Met.none rfl rfl ?_
     refine ae.max Met.none rfl rfl ?_
     refine za rfl (ae.nil (Fin.aa (WX.seq ?_)))
     have hcat : ∃ z : Int, z = kk := ⟨_, rfl⟩
     have hkk2 : kk = if i < aq.length then max 0 (min (nth aq i) (f.bs.length - f.d)) else 0 := hkk
     first | rw [if_pos hik2] at hkk2 | rw [if_neg (by omega)] at hkk2
     refine WX.region rfl ?_
     refine ae.fieldAddr (off' := 0) Met.none rfl Tryz.underlying66 rfl aO rfl ?_
     first | refine ae.ld Met.none rfl aD ?_ | refine ae.ba Met.none rfl aD ?_
     refine ae.fieldAddr (off' := 1) Met.none rfl Tryz.underlying66 rfl cj rfl ?_
     first | refine ae.ld Met.none rfl bY ?_ | refine ae.ba Met.none rfl bY ?_
     refine zm rfl (zb rfl rfl dH ?_)
     refine ae.pre (m := cb.length) Met.none rfl rfl aQ ec (bK.cons (bK.cons (bK.cons hrow))) hnil ?_
     refine ae.cl (O1 := _) Met.none rfl (ah Tryz.func30 (by decide +kernel)) rfl (fun _ h => h) (iY _ cb fa cb.length (by omega) (fun q => by
     have := hrow.eh q
     have h2 : cb.length = 0 := by omega
     exact List.length_eq_zero_iff.1 h2) (Src.cons (Src.cons (Src.cons (by
     have hpre := hrow.pre (m := cb.length) (by omega)
     rw [Nat.mul_one, ← List.map_take, htk] at hpre
     exact hpre.src hpre.eh))))) (fun v O' hp => ?_)
     obtain ⟨a51, c51, G51, rfl, hG51, rfl⟩ := hp
     refine ae.re (O' := (b9, ⟨0, false, [.slice fa f.bs.length fc, I f.d]⟩) :: bu d bm D mx (G6 ++ ((aH ow ++ G51) ++ B))) ?_
     refine ae.fieldAddr (off' := 0) Met.none rfl Tryz.underlying66 rfl aO rfl ?_
     refine ae.st (vs := [_]) (c' := [_, _]) (j := 0) Met.none rfl rfl rfl aO ?_ (hj := rfl)
     refine ae.nil (Fin.aa (WX.seq (WX.seq (WX.region rfl ?_))))
     refine ae.fieldAddr (off' := 1) Met.none rfl Tryz.underlying66 rfl cj rfl ?_
     first | refine ae.ld Met.none rfl bY ?_ | refine ae.ba Met.none rfl bY ?_
     refine za rfl (ae.nil (Fin.aa (WX.block ?_)))
     obtain ⟨dn, hdn⟩ : ∃ dn : Nat, f.d = (dn : Int) := ⟨f.d.toNat, by omega⟩
     have hsC : Src ((aH ow ++ G51) ++ B) 1 (.slice a51 cb.length c51) cb.length (cb.map B8) := by rw [List.append_assoc]; exact Src.app hG51.src
     rw [hdn]
     refine WX.loop (fun q : Nat × Option Addr × Nat × an => [(0, Ptr d 0), (1, .slice ak aq.length ck), (2, I flip), (6, .slice q.2.1 ((cI ow).length + q.1) q.2.2.1), (8, I n), (9, Ptr b9 0), (11, I ((dn + q.1 : Nat) : Int)), (15, .slice a15 (cN D0).length c15), (16, I ((cN D0).length : Nat)), (17, I (i : Nat))]) (fun q => (b9, ⟨0, false, [.slice a51 cb.length c51, I (dn : Int)]⟩) :: bu d bm D mx (q.2.2.2 ++ ((aH ow ++ G51) ++ B))) (fun q => dn + q.1 ≤ cb.length ∧ Grow 1 q.2.1 ((cI ow).length + q.1) q.2.2.1 (cI ow ++ dR a51 dn q.1) q.2.2.2) (fun q => cb.length - q.1) (0, a6, c6, G6) ⟨by show dn + 0 ≤ _; omega, by rw [show dR a51 dn 0 = [] from rfl, List.append_nil]; exact hloose⟩ (fun s hs => hs.tl [] 0) (fun q hq => ?_)
     obtain ⟨j, a7, c7, G7⟩ := q
     obtain ⟨hj, hG7⟩ := hq
     simp only at hj hG7
     dsimp only
     refine WX.seq (WX.seq (WX.region rfl (zm rfl ?_)))
     refine ae.fieldAddr (off' := 0) Met.none rfl Tryz.underlying66 rfl aO rfl ?_
     first | refine ae.ld Met.none rfl aD ?_ | refine ae.ba Met.none rfl aD ?_
     refine ae.len Met.none rfl Tryz.underlying39 (zb rfl rfl rfl (ae.nil (Fin.aa ?_)))
     refine WX.cond rfl (fun hc2 => ?_) (fun hc2 => ?_)
     · try simp only [aB] at hc2
       refine WX.skip (Fin.aa (WX.seq (WX.block ?_)))
       obtain ⟨b51, rfl, hG51e, hcl51⟩ : ∃ b51, a51 = some ⟨b51, 0, none⟩ ∧ G51 = [(b51, ⟨1, false, cb.map B8⟩)] ∧ (cb.map B8).length = cb.length * 1 := by
        rcases hG51 with ⟨_, h0, _⟩ | h
        · omega
        · exact h
       refine WX.region rfl (zm rfl ?_)
       refine ae.fieldAddr (off' := 0) Met.none rfl Tryz.underlying66 rfl aO rfl ?_
       first | refine ae.ld Met.none rfl aD ?_ | refine ae.ba Met.none rfl aD ?_
       refine zm rfl ?_
       first | refine ae.ix Met.none rfl rfl aQ ec ?_ | refine ae.eG Met.none rfl rfl aQ ec ?_
       refine ae.buildSlice (c := [_]) Met.none rfl mC uJ qk (by decide) (by decide) rfl rfl rfl rfl (fun b67 => ?_)
       refine ae.mH [_, _, _, _] Met.none rfl rfl sR mC uJ yL qk (Src.lit (cs := [_])) (fun a68 c68 G68 hG68 => ?_)
       refine za rfl (ae.nil (Fin.ag (Fin.aa (WX.region rfl (zm rfl (zb rfl rfl dH (za rfl (ae.nil ?_))))))))
       refine Fin.aj (j + 1, a68, c68, G68) ⟨by simp only; omega, ?_⟩ (by simp only; omega) (fun s hs => hs.tl [] 1)
       simp only
       rw [mg, ← List.append_assoc, show jC (some ⟨b51, 0, none⟩) (dn + j) = Ptr b51 (dn + j) from by unfold jC; simp]
       exact hG68
     · try simp only [aB] at hc2
       refine WX.exit (Fin.aF (Fin.aN (Fin.aK rfl (Fin.aa ?_))))
       have hjl : j = cb.length - dn := by omega
       obtain ⟨o, ho⟩ : ∃ o : bM, o = ⟨n, jG aq i f, a51, c51, G51⟩ := ⟨_, rfl⟩
       have hof : o.f.bs = cb ∧ o.f.d = f.d := by rw [ho]; exact ⟨hcb.symm, rfl⟩
       have hoG : Grow 1 o.a o.f.bs.length o.c (o.f.bs.map B8) o.G := by rw [hof.1, ho]; exact hG51
       have hlo : bp o.f = j := by
        unfold bp
        rw [hof.1, hof.2, hdn, Int.toNat_natCast, hjl]
       have hlv : cI (ow ++ [o]) = cI ow ++ dR a51 dn j := by
        rw [oz]
        show cI ow ++ (dR o.a o.f.d.toNat (bp o.f) ++ []) = _
        rw [List.append_nil, hlo, hof.2, hdn, Int.toNat_natCast, ho]
       have hro : aH (ow ++ [o]) = aH ow ++ G51 := by
        rw [ee]
        show aH ow ++ (o.G ++ []) = _
        rw [List.append_nil, ho]
       have hlvl : (cI ow).length + j = (cI (ow ++ [o])).length := by rw [hlv, List.length_append, fC]
       have hcut : cutAt D0 aq i = (n, o.f) := by
        unfold cutAt
        rw [← hn, ← hfn, ho]
       have hfile : eA (aH (ow ++ [o]) ++ R0) (cJ a51 cb.length c51 f.d) o.f := ⟨a51, c51, by rw [hof.1, hof.2], by
        rw [hro, List.append_assoc, hof.1]
        exact bK.app hG51.oK, fun q => (hG51.eh q).1, by
        rw [hof.1, ← htk]
        exact gb hfB⟩
       have hcbl : o.f.bs.length = cb.length := by rw [hof.1]
       have hnk : (mx.kv.map (·.1)).Nodup := by rw [← me]; exact hDi.keys
       have hDn : dX (aH (ow ++ [o]) ++ R0) { D with fs := gR D.fs n o.f } (iu mx n (cJ a51 cb.length c51 f.d) cb.length) := by
        have h0 : dX (aH (ow ++ [o]) ++ R0) D mx := ⟨⟨by
         rw [hro, List.append_assoc]
         exact hDi.di.rel.qo, hDi.di.nd⟩, hDi.ok, hDi.room, hDi.left, hDi.used⟩
        have h1 := h0.set n hfile hn64 ⟨by rw [hof.2]; omega, by rw [hof.1, hof.2]; omega⟩ (by
         have := hDi.used
         rw [hcbl, ← hf]
         omega)
        rw [hcbl] at h1
        exact h1
       refine WX.region rfl (zm rfl (zm rfl ?_))
       refine ae.yR (vs := [_, _]) Met.none rfl sY pN ?_
       refine ae.cl (O1 := bu d bm D mx ((b9, ⟨0, false, [.slice a51 cb.length c51, I (dn : Int)]⟩) :: (G7 ++ ((aH ow ++ G51) ++ B)))) Met.none rfl (ah Tryz.func31 (by decide +kernel)) rfl aC (pX _ d bm D mx n a51 cb.length c51 (dn : Int)) (fun v O' hp => ?_)
       obtain rfl := hp
       refine ae.nil (Fin.ag (Fin.aa (WX.region rfl (zb rfl rfl dH (zm rfl (ae.nil ?_))))))
       rw [← hdn]
       refine Fin.aj (⟨i + 1, ow ++ [o], { D with fs := gR D.fs n o.f }, iu mx n (cJ a51 cb.length c51 f.d) cb.length, a7, c7, G7⟩ : yr) ⟨by simp only; omega, ?_, ?_, ?_, ?_, ?_, hDn, hsame, ?_⟩ (by simp only; omega) ?_
       · simp only
         rw [List.map_append, how, iM, hcut, ho]
         rfl
       · intro o' h'
         rcases List.mem_append.1 h' with q | q
         · exact hgr o' q
         · rw [List.mem_singleton] at q; subst q; exact ⟨hoG, by rw [hof.1, ← htk]; exact gb hfB⟩
       · intro o' h' hne
         simp only
         rw [ri hnk]
         rcases List.mem_append.1 h' with q | q
         · rw [if_neg (fun e => hnot (by rw [← how, List.map_map]; exact List.mem_map.2 ⟨o', q, e⟩))]
           exact hval o' q hne
         · rw [List.mem_singleton] at q
           subst q
           rw [if_pos (by rw [ho]), if_neg (fun e => hne (by rw [hof.1]; exact List.length_eq_zero_iff.1 e)), hof.1, hof.2]
           rw [ho]
       · intro m
         simp only
         rw [lR hDi.di.nd, iM, j8, hcut]
         by_cases hm : m = n
         · subst hm
           rw [if_pos rfl, eY hnot]
           simp only [bI, if_pos, Option.or, Option.getD_some]
           split
           · rename_i hb0
             have h5 : o.f.d = 0 := by
              rw [hof.1] at hb0
              rw [hof.2]
              rw [hb0] at hcl
              simp at hcl
              omega
             cases hof' : o.f with
             | mk b' d' => rw [hof'] at hb0 h5; simp only at hb0 h5; rw [hb0, h5]
           · rfl
         · rw [if_neg hm, hget m]
           simp only [bI, if_neg hm]
           cases bI m (iE D0 aq i) <;> rfl
       · intro e he
         rcases mem_set he with q | q
         · rw [q]; exact hnin
         · exact hkeys e q
       · simp only
         rw [← hlvl, hlv]
         exact hG7
       · simp only
         rw [hro, ← hlvl]
         exact (fun s hs => hs.tl [0, 1] 3)
   · try simp only [aB] at hc1
     refine WX.skip (Fin.aa (WX.seq ?_))
     have hcat : ∃ z : Int, z = kk := ⟨_, rfl⟩
     have hkk2 : kk = if i < aq.length then max 0 (min (nth aq i) (f.bs.length - f.d)) else 0 := hkk
     first | rw [if_pos hik2] at hkk2 | rw [if_neg (by omega)] at hkk2
     refine WX.region rfl ?_
     refine ae.fieldAddr (off' := 0) Met.none rfl Tryz.underlying66 rfl aO rfl ?_
     first | refine ae.ld Met.none rfl aD ?_ | refine ae.ba Met.none rfl aD ?_
     refine ae.fieldAddr (off' := 1) Met.none rfl Tryz.underlying66 rfl cj rfl ?_
     first | refine ae.ld Met.none rfl bY ?_ | refine ae.ba Met.none rfl bY ?_
     refine zm rfl (zb rfl rfl dH ?_)
     refine ae.pre (m := cb.length) Met.none rfl rfl aQ ec (bK.cons (bK.cons (bK.cons hrow))) hnil ?_
     refine ae.cl (O1 := _) Met.none rfl (ah Tryz.func30 (by decide +kernel)) rfl (fun _ h => h) (iY _ cb fa cb.length (by omega) (fun q => by
     have := hrow.eh q
     have h2 : cb.length = 0 := by omega
     exact List.length_eq_zero_iff.1 h2) (Src.cons (Src.cons (Src.cons (by
     have hpre := hrow.pre (m := cb.length) (by omega)
     rw [Nat.mul_one, ← List.map_take, htk] at hpre
     exact hpre.src hpre.eh))))) (fun v O' hp => ?_)
     obtain ⟨a51, c51, G51, rfl, hG51, rfl⟩ := hp
     refine ae.re (O' := (b9, ⟨0, false, [.slice fa f.bs.length fc, I f.d]⟩) :: bu d bm D mx (G6 ++ ((aH ow ++ G51) ++ B))) ?_
     refine ae.fieldAddr (off' := 0) Met.none rfl Tryz.underlying66 rfl aO rfl ?_
     refine ae.st (vs := [_]) (c' := [_, _]) (j := 0) Met.none rfl rfl rfl aO ?_ (hj := rfl)
     refine ae.nil (Fin.aa (WX.seq (WX.seq (WX.region rfl ?_))))
     refine ae.fieldAddr (off' := 1) Met.none rfl Tryz.underlying66 rfl cj rfl ?_
     first | refine ae.ld Met.none rfl bY ?_ | refine ae.ba Met.none rfl bY ?_
     refine za rfl (ae.nil (Fin.aa (WX.block ?_)))
     obtain ⟨dn, hdn⟩ : ∃ dn : Nat, f.d = (dn : Int) := ⟨f.d.toNat, by omega⟩
     have hsC : Src ((aH ow ++ G51) ++ B) 1 (.slice a51 cb.length c51) cb.length (cb.map B8) := by rw [List.append_assoc]; exact Src.app hG51.src
     rw [hdn]
     refine WX.loop (fun q : Nat × Option Addr × Nat × an => [(0, Ptr d 0), (1, .slice ak aq.length ck), (2, I flip), (6, .slice q.2.1 ((cI ow).length + q.1) q.2.2.1), (8, I n), (9, Ptr b9 0), (11, I ((dn + q.1 : Nat) : Int)), (15, .slice a15 (cN D0).length c15), (16, I ((cN D0).length : Nat)), (17, I (i : Nat))]) (fun q => (b9, ⟨0, false, [.slice a51 cb.length c51, I (dn : Int)]⟩) :: bu d bm D mx (q.2.2.2 ++ ((aH ow ++ G51) ++ B))) (fun q => dn + q.1 ≤ cb.length ∧ Grow 1 q.2.1 ((cI ow).length + q.1) q.2.2.1 (cI ow ++ dR a51 dn q.1) q.2.2.2) (fun q => cb.length - q.1) (0, a6, c6, G6) ⟨by show dn + 0 ≤ _; omega, by rw [show dR a51 dn 0 = [] from rfl, List.append_nil]; exact hloose⟩ (fun s hs => hs.tl [] 0) (fun q hq => ?_)
     obtain ⟨j, a7, c7, G7⟩ := q
     obtain ⟨hj, hG7⟩ := hq
     simp only at hj hG7
     dsimp only
     refine WX.seq (WX.seq (WX.region rfl (zm rfl ?_)))
     refine ae.fieldAddr (off' := 0) Met.none rfl Tryz.underlying66 rfl aO rfl ?_
     first | refine ae.ld Met.none rfl aD ?_ | refine ae.ba Met.none rfl aD ?_
     refine ae.len Met.none rfl Tryz.underlying39 (zb rfl rfl rfl (ae.nil (Fin.aa ?_)))
     refine WX.cond rfl (fun hc2 => ?_) (fun hc2 => ?_)
     · try simp only [aB] at hc2
       refine WX.skip (Fin.aa (WX.seq (WX.block ?_)))
       obtain ⟨b51, rfl, hG51e, hcl51⟩ : ∃ b51, a51 = some ⟨b51, 0, none⟩ ∧ G51 = [(b51, ⟨1, false, cb.map B8⟩)] ∧ (cb.map B8).length = cb.length * 1 := by
        rcases hG51 with ⟨_, h0, _⟩ | h
        · omega
        · exact h
       refine WX.region rfl (zm rfl ?_)
       refine ae.fieldAddr (off' := 0) Met.none rfl Tryz.underlying66 rfl aO rfl ?_
       first | refine ae.ld Met.none rfl aD ?_ | refine ae.ba Met.none rfl aD ?_
       refine zm rfl ?_
       first | refine ae.ix Met.none rfl rfl aQ ec ?_ | refine ae.eG Met.none rfl rfl aQ ec ?_
       refine ae.buildSlice (c := [_]) Met.none rfl mC uJ qk (by decide) (by decide) rfl rfl rfl rfl (fun b67 => ?_)
       refine ae.mH [_, _, _, _] Met.none rfl rfl sR mC uJ yL qk (Src.lit (cs := [_])) (fun a68 c68 G68 hG68 => ?_)
       refine za rfl (ae.nil (Fin.ag (Fin.aa (WX.region rfl (zm rfl (zb rfl rfl dH (za rfl (ae.nil ?_))))))))
       refine Fin.aj (j + 1, a68, c68, G68) ⟨by simp only; omega, ?_⟩ (by simp only; omega) (fun s hs => hs.tl [] 1)
       simp only
       rw [mg, ← List.append_assoc, show jC (some ⟨b51, 0, none⟩) (dn + j) = Ptr b51 (dn + j) from by unfold jC; simp]
       exact hG68
     · try simp only [aB] at hc2
       refine WX.exit (Fin.aF (Fin.aN (Fin.aK rfl (Fin.aa ?_))))
       have hjl : j = cb.length - dn := by omega
       obtain ⟨o, ho⟩ : ∃ o : bM, o = ⟨n, jG aq i f, a51, c51, G51⟩ := ⟨_, rfl⟩
       have hof : o.f.bs = cb ∧ o.f.d = f.d := by rw [ho]; exact ⟨hcb.symm, rfl⟩
       have hoG : Grow 1 o.a o.f.bs.length o.c (o.f.bs.map B8) o.G := by rw [hof.1, ho]; exact hG51
       have hlo : bp o.f = j := by
        unfold bp
        rw [hof.1, hof.2, hdn, Int.toNat_natCast, hjl]
       have hlv : cI (ow ++ [o]) = cI ow ++ dR a51 dn j := by
        rw [oz]
        show cI ow ++ (dR o.a o.f.d.toNat (bp o.f) ++ []) = _
        rw [List.append_nil, hlo, hof.2, hdn, Int.toNat_natCast, ho]
       have hro : aH (ow ++ [o]) = aH ow ++ G51 := by
        rw [ee]
        show aH ow ++ (o.G ++ []) = _
        rw [List.append_nil, ho]
       have hlvl : (cI ow).length + j = (cI (ow ++ [o])).length := by rw [hlv, List.length_append, fC]
       have hcut : cutAt D0 aq i = (n, o.f) := by
        unfold cutAt
        rw [← hn, ← hfn, ho]
       have hfile : eA (aH (ow ++ [o]) ++ R0) (cJ a51 cb.length c51 f.d) o.f := ⟨a51, c51, by rw [hof.1, hof.2], by
        rw [hro, List.append_assoc, hof.1]
        exact bK.app hG51.oK, fun q => (hG51.eh q).1, by
        rw [hof.1, ← htk]
        exact gb hfB⟩
       have hcbl : o.f.bs.length = cb.length := by rw [hof.1]
       have hnk : (mx.kv.map (·.1)).Nodup := by rw [← me]; exact hDi.keys
       have hDn : dX (aH (ow ++ [o]) ++ R0) { D with fs := gR D.fs n o.f } (iu mx n (cJ a51 cb.length c51 f.d) cb.length) := by
        have h0 : dX (aH (ow ++ [o]) ++ R0) D mx := ⟨⟨by
         rw [hro, List.append_assoc]
         exact hDi.di.rel.qo, hDi.di.nd⟩, hDi.ok, hDi.room, hDi.left, hDi.used⟩
        have h1 := h0.set n hfile hn64 ⟨by rw [hof.2]; omega, by rw [hof.1, hof.2]; omega⟩ (by
         have := hDi.used
         rw [hcbl, ← hf]
         omega)
        rw [hcbl] at h1
        exact h1
       refine WX.region rfl (zm rfl (zm rfl ?_))
       refine ae.yR (vs := [_, _]) Met.none rfl sY pN ?_
       refine ae.cl (O1 := bu d bm D mx ((b9, ⟨0, false, [.slice a51 cb.length c51, I (dn : Int)]⟩) :: (G7 ++ ((aH ow ++ G51) ++ B)))) Met.none rfl (ah Tryz.func31 (by decide +kernel)) rfl aC (pX _ d bm D mx n a51 cb.length c51 (dn : Int)) (fun v O' hp => ?_)
       obtain rfl := hp
       refine ae.nil (Fin.ag (Fin.aa (WX.region rfl (zb rfl rfl dH (zm rfl (ae.nil ?_))))))
       rw [← hdn]
       refine Fin.aj (⟨i + 1, ow ++ [o], { D with fs := gR D.fs n o.f }, iu mx n (cJ a51 cb.length c51 f.d) cb.length, a7, c7, G7⟩ : yr) ⟨by simp only; omega, ?_, ?_, ?_, ?_, ?_, hDn, hsame, ?_⟩ (by simp only; omega) ?_
       · simp only
         rw [List.map_append, how, iM, hcut, ho]
         rfl
       · intro o' h'
         rcases List.mem_append.1 h' with q | q
         · exact hgr o' q
         · rw [List.mem_singleton] at q; subst q; exact ⟨hoG, by rw [hof.1, ← htk]; exact gb hfB⟩
       · intro o' h' hne
         simp only
         rw [ri hnk]
         rcases List.mem_append.1 h' with q | q
         · rw [if_neg (fun e => hnot (by rw [← how, List.map_map]; exact List.mem_map.2 ⟨o', q, e⟩))]
           exact hval o' q hne
         · rw [List.mem_singleton] at q
           subst q
           rw [if_pos (by rw [ho]), if_neg (fun e => hne (by rw [hof.1]; exact List.length_eq_zero_iff.1 e)), hof.1, hof.2]
           rw [ho]
       · intro m
         simp only
         rw [lR hDi.di.nd, iM, j8, hcut]
         by_cases hm : m = n
         · subst hm
           rw [if_pos rfl, eY hnot]
           simp only [bI, if_pos, Option.or, Option.getD_some]
           split
           · rename_i hb0
             have h5 : o.f.d = 0 := by
              rw [hof.1] at hb0
              rw [hof.2]
              rw [hb0] at hcl
              simp at hcl
              omega
             cases hof' : o.f with
             | mk b' d' => rw [hof'] at hb0 h5; simp only at hb0 h5; rw [hb0, h5]
           · rfl
         · rw [if_neg hm, hget m]
           simp only [bI, if_neg hm]
           cases bI m (iE D0 aq i) <;> rfl
       · intro e he
         rcases mem_set he with q | q
         · rw [q]; exact hnin
         · exact hkeys e q
       · simp only
         rw [← hlvl, hlv]
         exact hG7
       · simp only
         rw [hro, ← hlvl]
         exact (fun s hs => hs.tl [0, 1] 3)
 · try simp only [aB] at hc0
   refine WX.exit (Fin.aF (Fin.aN (Fin.aK rfl (Fin.aa (WX.seq (WX.seq ?_))))))
   have hie : i = (cN D0).length := by omega
   have hC : yO D0 aq R0 ⟨i, ow, D, mx, a6, c6, G6⟩ := ⟨hin, how, hgr, hval, hget, hkeys, hDi, hsame, hloose⟩
   have hcg := pr hC hie
   have hls : (cI ow).length = av (iE D0 aq (cN D0).length) := by rw [jl, how, hie]
   have hlb : (cI ow).length ≤ 1000000000000 := by omega
   refine WX.region rfl (zm rfl (ae.len Met.none rfl Tryz.underlying63 (zb rfl rfl tW (za rfl (zR rfl (zm rfl (zb rfl rfl rfl (zm rfl ?_))))))))
   refine ae.split (d := 79) rfl (fun hg79 => ?_) (fun hg79 => ?_)
   · try simp only [aB] at hg79
     refine ae.move (Met.some rfl rfl rfl) rfl (ae.bin (Met.some rfl rfl rfl) rfl rfl rfl (ae.bD Met.none rfl rfl (ae.nil (Fin.aa ?_))))
     refine WX.cond rfl (fun hc3 => ?_) (fun hc3 => ?_)
     · try simp only [aB] at hc3
       refine WX.seq ?_
       obtain ⟨fl, hfle⟩ : ∃ fl : Nat, flip = (fl : Int) := ⟨flip.toNat, by omega⟩
       obtain ⟨q, hq⟩ : ∃ q, q = fl % (8 * (cI ow).length) := ⟨_, rfl⟩
       have hqm : flip.tmod (8 * ((cI ow).length : Int)) = (q : Int) := by
        rw [hfle, Int.tmod_eq_emod_of_nonneg (by omega), hq, Int.natCast_emod, Int.natCast_mul]
        rfl
       have hqlt : q < 8 * (cI ow).length := by rw [hq]; exact Nat.mod_lt _ (by omega)
       have hq8 : (q : Int).tdiv 8 = ((q / 8 : Nat) : Int) := by rw [Int.tdiv_eq_ediv_of_nonneg (by omega)]; omega
       have hq8m : (q : Int).tmod 8 = ((q % 8 : Nat) : Int) := by rw [Int.tmod_eq_emod_of_nonneg (by omega)]; omega
       obtain ⟨ow1, o, ow2, r, how2, hr, hpv, hfc⟩ := nV (7 - q % 8) ow (q / 8) (by rw [← jl]; omega)
       have hom : o ∈ ow := by rw [how2]; simp
       obtain ⟨hoG, hoB⟩ := hgr o hom
       have hrl : o.f.d.toNat + r < o.f.bs.length := by unfold bp at hr; omega
       have hone : o.f.bs ≠ [] := fun e => by rw [e] at hrl; simp at hrl
       obtain ⟨b, hoa, hoGe⟩ : ∃ b, o.a = some ⟨b, 0, none⟩ ∧ o.G = [(b, ⟨1, false, o.f.bs.map B8⟩)] := by
        rcases hoG with ⟨_, h0, _⟩ | ⟨b, h1, h2, _⟩
        · omega
        · exact ⟨b, h1, h2⟩
       obtain ⟨z, hz⟩ : ∃ z, z = o.f.d.toNat + r := ⟨_, rfl⟩
       rw [← hz] at hrl hpv hfc
       rw [hoa, show jC (some ⟨b, 0, none⟩) z = Ptr b z from by unfold jC; simp] at hpv
       have hrs : aH ow = aH ow1 ++ ([(b, ⟨1, false, o.f.bs.map B8⟩)] ++ aH ow2) := by rw [how2, ee, eO, hoGe]
       rw [hrs]
       refine WX.re (O' := (b, ⟨1, false, o.f.bs.map B8⟩) :: bu d bm D mx (G6 ++ ((aH ow1 ++ aH ow2) ++ B))) ?_
       refine WX.region rfl (zm rfl (zm rfl ?_))
       refine ae.rem Met.none rfl rfl (by omega) ?_
       rw [hqm]
       refine za rfl (ae.nil (Fin.aa ?_))
       refine WX.draw rfl ?_
       refine zm rfl (zm rfl ?_)
       refine ae.qu Met.none rfl rfl ?_ (hr := (show IntKind.wrap .i64 ((q : Int).tdiv 8) = ((q / 8 : Nat) : Int) from by rw [hq8]; exact wrap_i64 (by omega) (by omega)))
       first | refine ae.ix Met.none rfl rfl mC uJ ?_ | refine ae.eG Met.none rfl rfl mC uJ ?_
       first | refine ae.ld Met.none rfl xu ?_ (hv := hpv) | refine ae.ba Met.none rfl xu ?_ (hv := hpv)
       refine zn rfl ?_
       first | refine ae.ld Met.none rfl iQ ?_ | refine ae.ba Met.none rfl iQ ?_
       refine zm rfl ?_
       refine ae.rem Met.none rfl rfl (by omega) ?_
       rw [hq8m]
       refine zb rfl rfl nh ?_
       refine ae.shl Met.none rfl rfl (by omega) ?_
       rw [show ((7 : Int) - ((q % 8 : Nat) : Int)).toNat = 7 - q % 8 from by omega]
       refine ae.bin Met.none rfl rfl (show _ = some (B8 (gN (nth o.f.bs z) (7 - q % 8))) from rfl) (zn rfl ?_)
       refine ae.st (vs := [_]) (j := 0) Met.none rfl rfl rfl ec ?_ (hj := rfl)
       refine ae.nil (Fin.aa (WX.seq ?_))
       first
       | obtain ⟨f2, hf2⟩ : ∃ f2 : Fi, f2 = ⟨o.f.bs.set z (gN (nth o.f.bs z) (7 - q % 8)), o.f.d⟩ := ⟨_, rfl⟩
         have hz8 := iA (nth o.f.bs z) (7 - q % 8)
         obtain ⟨hDf, hgf, hgc⟩ := lq hC hie hnd (f2 := f2) how2 hoa hone (by rw [hf2]; exact List.length_set) (by rw [hf2]) (by
          rw [hf2]
          intro y hy
          rcases List.mem_or_eq_of_mem_set hy with p | p
          · exact hoB y p
          · rw [p]; exact hz8)
         have hcc : dJ D0 aq flip = ow1.map bM.nf ++ (o.n, f2) :: ow2.map bM.nf := by
          unfold dJ
          simp only
          rw [← hls, if_pos (by omega), show flip.toNat = fl by omega, ← hq, hf2, ← hfc, how, hie]
         obtain ⟨Df, hDfe⟩ : ∃ Df : Dk, Df = { D with fs := eN o.n f2 D.fs } := ⟨_, rfl⟩
         obtain ⟨NN, hNN⟩ : ∃ NN, NN = aH ow1 ++ ((b, ⟨1, false, f2.bs.map B8⟩) :: aH ow2) := ⟨_, rfl⟩
         have hDk : dX (NN ++ R0) Df mx := by rw [hNN, hDfe]; exact hDf
         have hgg : ∀ m, aI Df.fs m = (bI m (dJ D0 aq flip)).getD ⟨[], 0⟩ := fun m => by rw [hDfe, hcc]; exact (hgf m).trans (hgc m).symm
         have hrm : Df.room = D0.room := by rw [hDfe]; exact hsame.1
         refine WX.re (O' := bu d bm Df mx (NN ++ R)) ?_ (by rw [hDfe, hNN, hB, hf2]; exact aC)
       | obtain ⟨Df, hDfe⟩ : ∃ Df : Dk, Df = D := ⟨_, rfl⟩
         obtain ⟨NN, hNN⟩ : ∃ NN, NN = aH ow := ⟨_, rfl⟩
         have hDk : dX (NN ++ R0) Df mx := by rw [hNN, hDfe]; exact hDi
         have hgg : ∀ m, aI Df.fs m = (bI m (dJ D0 aq flip)).getD ⟨[], 0⟩ := fun m => by
          have hcc : dJ D0 aq flip = iE D0 aq (cN D0).length := by
           unfold dJ
           simp only
           rw [← hls, if_neg (by omega)]
          rw [hcc, hDfe]
          exact hcg m
         have hrm : Df.room = D0.room := by rw [hDfe]; exact hsame.1
         refine WX.re (O' := bu d bm Df mx (NN ++ R)) ?_ (by rw [hDfe, hNN, hB]; exact aC)
       refine WX.region rfl (zm rfl ?_)
       refine ae.cl (O1 := _) Met.none rfl (ah Tryz.func32 (by decide +kernel)) rfl (fun _ h => h) (kH _ d bm Df mx hDk) (fun v O' hp => ?_)
       obtain ⟨rfl, hO⟩ := hp
       subst O'
       refine ae.nil (Fin.aa (WX.region rfl (zm rfl (zm rfl (zn rfl ?_)))))
       first | refine ae.fieldAddr Met.none rfl Tryz.underlying62 rfl dm rfl ?_ | refine ae.bQ Met.none rfl Tryz.underlying62 rfl dm ?_
       refine ae.st (vs := [_]) (j := 0) Met.none rfl rfl rfl dm ?_ (hj := rfl)
       refine zn rfl ?_
       first | refine ae.fieldAddr Met.none rfl Tryz.underlying62 rfl dm rfl ?_ | refine ae.bQ Met.none rfl Tryz.underlying62 rfl dm ?_
       refine ae.st (vs := [_]) (j := 0) Met.none rfl rfl rfl dm ?_ (hj := rfl)
       refine ae.nil ?_
       exact Fin.result (O' := bu d bm ⟨Df.room, false, false, Df.left, dg Df.fs⟩ mx.cX (NN ++ R)) (.inl rfl) rfl rfl au ⟨mx.cX, NN, ⟨Df.room, false, false, Df.left, dg Df.fs⟩, rfl, ⟨hDk.cX.di, hDk.cX.ok, hDk.cX.room, (fun e => by cases e), hDk.cX.used⟩, hrm, rfl, rfl, fun m => by
        rw [kO, hgg]⟩
     · try simp only [aB] at hc3
       refine WX.skip (Fin.aa (WX.seq ?_))
       first
       | obtain ⟨f2, hf2⟩ : ∃ f2 : Fi, f2 = ⟨o.f.bs.set z (gN (nth o.f.bs z) (7 - q % 8)), o.f.d⟩ := ⟨_, rfl⟩
         have hz8 := iA (nth o.f.bs z) (7 - q % 8)
         obtain ⟨hDf, hgf, hgc⟩ := lq hC hie hnd (f2 := f2) how2 hoa hone (by rw [hf2]; exact List.length_set) (by rw [hf2]) (by
          rw [hf2]
          intro y hy
          rcases List.mem_or_eq_of_mem_set hy with p | p
          · exact hoB y p
          · rw [p]; exact hz8)
         have hcc : dJ D0 aq flip = ow1.map bM.nf ++ (o.n, f2) :: ow2.map bM.nf := by
          unfold dJ
          simp only
          rw [← hls, if_pos (by omega), show flip.toNat = fl by omega, ← hq, hf2, ← hfc, how, hie]
         obtain ⟨Df, hDfe⟩ : ∃ Df : Dk, Df = { D with fs := eN o.n f2 D.fs } := ⟨_, rfl⟩
         obtain ⟨NN, hNN⟩ : ∃ NN, NN = aH ow1 ++ ((b, ⟨1, false, f2.bs.map B8⟩) :: aH ow2) := ⟨_, rfl⟩
         have hDk : dX (NN ++ R0) Df mx := by rw [hNN, hDfe]; exact hDf
         have hgg : ∀ m, aI Df.fs m = (bI m (dJ D0 aq flip)).getD ⟨[], 0⟩ := fun m => by rw [hDfe, hcc]; exact (hgf m).trans (hgc m).symm
         have hrm : Df.room = D0.room := by rw [hDfe]; exact hsame.1
         refine WX.re (O' := bu d bm Df mx (NN ++ R)) ?_ (by rw [hDfe, hNN, hB, hf2]; exact aC)
       | obtain ⟨Df, hDfe⟩ : ∃ Df : Dk, Df = D := ⟨_, rfl⟩
         obtain ⟨NN, hNN⟩ : ∃ NN, NN = aH ow := ⟨_, rfl⟩
         have hDk : dX (NN ++ R0) Df mx := by rw [hNN, hDfe]; exact hDi
         have hgg : ∀ m, aI Df.fs m = (bI m (dJ D0 aq flip)).getD ⟨[], 0⟩ := fun m => by
          have hcc : dJ D0 aq flip = iE D0 aq (cN D0).length := by
           unfold dJ
           simp only
           rw [← hls, if_neg (by omega)]
          rw [hcc, hDfe]
          exact hcg m
         have hrm : Df.room = D0.room := by rw [hDfe]; exact hsame.1
         refine WX.re (O' := bu d bm Df mx (NN ++ R)) ?_ (by rw [hDfe, hNN, hB]; exact aC)
       refine WX.region rfl (zm rfl ?_)
       refine ae.cl (O1 := _) Met.none rfl (ah Tryz.func32 (by decide +kernel)) rfl (fun _ h => h) (kH _ d bm Df mx hDk) (fun v O' hp => ?_)
       obtain ⟨rfl, hO⟩ := hp
       subst O'
       refine ae.nil (Fin.aa (WX.region rfl (zm rfl (zm rfl (zn rfl ?_)))))
       first | refine ae.fieldAddr Met.none rfl Tryz.underlying62 rfl dm rfl ?_ | refine ae.bQ Met.none rfl Tryz.underlying62 rfl dm ?_
       refine ae.st (vs := [_]) (j := 0) Met.none rfl rfl rfl dm ?_ (hj := rfl)
       refine zn rfl ?_
       first | refine ae.fieldAddr Met.none rfl Tryz.underlying62 rfl dm rfl ?_ | refine ae.bQ Met.none rfl Tryz.underlying62 rfl dm ?_
       refine ae.st (vs := [_]) (j := 0) Met.none rfl rfl rfl dm ?_ (hj := rfl)
       refine ae.nil ?_
       exact Fin.result (O' := bu d bm ⟨Df.room, false, false, Df.left, dg Df.fs⟩ mx.cX (NN ++ R)) (.inl rfl) rfl rfl au ⟨mx.cX, NN, ⟨Df.room, false, false, Df.left, dg Df.fs⟩, rfl, ⟨hDk.cX.di, hDk.cX.ok, hDk.cX.room, (fun e => by cases e), hDk.cX.used⟩, hrm, rfl, rfl, fun m => by
        rw [kO, hgg]⟩
   · try simp only [aB] at hg79
     refine zs 2 79 rfl rfl rfl (zs 2 79 rfl rfl rfl (ae.bd Met.none rfl rfl (ae.nil (Fin.aa ?_))))
     refine WX.cond rfl (fun hc3 => nomatch hc3) (fun hc3 => ?_)
     refine WX.skip (Fin.aa (WX.seq ?_))
     first
     | obtain ⟨f2, hf2⟩ : ∃ f2 : Fi, f2 = ⟨o.f.bs.set z (gN (nth o.f.bs z) (7 - q % 8)), o.f.d⟩ := ⟨_, rfl⟩
       have hz8 := iA (nth o.f.bs z) (7 - q % 8)
       obtain ⟨hDf, hgf, hgc⟩ := lq hC hie hnd (f2 := f2) how2 hoa hone (by rw [hf2]; exact List.length_set) (by rw [hf2]) (by
        rw [hf2]
        intro y hy
        rcases List.mem_or_eq_of_mem_set hy with p | p
        · exact hoB y p
        · rw [p]; exact hz8)
       have hcc : dJ D0 aq flip = ow1.map bM.nf ++ (o.n, f2) :: ow2.map bM.nf := by
        unfold dJ
        simp only
        rw [← hls, if_pos (by omega), show flip.toNat = fl by omega, ← hq, hf2, ← hfc, how, hie]
       obtain ⟨Df, hDfe⟩ : ∃ Df : Dk, Df = { D with fs := eN o.n f2 D.fs } := ⟨_, rfl⟩
       obtain ⟨NN, hNN⟩ : ∃ NN, NN = aH ow1 ++ ((b, ⟨1, false, f2.bs.map B8⟩) :: aH ow2) := ⟨_, rfl⟩
       have hDk : dX (NN ++ R0) Df mx := by rw [hNN, hDfe]; exact hDf
       have hgg : ∀ m, aI Df.fs m = (bI m (dJ D0 aq flip)).getD ⟨[], 0⟩ := fun m => by rw [hDfe, hcc]; exact (hgf m).trans (hgc m).symm
       have hrm : Df.room = D0.room := by rw [hDfe]; exact hsame.1
       refine WX.re (O' := bu d bm Df mx (NN ++ R)) ?_ (by rw [hDfe, hNN, hB, hf2]; exact aC)
     | obtain ⟨Df, hDfe⟩ : ∃ Df : Dk, Df = D := ⟨_, rfl⟩
       obtain ⟨NN, hNN⟩ : ∃ NN, NN = aH ow := ⟨_, rfl⟩
       have hDk : dX (NN ++ R0) Df mx := by rw [hNN, hDfe]; exact hDi
       have hgg : ∀ m, aI Df.fs m = (bI m (dJ D0 aq flip)).getD ⟨[], 0⟩ := fun m => by
        have hcc : dJ D0 aq flip = iE D0 aq (cN D0).length := by
         unfold dJ
         simp only
         rw [← hls, if_neg (by omega)]
        rw [hcc, hDfe]
        exact hcg m
       have hrm : Df.room = D0.room := by rw [hDfe]; exact hsame.1
       refine WX.re (O' := bu d bm Df mx (NN ++ R)) ?_ (by rw [hDfe, hNN, hB]; exact aC)
     refine WX.region rfl (zm rfl ?_)
     refine ae.cl (O1 := _) Met.none rfl (ah Tryz.func32 (by decide +kernel)) rfl (fun _ h => h) (kH _ d bm Df mx hDk) (fun v O' hp => ?_)
     obtain ⟨rfl, hO⟩ := hp
     subst O'
     refine ae.nil (Fin.aa (WX.region rfl (zm rfl (zm rfl (zn rfl ?_)))))
     first | refine ae.fieldAddr Met.none rfl Tryz.underlying62 rfl dm rfl ?_ | refine ae.bQ Met.none rfl Tryz.underlying62 rfl dm ?_
     refine ae.st (vs := [_]) (j := 0) Met.none rfl rfl rfl dm ?_ (hj := rfl)
     refine zn rfl ?_
     first | refine ae.fieldAddr Met.none rfl Tryz.underlying62 rfl dm rfl ?_ | refine ae.bQ Met.none rfl Tryz.underlying62 rfl dm ?_
     refine ae.st (vs := [_]) (j := 0) Met.none rfl rfl rfl dm ?_ (hj := rfl)
     refine ae.nil ?_
     exact Fin.result (O' := bu d bm ⟨Df.room, false, false, Df.left, dg Df.fs⟩ mx.cX (NN ++ R)) (.inl rfl) rfl rfl au ⟨mx.cX, NN, ⟨Df.room, false, false, Df.left, dg Df.fs⟩, rfl, ⟨hDk.cX.di, hDk.cX.ok, hDk.cX.room, (fun e => by cases e), hDk.cX.used⟩, hrm, rfl, rfl, fun m => by
      rw [kO, hgg]⟩
def aL (M : Rd) : List Nat := (List.range 64).filter fun i => decide (0 < (nth M.B i).length)
def qY (M : Rd) (n : Nat) : Fi := ⟨nth M.B n, nth M.F n⟩
def fW (M : Rd) (aq : List Int) (i : Nat) : Int × Fi := (((nth (aL M) i : Nat) : Int), jG aq i (qY M (nth (aL M) i)))
def aV (M : Rd) (aq : List Int) (i : Nat) : List (Int × Fi) := (List.range i).map (fW M aq)
def ca (M : Rd) (aq : List Int) (flip : Int) : List (Int × Fi) :=
 let l := aV M aq (aL M).length
 let m := 8 * av l
 if 0 ≤ flip ∧ 0 < m then fU (flip.toNat % m / 8) (7 - flip.toNat % m % 8) l else l
def bU (M : Rd) (aq : List Int) (flip : Int) : Rd :=
 { room := M.room, off := false, cB := -1, B := (List.range 64).map fun n => ((bI ((n : Nat) : Int) (ca M aq flip)).getD ⟨[], 0⟩).bs, F := (List.range 64).map fun n => ((((bI ((n : Nat) : Int) (ca M aq flip)).getD ⟨[], 0⟩).bs.length : Nat) : Int) }
theorem dU {M : Rd} {n : Nat} : n ∈ aL M ↔ n < 64 ∧ nth M.B n ≠ [] := by
 unfold aL
 rw [List.mem_filter, List.mem_range, decide_eq_true_eq, List.length_pos_iff]
theorem rP {D : Dk} {M : Rd} {R : an} {mx : bf} (h : my D M) (hD : dX R D mx) : cN D = (aL M).map fun n => ((n : Nat) : Int) := by
 have tr : ∀ a b c : Int, decide (a ≤ b) = true → decide (b ≤ c) = true → decide (a ≤ c) = true := fun a b c h1 h2 => by simp only [decide_eq_true_eq] at *; omega
 have to : ∀ a b : Int, (decide (a ≤ b) || decide (b ≤ a)) = true := fun a b => by simp only [Bool.or_eq_true, decide_eq_true_eq]; omega
 have hs1 : (cN D).Pairwise fun a b => decide (a ≤ b) = true := List.pairwise_mergeSort tr to _
 have hs2 : ((aL M).map fun n => ((n : Nat) : Int)).Pairwise fun a b => decide (a ≤ b) = true := by
  refine List.pairwise_map.2 ((List.pairwise_lt_range.filter _).imp fun q => ?_)
  simp only [decide_eq_true_eq]
  omega
 have hnd2 : ((aL M).map fun n => ((n : Nat) : Int)).Nodup := by
  refine List.pairwise_map.2 ((List.pairwise_lt_range.filter _).imp fun q => ?_)
  omega
 have hp : (cN D).Perm ((aL M).map fun n => ((n : Nat) : Int)) := by
  refine (List.perm_ext_iff_of_nodup (sU hD) hnd2).2 fun m => ?_
  rw [lO, List.mem_map, List.mem_map]
  constructor
  · rintro ⟨e, he, rfl⟩
    obtain ⟨h1, h2, _⟩ := hD.ok e he
    refine ⟨e.1.toNat, dU.2 ⟨by omega, ?_⟩, by omega⟩
    have h3 : aI D.fs e.1 = e.2 := by unfold aI; rw [kD hD.di.nd (v := e.2) he]; rfl
    have h4 := h.file e.1.toNat (by omega)
    rw [show ((e.1.toNat : Nat) : Int) = e.1 by omega, h3] at h4
    intro hz
    exact h2 (by rw [h4, hz])
  · rintro ⟨n, hn, rfl⟩
    obtain ⟨h1, h2⟩ := dU.1 hn
    have h4 := h.file n h1
    cases hg : bI ((n : Nat) : Int) D.fs with
    | none =>
     unfold aI at h4
     rw [hg] at h4
     injection h4 with h5 _
     exact absurd h5.symm h2
    | some f => exact ⟨_, fN hg, rfl⟩
 refine List.Perm.eq_of_pairwise (le := fun a b => decide (a ≤ b) = true) (fun a b _ _ h1 h2 => ?_) hs1 hs2 hp
 simp only [decide_eq_true_eq] at h1 h2
 omega
theorem vn {D : Dk} {M : Rd} {R : an} {mx : bf} (h : my D M) (hD : dX R D mx) (aq : List Int) (flip : Int) : dJ D aq flip = ca M aq flip := by
 have hf := rP h hD
 have hl : (cN D).length = (aL M).length := by rw [hf, List.length_map]
 have hc : iE D aq (cN D).length = aV M aq (aL M).length := by
  unfold iE aV
  rw [hl]
  refine List.map_congr_left fun i hi => ?_
  have hi := List.mem_range.1 hi
  have hn : nth (cN D) i = ((nth (aL M) i : Nat) : Int) := by
   rw [dw (by rw [hl]; exact hi), dw hi]
   simp only [hf, List.getElem_map]
  have hr := (dU.1 (dQ hi)).1
  unfold cutAt fW
  rw [hn, h.file _ hr]
  rfl
 unfold dJ ca
 rw [hc]
theorem po {D D' : Dk} {M : Rd} {R : an} {mx : bf} (h : my D M) (hD : dX R D mx) {aq : List Int} {flip : Int} (h1 : D'.room = D.room) (h2 : D'.off = false) (h3 : D'.armed = false) (h4 : ∀ m, aI D'.fs m = ((bI m (dJ D aq flip)).getD ⟨[], 0⟩).cX) : my D' (bU M aq flip) := by
 refine ⟨by rw [h1]; exact h.room, h2.symm, .inr ⟨h3, by show (-1 : Int) < 0; decide, by show (-2 : Int) ≤ -1; decide⟩, by unfold bU; simp, by unfold bU; simp, fun i hi => ?_⟩
 rw [h4, vn h hD]
 unfold bU
 simp only
 rw [cO _ hi, cO _ hi]
 rfl
theorem xO (R : an) (d bm : Nat) (D : Dk) (mx : bf) (n : Int) : Spec Tryz.prog false 9 #[Ptr d 0, I n] (bu d bm D mx R) fun v O' => O' = bu d bm (ng D n) mx R := by
 refine Spec.enter (args := [_, _]) (m := 18) Tryz.func9 rfl rfl (by decide +kernel) fun h0 => ?_
 refine WX.seq (WX.region rfl (zm rfl (zn rfl ?_)))
 first | refine ae.fieldAddr Met.none rfl Tryz.underlying62 rfl dm rfl ?_ | refine ae.bQ Met.none rfl Tryz.underlying62 rfl dm ?_
 first | refine ae.ld Met.none rfl cV ?_ | refine ae.ba Met.none rfl cV ?_
 refine ae.not Met.none rfl (ae.nil (Fin.aa ?_))
 refine WX.cond rfl (fun hc0 => ?_) (fun hc0 => ?_)
 · try simp only [aB] at hc0
   refine WX.region rfl (zm rfl (zm rfl (zm rfl (zb rfl rfl rfl (zm rfl (zn rfl ?_))))))
   first | refine ae.fieldAddr Met.none rfl Tryz.underlying62 rfl dm rfl ?_ | refine ae.bQ Met.none rfl Tryz.underlying62 rfl dm ?_
   refine ae.st (vs := [_]) (j := 0) Met.none rfl rfl rfl dm ?_ (hj := rfl)
   refine zn rfl ?_
   first | refine ae.fieldAddr Met.none rfl Tryz.underlying62 rfl cj rfl ?_ | refine ae.bQ Met.none rfl Tryz.underlying62 rfl cj ?_
   refine ae.st (vs := [_]) (j := 0) Met.none rfl rfl rfl cj ?_ (hj := rfl)
   refine ae.nil ?_
   first
   | exact Fin.result (O' := bu d bm { D with armed := decide (0 ≤ n), left := n } mx R) (.inl rfl) rfl rfl au (by unfold ng; rw [if_neg (by simp [hc0])])
   | exact Fin.result (O' := bu d bm D mx R) (.inl rfl) rfl rfl au (by unfold ng; rw [if_pos hc0])
 · try simp only [aB] at hc0
   refine WX.skip ?_
   first
   | exact Fin.result (O' := bu d bm { D with armed := decide (0 ≤ n), left := n } mx R) (.inl rfl) rfl rfl au (by unfold ng; rw [if_neg (by simp [hc0])])
   | exact Fin.result (O' := bu d bm D mx R) (.inl rfl) rfl rfl au (by unfold ng; rw [if_pos hc0])
theorem dX.arm {R : an} {D : Dk} {mx : bf} (h : dX R D mx) {n : Int} (hn : n < 9223372036854775808) : dX R (ng D n) mx := by
 unfold ng
 split
 · exact h
 · exact ⟨h.di, h.ok, h.room, (fun q => ⟨by simpa using q, hn⟩), h.used⟩
theorem dX.new {room : Int} (h : 0 ≤ room ∧ room ≤ 16777216) : dX [] ⟨room, false, false, 0, []⟩ .new := ⟨.new, (fun e he => by simp at he), h, (fun q => by cases q), h.1⟩
theorem pz (p k : Nat) : ∀ (l : List (Int × Fi)) (m : Int), (bI m (fU p k l) = none ∧ bI m l = none) ∨ ∃ f f', bI m l = some f ∧ bI m (fU p k l) = some f' ∧ f'.d = f.d ∧ f'.bs.length = f.bs.length ∧ f'.bs.take f.d.toNat = f.bs.take f.d.toNat
 | [], m => .inl ⟨rfl, rfl⟩
 | (n, f) :: l, m => by
  unfold fU
  by_cases hp : p < bp f
  · rw [if_pos hp]
    simp only [bI]
    by_cases hm : m = n
    · rw [if_pos hm, if_pos hm]
      refine .inr ⟨_, _, rfl, rfl, rfl, List.length_set, ?_⟩
      simp only
      rw [List.take_set_of_le (by omega)]
    · rw [if_neg hm, if_neg hm]
      rcases (show bI m l = none ∨ ∃ f, bI m l = some f from by cases bI m l <;> simp) with h | ⟨g, h⟩
      · exact .inl ⟨h, h⟩
      · exact .inr ⟨g, g, h, h, rfl, rfl, rfl⟩
  · rw [if_neg hp]
    simp only [bI]
    by_cases hm : m = n
    · rw [if_pos hm, if_pos hm]
      exact .inr ⟨_, _, rfl, rfl, rfl, rfl, rfl⟩
    · rw [if_neg hm, if_neg hm]
      exact pz (p - bp f) k l m
abbrev aW (r rb rf : Nat) (M : Rd) (vs : List Value) (R : an) : an := (r, ⟨0, false, [I M.room, Row rb 0 64 64, Row rf 0 64 64, .bool M.off, I M.cB]⟩) :: (rb, ⟨1, false, vs⟩) :: (rf, ⟨1, false, M.F.map I⟩) :: R
def lX (R : an) (v : Value) (x : List Int) : Prop := ∃ a c, v = .slice a x.length c ∧ bK R 1 a x.length (x.map B8) ∧ (a = none → c = 0) ∧ Bytes x
structure fJ (R : an) (M : Rd) (vs : List Value) : Prop where
 ib : vs.length = 64
 gM : M.B.length = 64
 eE : M.F.length = 64
 file : ∀ n, n < 64 → lX R (nth vs n) (nth M.B n)
 room : 0 ≤ M.room ∧ M.room ≤ 16777216
 used : fF M ≤ M.room
 cB : -2 ≤ M.cB ∧ M.cB < 9223372036854775808
 ka : ∀ n, n < 64 → 0 ≤ nth M.F n ∧ nth M.F n ≤ ((nth M.B n).length : Nat)
theorem nm {g : Nat → Int} (h : ∀ i, 0 ≤ g i) : ∀ n, 0 ≤ fg g n
 | 0 => Int.le_refl _
 | n + 1 => by
  have := nm h n
  have := h n
  unfold fg
  omega
theorem km {g : Nat → Int} (h : ∀ i, 0 ≤ g i) : ∀ {n i : Nat}, i ≤ n → fg g i ≤ fg g n
 | 0, i, hi => by
  have : i = 0 := by omega
  subst this
  exact Int.le_refl _
 | n + 1, i, hi => by
  by_cases q : i = n + 1
  · subst q; exact Int.le_refl _
  · have h1 := km h (n := n) (i := i) (by omega)
    have h2 := h n
    exact Int.le_trans h1 (by show fg g n ≤ fg g n + g n; omega)
theorem vz {g : Nat → Int} (h : ∀ i, 0 ≤ g i) {n i : Nat} (hi : i < n) : g i ≤ fg g n := by
 have h1 := km h (n := n) (i := i + 1) hi
 have h2 := nm h i
 have h3 : fg g (i + 1) = fg g i + g i := rfl
 omega
theorem jg (M : Rd) (i : Nat) : 0 ≤ bS M i := Int.natCast_nonneg _
theorem fJ.len {R : an} {M : Rd} {vs : List Value} (h : fJ R M vs) {n : Nat} (hn : n < 64) : (nth M.B n).length ≤ 16777216 := by
 have h1 : ((nth M.B n).length : Int) ≤ fF M := vz (jg M) hn
 have h2 := h.used
 have h3 := h.room
 omega
theorem lX.app {R N : an} {v : Value} {x : List Int} (h : lX R v x) : lX (N ++ R) v x := by
 obtain ⟨a, c, h1, h2, h3⟩ := h
 exact ⟨a, c, h1, h2.app, h3⟩
theorem fJ.app {R N : an} {M : Rd} {vs : List Value} (h : fJ R M vs) : fJ (N ++ R) M vs := ⟨h.ib, h.gM, h.eE, fun n hn => (h.file n hn).app, h.room, h.used, h.cB, h.ka⟩
theorem vV (R : an) {R0 : an} (r rb rf : Nat) (M : Rd) (vs : List Value) (h : fJ R0 M vs) : Spec Tryz.prog true 52 #[Ptr r 0] (aW r rb rf M vs R) fun v O' => v = I (fF M) ∧ O' = aW r rb rf M vs R := by
 refine Spec.enter (args := [_]) (m := 20) Tryz.func52 rfl rfl (by decide +kernel) fun h0 => ?_
 refine WX.seq (WX.region rfl (za rfl (zR rfl (za rfl (ae.nil (Fin.aa (WX.seq (WX.seq (WX.region rfl (za rfl (ae.nil (Fin.aa (WX.block ?_)))))))))))))
 refine WX.loop (fun i : Nat => [(0, Ptr r 0), (3, I (fg (bS M) i)), (4, I (i : Int))]) (fun _ => aW r rb rf M vs R) (fun i => i ≤ 64) (fun i => 64 - i) 0 (by decide) (fun s hs => hs.tl [] 0) (fun i hi => ?_)
 refine WX.seq (WX.seq (WX.region rfl (zm rfl (zb rfl rfl rfl (ae.nil (Fin.aa ?_))))))
 refine WX.cond rfl (fun hc0 => ?_) (fun hc0 => ?_)
 · try simp only [aB] at hc0
   refine WX.skip (Fin.aa (WX.seq (WX.block ?_)))
   have hi64 : i < 64 := by omega
   obtain ⟨a, c, ev, _⟩ := h.file i hi64
   have hv : vs[i]? = some (.slice a (nth M.B i).length c) := by rw [← ev]; exact dq (by rw [h.ib]; exact hi64)
   have hs1 := km (jg M) (n := 64) (i := i + 1) (by omega)
   have hs2 := nm (jg M) i
   have hs3 : fg (bS M) (i + 1) = fg (bS M) i + ((nth M.B i).length : Nat) := rfl
   have hu := h.used
   have hr := h.room
   unfold fF at hu
   refine WX.region rfl (zm rfl (zm rfl (zn rfl ?_)))
   first | refine ae.fieldAddr Met.none rfl Tryz.underlying50 rfl cG rfl ?_ | refine ae.bQ Met.none rfl Tryz.underlying50 rfl cG ?_
   first | refine ae.ld Met.none rfl bJ ?_ | refine ae.ba Met.none rfl bJ ?_
   refine zm rfl ?_
   first | refine ae.ix Met.none rfl rfl aR aO ?_ | refine ae.eG Met.none rfl rfl aR aO ?_
   first | refine ae.ld Met.none rfl aD ?_ (hv := hv) | refine ae.ba Met.none rfl aD ?_ (hv := hv)
   refine ae.len Met.none rfl Tryz.underlying39 (zb rfl rfl dH (za rfl (ae.nil (Fin.ag (Fin.aa (WX.region rfl (zm rfl (zb rfl rfl dH (za rfl (ae.nil ?_))))))))))
   exact Fin.aj (i + 1) (by omega) (by omega) (fun s hs => by rw [hs3]; exact hs.tl [] 0)
 · try simp only [aB] at hc0
   refine WX.exit (Fin.aF (Fin.aN (Fin.aK rfl (Fin.aa (WX.seq ?_)))))
   have hie : i = 64 := by omega
   rw [hie]
   refine WX.region rfl (zm rfl (za rfl (ae.nil (Fin.aa (WX.ret ?_)))))
   exact Fin.result (.inr rfl) rfl rfl au ⟨rfl, rfl⟩
theorem tw (R : an) {R0 : an} (r rb rf : Nat) (M : Rd) (vs : List Value) (h : fJ R0 M vs) : Spec Tryz.prog false 65 #[Ptr r 0] (aW r rb rf M vs R) fun v O' => v = .bool (ep M).off ∧ O' = aW r rb rf (ep M) vs R := by
 have hp := h.cB
 refine Spec.enter (args := [_]) (m := 24) Tryz.func65 rfl rfl (by decide +kernel) fun h0 => ?_
 refine WX.seq (WX.region rfl (za rfl (zR rfl (zm rfl (zm rfl (zn rfl ?_))))))
 first | refine ae.fieldAddr Met.none rfl Tryz.underlying50 rfl cj rfl ?_ | refine ae.bQ Met.none rfl Tryz.underlying50 rfl cj ?_
 first | refine ae.ld Met.none rfl bY ?_ | refine ae.ba Met.none rfl bY ?_
 refine zb rfl rfl nh ?_
 refine ae.max Met.none rfl rfl ?_
 refine zn rfl ?_
 first | refine ae.fieldAddr Met.none rfl Tryz.underlying50 rfl cj rfl ?_ | refine ae.bQ Met.none rfl Tryz.underlying50 rfl cj ?_
 refine ae.st (vs := [_]) (j := 0) Met.none rfl rfl rfl cj ?_ (hj := rfl)
 refine ae.nil (Fin.aa (WX.seq (WX.seq (WX.region rfl (zm rfl (zn rfl ?_))))))
 first | refine ae.fieldAddr Met.none rfl Tryz.underlying50 rfl cj rfl ?_ | refine ae.bQ Met.none rfl Tryz.underlying50 rfl cj ?_
 first | refine ae.ld Met.none rfl bY ?_ | refine ae.ba Met.none rfl bY ?_
 refine zb rfl rfl rfl (ae.nil (Fin.aa ?_))
 refine WX.cond rfl (fun hc0 => ?_) (fun hc0 => ?_)
 · try simp only [aB] at hc0
   refine WX.region rfl (zm rfl (zn rfl ?_))
   first | refine ae.fieldAddr Met.none rfl Tryz.underlying50 rfl dm rfl ?_ | refine ae.bQ Met.none rfl Tryz.underlying50 rfl dm ?_
   refine ae.st (vs := [_]) (j := 0) Met.none rfl rfl rfl dm ?_ (hj := rfl)
   refine zR rfl (zm rfl (zn rfl ?_))
   first | refine ae.fieldAddr Met.none rfl Tryz.underlying50 rfl dm rfl ?_ | refine ae.bQ Met.none rfl Tryz.underlying50 rfl dm ?_
   first | refine ae.ld Met.none rfl cV ?_ | refine ae.ba Met.none rfl cV ?_
   refine za rfl (ae.nil (Fin.aa (WX.ret ?_)))
   first
   | exact Fin.result (O' := aW r rb rf ⟨M.room, M.B, M.F, true, max (M.cB - 1) (-2)⟩ vs R) (.inr rfl) rfl rfl au (by
     have he : ep M = ⟨M.room, M.B, M.F, true, max (M.cB - 1) (-2)⟩ := by unfold ep; rw [decide_eq_true hc0, Bool.or_true]
     rw [he]
     exact ⟨rfl, rfl⟩)
   | exact Fin.result (O' := aW r rb rf ⟨M.room, M.B, M.F, M.off, max (M.cB - 1) (-2)⟩ vs R) (.inr rfl) rfl rfl au (by
     have he : ep M = ⟨M.room, M.B, M.F, M.off, max (M.cB - 1) (-2)⟩ := by unfold ep; rw [decide_eq_false hc0, Bool.or_false]
     rw [he]
     exact ⟨rfl, rfl⟩)
 · try simp only [aB] at hc0
   refine WX.skip (Fin.aa (WX.seq (WX.region rfl (zm rfl (zn rfl ?_)))))
   first | refine ae.fieldAddr Met.none rfl Tryz.underlying50 rfl dm rfl ?_ | refine ae.bQ Met.none rfl Tryz.underlying50 rfl dm ?_
   first | refine ae.ld Met.none rfl cV ?_ | refine ae.ba Met.none rfl cV ?_
   refine za rfl (ae.nil (Fin.aa (WX.ret ?_)))
   first
   | exact Fin.result (O' := aW r rb rf ⟨M.room, M.B, M.F, true, max (M.cB - 1) (-2)⟩ vs R) (.inr rfl) rfl rfl au (by
     have he : ep M = ⟨M.room, M.B, M.F, true, max (M.cB - 1) (-2)⟩ := by unfold ep; rw [decide_eq_true hc0, Bool.or_true]
     rw [he]
     exact ⟨rfl, rfl⟩)
   | exact Fin.result (O' := aW r rb rf ⟨M.room, M.B, M.F, M.off, max (M.cB - 1) (-2)⟩ vs R) (.inr rfl) rfl rfl au (by
     have he : ep M = ⟨M.room, M.B, M.F, M.off, max (M.cB - 1) (-2)⟩ := by unfold ep; rw [decide_eq_false hc0, Bool.or_false]
     rw [he]
     exact ⟨rfl, rfl⟩)
theorem nI (R : an) {R0 : an} (r rb rf : Nat) (M : Rd) (vs : List Value) (h : fJ R0 M vs) : Spec Tryz.prog false 47 #[Ptr r 0] (aW r rb rf M vs R) fun v O' => v = .bool (cg M).1 ∧ O' = aW r rb rf (cg M).2 vs R := by
 refine Spec.enter (args := [_]) (m := 10) Tryz.func47 rfl rfl (by decide +kernel) fun h0 => ?_
 refine WX.seq (WX.region rfl (za rfl (ae.nil (Fin.aa (WX.seq (WX.seq (WX.region rfl (zm rfl (zn rfl ?_)))))))))
 first | refine ae.fieldAddr Met.none rfl Tryz.underlying50 rfl cj rfl ?_ | refine ae.bQ Met.none rfl Tryz.underlying50 rfl cj ?_
 first | refine ae.ld Met.none rfl bY ?_ | refine ae.ba Met.none rfl bY ?_
 refine zb rfl rfl rfl (ae.nil (Fin.aa ?_))
 refine WX.cond rfl (fun hc0 => ?_) (fun hc0 => ?_)
 · try simp only [aB] at hc0
   refine WX.seq (WX.region rfl (za rfl (ae.nil (Fin.aa (WX.ret (Fin.az ?_))))))
   first
   | exact Fin.result (O' := aW r rb rf M vs R) (.inr rfl) rfl rfl au (by unfold cg; rw [if_pos hc0]; exact ⟨rfl, rfl⟩)
   | exact Fin.result (O' := aW r rb rf (ep M) vs R) (.inr rfl) rfl rfl au (by unfold cg; rw [if_neg (by omega)]; exact ⟨rfl, rfl⟩)
 · try simp only [aB] at hc0
   refine WX.skip (Fin.aa (WX.seq (WX.region rfl (zm rfl ?_))))
   refine ae.cl (O1 := _) Met.none rfl (ah Tryz.func65 (by decide +kernel)) rfl (fun _ h => h) (tw R r rb rf M vs h) (fun v O' hp => ?_)
   obtain ⟨rfl, hO⟩ := hp
   subst O'
   refine za rfl (ae.nil (Fin.aa (WX.ret ?_)))
   first
   | exact Fin.result (O' := aW r rb rf M vs R) (.inr rfl) rfl rfl au (by unfold cg; rw [if_pos hc0]; exact ⟨rfl, rfl⟩)
   | exact Fin.result (O' := aW r rb rf (ep M) vs R) (.inr rfl) rfl rfl au (by unfold cg; rw [if_neg (by omega)]; exact ⟨rfl, rfl⟩)
theorem ot (M : Rd) : (cg M).2.B = M.B ∧ (cg M).2.F = M.F ∧ (cg M).2.room = M.room := by
 unfold cg
 split <;> exact ⟨rfl, rfl, rfl⟩
theorem fJ.step {R : an} {M : Rd} {vs : List Value} (h : fJ R M vs) : fJ R (cg M).2 vs := by
 obtain ⟨h1, h2, h3⟩ := ot M
 refine ⟨h.ib, by rw [h1]; exact h.gM, by rw [h2]; exact h.eE, fun n hn => by rw [h1]; exact h.file n hn, by rw [h3]; exact h.room, ?_, ?_, fun n hn => by rw [h1, h2]; exact h.ka n hn⟩
 · have : fF (cg M).2 = fF M := by unfold fF bS; rw [h1]
   rw [this, h3]
   exact h.used
 · have := h.cB
   unfold cg ep
   split
   · exact this
   · simp only; omega
theorem w7 (R : an) (r rb rf : Nat) (M : Rd) (vs : List Value) (n : Int) : Spec Tryz.prog false 10 #[Ptr r 0, I n] (aW r rb rf M vs R) fun v O' => O' = aW r rb rf (oT M n) vs R := by
 refine Spec.enter (args := [_, _]) (m := 14) Tryz.func10 rfl rfl (by decide +kernel) fun h0 => ?_
 refine WX.seq (WX.region rfl (zm rfl (zn rfl ?_)))
 first | refine ae.fieldAddr Met.none rfl Tryz.underlying50 rfl dm rfl ?_ | refine ae.bQ Met.none rfl Tryz.underlying50 rfl dm ?_
 first | refine ae.ld Met.none rfl cV ?_ | refine ae.ba Met.none rfl cV ?_
 refine ae.not Met.none rfl (ae.nil (Fin.aa ?_))
 refine WX.cond rfl (fun hc0 => ?_) (fun hc0 => ?_)
 · try simp only [aB] at hc0
   refine WX.region rfl (zm rfl (zm rfl ?_))
   refine ae.max Met.none rfl rfl ?_
   refine zn rfl ?_
   first | refine ae.fieldAddr Met.none rfl Tryz.underlying50 rfl cj rfl ?_ | refine ae.bQ Met.none rfl Tryz.underlying50 rfl cj ?_
   refine ae.st (vs := [_]) (j := 0) Met.none rfl rfl rfl cj ?_ (hj := rfl)
   refine ae.nil ?_
   first
   | exact Fin.result (O' := aW r rb rf { M with cB := max n (-1) } vs R) (.inl rfl) rfl rfl au (by unfold oT; rw [if_neg (by simp [hc0])])
   | exact Fin.result (O' := aW r rb rf M vs R) (.inl rfl) rfl rfl au (by unfold oT; rw [if_pos hc0])
 · try simp only [aB] at hc0
   refine WX.skip ?_
   first
   | exact Fin.result (O' := aW r rb rf { M with cB := max n (-1) } vs R) (.inl rfl) rfl rfl au (by unfold oT; rw [if_neg (by simp [hc0])])
   | exact Fin.result (O' := aW r rb rf M vs R) (.inl rfl) rfl rfl au (by unfold oT; rw [if_pos hc0])
theorem fJ.arm {R : an} {M : Rd} {vs : List Value} (h : fJ R M vs) {n : Int} (hn : n < 9223372036854775808) : fJ R (oT M n) vs := by
 unfold oT
 split
 · exact h
 · exact ⟨h.ib, h.gM, h.eE, h.file, h.room, h.used, ⟨by show -2 ≤ max n (-1); omega, by show max n (-1) < _; omega⟩, h.ka⟩
theorem jt {c : List Value} {k : Nat} {v : Value} (h : k < c.length) : dj c k [v] = c.set k v := by
 have := gg (fun x : Value => x) c k v h
 rw [List.map_id'', List.map_id''] at this
 · exact this
 · exact fun _ => rfl
 · exact fun _ => rfl
def iX (room : Int) : Rd := ⟨room, List.replicate 64 [], List.replicate 64 0, false, -1⟩
def xg : List Value := List.replicate 64 (.slice none 0 0)
theorem dS {α : Type} [Inhabited α] {a : α} {n i : Nat} (h : i < n) : nth (List.replicate n a) i = a := by
 rw [dw (by rw [List.length_replicate]; exact h), List.getElem_replicate]
theorem fJ.new {room : Int} (h : 0 ≤ room ∧ room ≤ 16777216) : fJ [] (iX room) xg := by
 refine ⟨by unfold xg; simp, by unfold iX; simp, by unfold iX; simp, fun n hn => ?_, h, ?_, ⟨by show (-2 : Int) ≤ -1; decide, by show (-1 : Int) < _; decide⟩, fun n hn => ?_⟩
 · unfold xg iX
   simp only
   rw [dS hn, dS hn]
   exact ⟨none, 0, rfl, .inl ⟨rfl, rfl, rfl⟩, fun _ => rfl, fun x hx => by simp at hx⟩
 · have : fF (iX room) = fg (fun _ => 0) 64 := gj fun i hi => by
     unfold bS iX
     simp only
     rw [dS hi]
     rfl
   rw [this]
   exact h.1
 · unfold iX
   simp only
   rw [dS hn, dS hn]
   exact ⟨Int.le_refl _, Int.le_refl _⟩
theorem wY (O : an) (room : Int) : Spec Tryz.prog false 6 #[I room] O fun v O' => ∃ r rb rf, v = Ptr r 0 ∧ O' = aW r rb rf (iX room) xg O := by
 refine Spec.enter (args := [_]) (m := 8) Tryz.func6 rfl rfl (by decide +kernel) fun h0 => ?_
 refine WX.seq (WX.region rfl (za rfl (ae.nil (Fin.aa (WX.seq ?_)))))
 refine WX.draw rfl ?_
 refine zm rfl ?_
 refine ae.makeSlice Met.none rfl rfl aR aO wS kf (by omega) (by omega) (by omega) rfl (by decide) (by first | rw [Int.toNat_natCast] | exact rfl) (rW _ _) (fun b4 => ?_)
 refine ae.makeSlice Met.none rfl rfl bj cj yp ij (by omega) (by omega) (by omega) rfl (by decide) (by first | rw [Int.toNat_natCast] | exact rfl) (by first | exact nC I 0 _ | exact nC Value.bool false _ | exact rfl) (fun b5 => ?_)
 refine ae.build (c := [_, _, _, _, _]) Met.none rfl yd vp rfl ?_
 refine ae.box (c := [_, _, _, _, _]) Met.none rfl rfl rfl (fun b7 => ?_)
 refine za rfl (ae.nil (Fin.aa (WX.ret ?_)))
 exact Fin.result (O' := aW b7 b4 b5 (iX room) xg O) (.inr rfl) rfl rfl (fun _ hs => hs.tl [0, 2, 1] 3) ⟨b7, b4, b5, rfl, rfl⟩
theorem tP {M : Rd} {k : Nat} (hk : k < 64) (hl : M.B.length = 64) (x : List Int) (F : List Int) (off : Bool) (p : Int) : fF ⟨M.room, M.B.set k x, F, off, p⟩ = fF M + (x.length : Nat) - bS M k := by
 have : fF ⟨M.room, M.B.set k x, F, off, p⟩ = fg (fun i => if i = k then ((x.length : Nat) : Int) else bS M i) 64 := gj fun i hi => by
  show (((nth (M.B.set k x) i).length : Nat) : Int) = _
  rw [bZ (by rw [hl]; exact hk)]
  split <;> rfl
 rw [this, nF, if_pos hk]
 unfold fF
 omega
theorem fJ.set {R : an} {M : Rd} {vs : List Value} (h : fJ R M vs) {k : Nat} (hk : k < 64) {v : Value} {x : List Int} {F : List Int} {off : Bool} {p : Int} (hv : lX R v x) (hu : fF M + (x.length : Nat) - bS M k ≤ M.room) (hF : F.length = 64) (hp : -2 ≤ p ∧ p < 9223372036854775808)
  (hf : ∀ n, n < 64 → 0 ≤ nth F n ∧ nth F n ≤ ((nth (M.B.set k x) n).length : Nat)) : fJ R ⟨M.room, M.B.set k x, F, off, p⟩ (vs.set k v) := by
 refine ⟨by rw [List.length_set]; exact h.ib, by simp only [List.length_set]; exact h.gM, hF, fun n hn => ?_, h.room, by rw [tP hk h.gM]; exact hu, hp, hf⟩
 simp only
 rw [bZ (by rw [h.ib]; exact hk), bZ (by rw [h.gM]; exact hk)]
 split
 · exact hv
 · exact h.file n hn
theorem sb (R : an) {R0 : an} (r rb rf : Nat) (M : Rd) (vs : List Value) (file : Int) (b : List Int) (ab : Option Addr) (cb : Nat) (h : fJ R0 M vs) (hi : ∀ g, Sat g R → Sat g R0) (hb : Src R 1 (.slice ab b.length cb) b.length (b.map B8)) (hBb : Bytes b) (hbl : b.length ≤ 4611686018427387904) :
  Spec Tryz.prog false 37 #[Ptr r 0, I file, .slice ab b.length cb] (aW r rb rf M vs R) fun v O' => ∃ vs' N, v = I (aE M file b).1 ∧ O' = aW r rb rf (aE M file b).2 vs' (N ++ R) ∧ fJ (N ++ R0) (aE M file b).2 vs' := by
 have hu := h.used
 have hr := h.room
 have hun := nm (jg M) 64
 have hun : 0 ≤ fF M := hun
 refine Spec.enter (args := [_, _, _]) (m := 50) Tryz.func37 rfl rfl (by decide +kernel) fun h0 => ?_
 refine WX.seq (WX.region rfl (za rfl (ae.nil (Fin.aa (WX.seq (WX.seq (WX.region rfl (zm rfl (zb rfl rfl rfl (zm rfl ?_))))))))))
 refine ae.split (d := 11) rfl (fun hg11 => ?_) (fun hg11 => ?_)
 · try simp only [aB] at hg11
   refine zs 2 11 rfl rfl rfl (zs 2 11 rfl rfl rfl (ae.bD Met.none rfl rfl (ae.nil (Fin.aa ?_))))
   refine WX.cond rfl (fun hc0 => ?_) (fun hc0 => nomatch hc0)
   refine WX.seq (WX.region rfl (za rfl (ae.nil (Fin.aa (WX.ret (Fin.az ?_))))))
   first
   | exact Fin.result (O' := aW r rb rf M vs ([] ++ R)) (.inr rfl) rfl rfl au (by unfold aE; rw [if_pos (by omega)]; exact ⟨vs, [], rfl, rfl, h⟩)
   | exact Fin.result (O' := aW r rb rf M vs ([] ++ R)) (.inr rfl) rfl rfl au (by unfold aE; rw [if_neg (by omega), if_pos (by assumption)]; exact ⟨vs, [], rfl, rfl, h⟩)
   | exact Fin.result (O' := aW r rb rf M vs ([] ++ R)) (.inr rfl) rfl rfl au (by unfold aE; rw [if_neg (by omega), if_neg (by simp [hc1]), if_pos (by omega)]; exact ⟨vs, [], rfl, rfl, h⟩)
   | exact Fin.result (O' := aW r rb rf (cg (cR M file b)).2 _ (G45 ++ R)) (.inr rfl) rfl rfl au (by unfold aE; rw [if_neg (by omega), if_neg (by simp [hc1]), if_neg (by omega), if_pos hc3]; exact ⟨_, G45, rfl, rfl, hI.step⟩)
   | exact Fin.result (O' := aW r rb rf (cg (cR M file b)).2 _ (G45 ++ R)) (.inr rfl) rfl rfl au (by unfold aE; rw [if_neg (by omega), if_neg (by simp [hc1]), if_neg (by omega), if_neg (by simp [hc3])]; exact ⟨_, G45, rfl, rfl, hI.step⟩)
 · try simp only [aB] at hg11
   refine ae.move (Met.some rfl rfl rfl) rfl (ae.bin (Met.some rfl rfl rfl) rfl rfl rfl (ae.bd Met.none rfl rfl (ae.nil (Fin.aa ?_))))
   refine WX.cond rfl (fun hc0 => ?_) (fun hc0 => ?_)
   · try simp only [aB] at hc0
     refine WX.seq (WX.region rfl (za rfl (ae.nil (Fin.aa (WX.ret (Fin.az ?_))))))
     first
     | exact Fin.result (O' := aW r rb rf M vs ([] ++ R)) (.inr rfl) rfl rfl au (by unfold aE; rw [if_pos (by omega)]; exact ⟨vs, [], rfl, rfl, h⟩)
     | exact Fin.result (O' := aW r rb rf M vs ([] ++ R)) (.inr rfl) rfl rfl au (by unfold aE; rw [if_neg (by omega), if_pos (by assumption)]; exact ⟨vs, [], rfl, rfl, h⟩)
     | exact Fin.result (O' := aW r rb rf M vs ([] ++ R)) (.inr rfl) rfl rfl au (by unfold aE; rw [if_neg (by omega), if_neg (by simp [hc1]), if_pos (by omega)]; exact ⟨vs, [], rfl, rfl, h⟩)
     | exact Fin.result (O' := aW r rb rf (cg (cR M file b)).2 _ (G45 ++ R)) (.inr rfl) rfl rfl au (by unfold aE; rw [if_neg (by omega), if_neg (by simp [hc1]), if_neg (by omega), if_pos hc3]; exact ⟨_, G45, rfl, rfl, hI.step⟩)
     | exact Fin.result (O' := aW r rb rf (cg (cR M file b)).2 _ (G45 ++ R)) (.inr rfl) rfl rfl au (by unfold aE; rw [if_neg (by omega), if_neg (by simp [hc1]), if_neg (by omega), if_neg (by simp [hc3])]; exact ⟨_, G45, rfl, rfl, hI.step⟩)
   · try simp only [aB] at hc0
     refine WX.skip (Fin.aa (WX.seq (WX.seq (WX.region rfl (zm rfl (zn rfl ?_))))))
     first | refine ae.fieldAddr Met.none rfl Tryz.underlying50 rfl dm rfl ?_ | refine ae.bQ Met.none rfl Tryz.underlying50 rfl dm ?_
     first | refine ae.ld Met.none rfl cV ?_ | refine ae.ba Met.none rfl cV ?_
     refine ae.nil (Fin.aa ?_)
     refine WX.cond rfl (fun hc1 => ?_) (fun hc1 => ?_)
     · try simp only [aB] at hc1
       refine WX.seq (WX.region rfl (za rfl (ae.nil (Fin.aa (WX.ret (Fin.az ?_))))))
       first
       | exact Fin.result (O' := aW r rb rf M vs ([] ++ R)) (.inr rfl) rfl rfl au (by unfold aE; rw [if_pos (by omega)]; exact ⟨vs, [], rfl, rfl, h⟩)
       | exact Fin.result (O' := aW r rb rf M vs ([] ++ R)) (.inr rfl) rfl rfl au (by unfold aE; rw [if_neg (by omega), if_pos (by assumption)]; exact ⟨vs, [], rfl, rfl, h⟩)
       | exact Fin.result (O' := aW r rb rf M vs ([] ++ R)) (.inr rfl) rfl rfl au (by unfold aE; rw [if_neg (by omega), if_neg (by simp [hc1]), if_pos (by omega)]; exact ⟨vs, [], rfl, rfl, h⟩)
       | exact Fin.result (O' := aW r rb rf (cg (cR M file b)).2 _ (G45 ++ R)) (.inr rfl) rfl rfl au (by unfold aE; rw [if_neg (by omega), if_neg (by simp [hc1]), if_neg (by omega), if_pos hc3]; exact ⟨_, G45, rfl, rfl, hI.step⟩)
       | exact Fin.result (O' := aW r rb rf (cg (cR M file b)).2 _ (G45 ++ R)) (.inr rfl) rfl rfl au (by unfold aE; rw [if_neg (by omega), if_neg (by simp [hc1]), if_neg (by omega), if_neg (by simp [hc3])]; exact ⟨_, G45, rfl, rfl, hI.step⟩)
     · try simp only [aB] at hc1
       refine WX.skip (Fin.aa (WX.seq (WX.seq ?_)))
       refine WX.draw rfl ?_
       refine zm rfl ?_
       refine ae.cl (O1 := _) Met.none rfl (ah Tryz.func52 (by decide +kernel)) rfl (fun _ h => h) (vV R r rb rf M vs h) (fun v O' hp => ?_)
       obtain ⟨rfl, hO⟩ := hp
       subst O'
       refine zm rfl (ae.len Met.none rfl Tryz.underlying39 (zb rfl rfl dH (zm rfl (zn rfl ?_))))
       first | refine ae.fieldAddr Met.none rfl Tryz.underlying50 rfl cj rfl ?_ | refine ae.bQ Met.none rfl Tryz.underlying50 rfl cj ?_
       first | refine ae.ld Met.none rfl bY ?_ | refine ae.ba Met.none rfl bY ?_
       refine zb rfl rfl rfl (ae.nil (Fin.aa ?_))
       refine WX.cond rfl (fun hc2 => ?_) (fun hc2 => ?_)
       · try simp only [aB] at hc2
         refine WX.seq (WX.region rfl (za rfl (ae.nil (Fin.aa (WX.ret (Fin.az ?_))))))
         first
         | exact Fin.result (O' := aW r rb rf M vs ([] ++ R)) (.inr rfl) rfl rfl au (by unfold aE; rw [if_pos (by omega)]; exact ⟨vs, [], rfl, rfl, h⟩)
         | exact Fin.result (O' := aW r rb rf M vs ([] ++ R)) (.inr rfl) rfl rfl au (by unfold aE; rw [if_neg (by omega), if_pos (by assumption)]; exact ⟨vs, [], rfl, rfl, h⟩)
         | exact Fin.result (O' := aW r rb rf M vs ([] ++ R)) (.inr rfl) rfl rfl au (by unfold aE; rw [if_neg (by omega), if_neg (by simp [hc1]), if_pos (by omega)]; exact ⟨vs, [], rfl, rfl, h⟩)
         | exact Fin.result (O' := aW r rb rf (cg (cR M file b)).2 _ (G45 ++ R)) (.inr rfl) rfl rfl au (by unfold aE; rw [if_neg (by omega), if_neg (by simp [hc1]), if_neg (by omega), if_pos hc3]; exact ⟨_, G45, rfl, rfl, hI.step⟩)
         | exact Fin.result (O' := aW r rb rf (cg (cR M file b)).2 _ (G45 ++ R)) (.inr rfl) rfl rfl au (by unfold aE; rw [if_neg (by omega), if_neg (by simp [hc1]), if_neg (by omega), if_neg (by simp [hc3])]; exact ⟨_, G45, rfl, rfl, hI.step⟩)
       · try simp only [aB] at hc2
         refine WX.skip (Fin.aa (WX.seq (WX.region rfl (za rfl (ae.nil (Fin.aa (WX.seq ?_)))))))
         have hk : file.toNat < 64 := by omega
         obtain ⟨fa, fc, hfv, hrow0, hnil, hB⟩ := h.file _ hk
         have hrow := hrow0.inc hi
         have hfl := h.len hk
         have hv : vs[file.toNat]? = some (.slice fa (nth M.B file.toNat).length fc) := by rw [← hfv]; exact dq (by rw [h.ib]; exact hk)
         refine WX.region rfl (zm rfl (zm rfl (zn rfl ?_)))
         first | refine ae.fieldAddr Met.none rfl Tryz.underlying50 rfl cG rfl ?_ | refine ae.bQ Met.none rfl Tryz.underlying50 rfl cG ?_
         first | refine ae.ld Met.none rfl bJ ?_ | refine ae.ba Met.none rfl bJ ?_
         refine zm rfl ?_
         first | refine ae.ix Met.none rfl rfl aR aO ?_ | refine ae.eG Met.none rfl rfl aR aO ?_
         first | refine ae.ld Met.none rfl aD ?_ (hv := hv) | refine ae.ba Met.none rfl aD ?_ (hv := hv)
         refine ae.mH ([]) Met.none rfl rfl dM aQ ec qt dz (Src.cons (Src.cons (Src.cons (hrow.src hnil)))) (fun a37 c37 G37 hG37 => ?_) (hm := (by rw [List.length_map]; omega)) (hg := (Grow.nil (sz := 1)))
         refine za rfl (ae.nil (Fin.aa (WX.seq ?_)))
         refine WX.re (O' := aW r rb rf M vs (G37 ++ R)) ?_
         refine WX.draw rfl ?_
         refine zm rfl (zn rfl ?_)
         first | refine ae.fieldAddr Met.none rfl Tryz.underlying50 rfl cG rfl ?_ | refine ae.bQ Met.none rfl Tryz.underlying50 rfl cG ?_
         first | refine ae.ld Met.none rfl bJ ?_ | refine ae.ba Met.none rfl bJ ?_
         refine zm rfl (zm rfl (zm rfl ?_))
         refine ae.mH [_, _, _] Met.none rfl rfl dM aQ ec qt dz (Src.cons (Src.cons (Src.cons (Src.app hb)))) (fun a45 c45 G45 hG45 => ?_) (hm := (by rw [List.length_map]; omega))
         first | refine ae.ix Met.none rfl rfl aR aO ?_ | refine ae.eG Met.none rfl rfl aR aO ?_
         refine ae.st (vs := [_]) (j := 1) Met.none rfl rfl rfl aO ?_ (hj := rfl) (hl := (by show file.toNat + 1 ≤ vs.length; rw [h.ib]; omega)) (hc := (jt (by rw [h.ib]; exact hk)))
         refine ae.nil (Fin.aa (WX.seq ?_))
         have hx : 0 + (nth M.B file.toNat).length + b.length = (nth M.B file.toNat ++ b).length := by rw [List.length_append]; omega
         have hvn : lX (G45 ++ R0) (.slice a45 (0 + (nth M.B file.toNat).length + b.length) c45) (nth M.B file.toNat ++ b) := by
          have h1 := hG45.oK (R := R0)
          rw [List.nil_append, ← List.map_append, hx] at h1
          rw [hx]
          exact ⟨a45, c45, rfl, h1, fun q => (hG45.eh q).1, fun y hy => by
           rcases List.mem_append.1 hy with q | q
           · exact hB y q
           · exact hBb y q⟩
         have hI : fJ (G45 ++ R0) (cR M file b) (vs.set file.toNat (.slice a45 (0 + (nth M.B file.toNat).length + b.length) c45)) := (h.app (N := G45)).set hk hvn (by unfold bS; rw [List.length_append]; omega) h.eE h.cB (fun n hn => by
          have h1 := h.ka n hn
          rw [bZ (by rw [h.gM]; exact hk)]
          split
          · rename_i q; subst q; rw [List.length_append]; omega
          · exact h1)
         refine WX.region rfl (zm rfl ?_)
         refine ae.cl (O1 := _) Met.none rfl (ah Tryz.func47 (by decide +kernel)) rfl (fun _ h => h) (nI (G45 ++ R) r rb rf (cR M file b) _ hI) (fun v O' hp => ?_)
         obtain ⟨rfl, hO⟩ := hp
         subst O'
         refine za rfl (ae.nil (Fin.aa (WX.seq (WX.seq (WX.region rfl (zm rfl (ae.nil (Fin.aa ?_))))))))
         refine WX.cond rfl (fun hc3 => ?_) (fun hc3 => ?_)
         · try simp only [aB] at hc3
           refine WX.seq (WX.region rfl (za rfl (ae.nil (Fin.aa (WX.ret (Fin.az ?_))))))
           first
           | exact Fin.result (O' := aW r rb rf M vs ([] ++ R)) (.inr rfl) rfl rfl au (by unfold aE; rw [if_pos (by omega)]; exact ⟨vs, [], rfl, rfl, h⟩)
           | exact Fin.result (O' := aW r rb rf M vs ([] ++ R)) (.inr rfl) rfl rfl au (by unfold aE; rw [if_neg (by omega), if_pos (by assumption)]; exact ⟨vs, [], rfl, rfl, h⟩)
           | exact Fin.result (O' := aW r rb rf M vs ([] ++ R)) (.inr rfl) rfl rfl au (by unfold aE; rw [if_neg (by omega), if_neg (by simp [hc1]), if_pos (by omega)]; exact ⟨vs, [], rfl, rfl, h⟩)
           | exact Fin.result (O' := aW r rb rf (cg (cR M file b)).2 _ (G45 ++ R)) (.inr rfl) rfl rfl au (by unfold aE; rw [if_neg (by omega), if_neg (by simp [hc1]), if_neg (by omega), if_pos hc3]; exact ⟨_, G45, rfl, rfl, hI.step⟩)
           | exact Fin.result (O' := aW r rb rf (cg (cR M file b)).2 _ (G45 ++ R)) (.inr rfl) rfl rfl au (by unfold aE; rw [if_neg (by omega), if_neg (by simp [hc1]), if_neg (by omega), if_neg (by simp [hc3])]; exact ⟨_, G45, rfl, rfl, hI.step⟩)
         · try simp only [aB] at hc3
           refine WX.skip (Fin.aa (WX.seq (WX.region rfl (za rfl (ae.nil (Fin.aa (WX.ret ?_)))))))
           first
           | exact Fin.result (O' := aW r rb rf M vs ([] ++ R)) (.inr rfl) rfl rfl au (by unfold aE; rw [if_pos (by omega)]; exact ⟨vs, [], rfl, rfl, h⟩)
           | exact Fin.result (O' := aW r rb rf M vs ([] ++ R)) (.inr rfl) rfl rfl au (by unfold aE; rw [if_neg (by omega), if_pos (by assumption)]; exact ⟨vs, [], rfl, rfl, h⟩)
           | exact Fin.result (O' := aW r rb rf M vs ([] ++ R)) (.inr rfl) rfl rfl au (by unfold aE; rw [if_neg (by omega), if_neg (by simp [hc1]), if_pos (by omega)]; exact ⟨vs, [], rfl, rfl, h⟩)
           | exact Fin.result (O' := aW r rb rf (cg (cR M file b)).2 _ (G45 ++ R)) (.inr rfl) rfl rfl au (by unfold aE; rw [if_neg (by omega), if_neg (by simp [hc1]), if_neg (by omega), if_pos hc3]; exact ⟨_, G45, rfl, rfl, hI.step⟩)
           | exact Fin.result (O' := aW r rb rf (cg (cR M file b)).2 _ (G45 ++ R)) (.inr rfl) rfl rfl au (by unfold aE; rw [if_neg (by omega), if_neg (by simp [hc1]), if_neg (by omega), if_neg (by simp [hc3])]; exact ⟨_, G45, rfl, rfl, hI.step⟩)
def eM (M : Rd) (i : Nat) : List Int := (List.range i).map (bS M) ++ M.F.drop i
theorem kK {M : Rd} (h : M.F.length = 64) {i : Nat} (hi : i ≤ 64) : (eM M i).length = 64 := by
 unfold eM
 rw [List.length_append, List.length_map, List.length_range, List.length_drop]
 omega
theorem kr {M : Rd} (h : M.F.length = 64) {i : Nat} (hi : i < 64) : (eM M i).set i (bS M i) = eM M (i + 1) := by
 unfold eM
 rw [List.set_append_right _ _ (by simp)]
 simp only [List.length_map, List.length_range, Nat.sub_self]
 rw [List.drop_eq_getElem_cons (by omega), List.set_cons_zero, List.range_succ, List.map_append]
 simp
theorem kE {M : Rd} (h : M.F.length = 64) : eM M 64 = (List.range 64).map (bS M) := by
 unfold eM
 rw [List.drop_of_length_le (by omega), List.append_nil]
theorem fJ.rT {R : an} {M : Rd} {vs : List Value} (h : fJ R M vs) : fJ R (mi M) vs :=
 ⟨h.ib, h.gM, by unfold mi; simp, h.file, h.room, h.used, h.cB, fun n hn => by
  unfold mi
  simp only
  rw [cO _ hn]
  exact ⟨jg M n, Int.le_refl _⟩⟩
theorem kn (R : an) {R0 : an} (r rb rf : Nat) (M : Rd) (vs : List Value) (h : fJ R0 M vs) : Spec Tryz.prog false 28 #[Ptr r 0] (aW r rb rf M vs R) fun v O' => v = I (bt M).1 ∧ O' = aW r rb rf (bt M).2 vs R ∧ fJ R0 (bt M).2 vs := by
 refine Spec.enter (args := [_]) (m := 30) Tryz.func28 rfl rfl (by decide +kernel) fun h0 => ?_
 refine WX.seq (WX.region rfl (za rfl (ae.nil (Fin.aa (WX.seq (WX.seq (WX.region rfl (zm rfl (zn rfl ?_)))))))))
 first | refine ae.fieldAddr Met.none rfl Tryz.underlying50 rfl dm rfl ?_ | refine ae.bQ Met.none rfl Tryz.underlying50 rfl dm ?_
 first | refine ae.ld Met.none rfl cV ?_ | refine ae.ba Met.none rfl cV ?_
 refine ae.nil (Fin.aa ?_)
 refine WX.cond rfl (fun hc0 => ?_) (fun hc0 => ?_)
 · try simp only [aB] at hc0
   refine WX.seq (WX.region rfl (za rfl (ae.nil (Fin.aa (WX.ret (Fin.az ?_))))))
   first
   | exact Fin.result (O' := aW r rb rf M vs R) (.inr rfl) rfl rfl au (by unfold bt; rw [if_pos (by assumption)]; exact ⟨rfl, rfl, h⟩)
   | exact Fin.result (O' := aW r rb rf (cg M).2 vs R) (.inr rfl) rfl rfl au (by unfold bt; rw [if_neg (by simp [hc0]), if_pos hc1]; exact ⟨rfl, rfl, h.step⟩)
   | exact Fin.result (O' := aW r rb rf (mi M2) vs R) (.inr rfl) rfl rfl au (by unfold bt; rw [if_neg (by simp [hc0]), if_neg (by simp [hc1]), ← hM2]; exact ⟨rfl, rfl, h2.rT⟩)
 · try simp only [aB] at hc0
   refine WX.skip (Fin.aa (WX.seq (WX.region rfl (zm rfl ?_))))
   refine ae.cl (O1 := _) Met.none rfl (ah Tryz.func47 (by decide +kernel)) rfl (fun _ h => h) (nI R r rb rf M vs h) (fun v O' hp => ?_)
   obtain ⟨rfl, hO⟩ := hp
   subst O'
   refine za rfl (ae.nil (Fin.aa (WX.seq (WX.seq (WX.region rfl (zm rfl (ae.nil (Fin.aa ?_))))))))
   refine WX.cond rfl (fun hc1 => ?_) (fun hc1 => ?_)
   · try simp only [aB] at hc1
     refine WX.seq (WX.region rfl (za rfl (ae.nil (Fin.aa (WX.ret (Fin.az ?_))))))
     first
     | exact Fin.result (O' := aW r rb rf M vs R) (.inr rfl) rfl rfl au (by unfold bt; rw [if_pos (by assumption)]; exact ⟨rfl, rfl, h⟩)
     | exact Fin.result (O' := aW r rb rf (cg M).2 vs R) (.inr rfl) rfl rfl au (by unfold bt; rw [if_neg (by simp [hc0]), if_pos hc1]; exact ⟨rfl, rfl, h.step⟩)
     | exact Fin.result (O' := aW r rb rf (mi M2) vs R) (.inr rfl) rfl rfl au (by unfold bt; rw [if_neg (by simp [hc0]), if_neg (by simp [hc1]), ← hM2]; exact ⟨rfl, rfl, h2.rT⟩)
   · try simp only [aB] at hc1
     refine WX.skip (Fin.aa (WX.seq (WX.seq (WX.region rfl (za rfl (ae.nil (Fin.aa (WX.block ?_))))))))
     obtain ⟨M2, hM2⟩ : ∃ M2, M2 = (cg M).2 := ⟨_, rfl⟩
     have h2 : fJ R0 M2 vs := hM2 ▸ h.step
     rw [← hM2]
     refine WX.re (O' := aW r rb rf ⟨M2.room, M2.B, eM M2 0, M2.off, M2.cB⟩ vs R) ?_ (fun _ hs => hs)
     refine WX.loop (fun i : Nat => [(0, Ptr r 0), (4, I (i : Int))]) (fun i => aW r rb rf ⟨M2.room, M2.B, eM M2 i, M2.off, M2.cB⟩ vs R) (fun i => i ≤ 64) (fun i => 64 - i) 0 (by decide) (fun s hs => hs.tl [] 0) (fun i hi => ?_)
     refine WX.seq (WX.seq (WX.region rfl (zm rfl (zb rfl rfl rfl (ae.nil (Fin.aa ?_))))))
     refine WX.cond rfl (fun hc2 => ?_) (fun hc2 => ?_)
     · try simp only [aB] at hc2
       refine WX.skip (Fin.aa (WX.seq (WX.block ?_)))
       have hi64 : i < 64 := by omega
       obtain ⟨a, c, ev, _⟩ := h2.file i hi64
       have hv : vs[i]? = some (.slice a (nth M2.B i).length c) := by rw [← ev]; exact dq (by rw [h2.ib]; exact hi64)
       have hfl := kK h2.eE (i := i) (by omega)
       refine WX.draw rfl ?_
       refine zm rfl (zn rfl ?_)
       first | refine ae.fieldAddr Met.none rfl Tryz.underlying50 rfl gG rfl ?_ | refine ae.bQ Met.none rfl Tryz.underlying50 rfl gG ?_
       first | refine ae.ld Met.none rfl dV ?_ | refine ae.ba Met.none rfl dV ?_
       refine zm rfl (zm rfl (zn rfl ?_))
       first | refine ae.fieldAddr Met.none rfl Tryz.underlying50 rfl cG rfl ?_ | refine ae.bQ Met.none rfl Tryz.underlying50 rfl cG ?_
       first | refine ae.ld Met.none rfl bJ ?_ | refine ae.ba Met.none rfl bJ ?_
       refine zm rfl ?_
       first | refine ae.ix Met.none rfl rfl aR aO ?_ | refine ae.eG Met.none rfl rfl aR aO ?_
       first | refine ae.ld Met.none rfl aD ?_ (hv := hv) | refine ae.ba Met.none rfl aD ?_ (hv := hv)
       refine ae.len Met.none rfl Tryz.underlying39 ?_
       first | refine ae.ix Met.none rfl rfl bj cj ?_ | refine ae.eG Met.none rfl rfl bj cj ?_
       refine ae.st (vs := [_]) (j := 2) Met.none rfl rfl rfl cj ?_ (hj := rfl) (hl := (by rw [List.length_map, hfl]; show i + 1 ≤ 64; omega)) (hc := (gg I _ i (bS M2 i) (by rw [hfl]; exact hi64)))
       refine ae.nil (Fin.ag (Fin.aa (WX.region rfl (zm rfl (zb rfl rfl dH (za rfl (ae.nil ?_)))))))
       exact Fin.aj (i + 1) (by omega) (by omega) (fun s hs => by rw [← kr h2.eE hi64]; exact hs.tl [] 0)
     · try simp only [aB] at hc2
       refine WX.exit (Fin.aF (Fin.aN (Fin.aK rfl (Fin.aa (WX.seq ?_)))))
       have hie : i = 64 := by omega
       rw [hie, kE h2.eE]
       refine WX.region rfl (za rfl (ae.nil (Fin.aa (WX.ret ?_))))
       first
       | exact Fin.result (O' := aW r rb rf M vs R) (.inr rfl) rfl rfl au (by unfold bt; rw [if_pos (by assumption)]; exact ⟨rfl, rfl, h⟩)
       | exact Fin.result (O' := aW r rb rf (cg M).2 vs R) (.inr rfl) rfl rfl au (by unfold bt; rw [if_neg (by simp [hc0]), if_pos hc1]; exact ⟨rfl, rfl, h.step⟩)
       | exact Fin.result (O' := aW r rb rf (mi M2) vs R) (.inr rfl) rfl rfl au (by unfold bt; rw [if_neg (by simp [hc0]), if_neg (by simp [hc1]), ← hM2]; exact ⟨rfl, rfl, h2.rT⟩)
theorem tH (R : an) {R0 : an} (r rb rf : Nat) (M : Rd) (vs : List Value) (file size : Int) (h : fJ R0 M vs) (hi : ∀ g, Sat g R → Sat g R0) : Spec Tryz.prog false 27 #[Ptr r 0, I file, I size] (aW r rb rf M vs R) fun v O' => ∃ vs', v = I (ct M file size).1 ∧ O' = aW r rb rf (ct M file size).2 vs' R ∧ fJ R0 (ct M file size).2 vs' := by
 have hfile : file.toNat < 64 → ∃ fa fc, vs[file.toNat]? = some (.slice fa (nth M.B file.toNat).length fc) ∧ bK R0 1 fa (nth M.B file.toNat).length ((nth M.B file.toNat).map B8) ∧ (fa = none → fc = 0) ∧ Bytes (nth M.B file.toNat) := fun hk => by
  obtain ⟨fa, fc, hfv, hrow0, hnil, hB⟩ := h.file _ hk
  exact ⟨fa, fc, by rw [← hfv]; exact dq (by rw [h.ib]; exact hk), hrow0, hnil, hB⟩
 refine Spec.enter (args := [_, _, _]) (m := 67) Tryz.func27 rfl rfl (by decide +kernel) fun h0 => ?_
 refine WX.seq (WX.region rfl (za rfl (ae.nil (Fin.aa (WX.seq (WX.seq (WX.region rfl (zm rfl (zb rfl rfl rfl (zm rfl ?_))))))))))
 refine ae.split (d := 10) rfl (fun hg10 => ?_) (fun hg10 => ?_)
 · try simp only [aB] at hg10
   refine zs 2 10 rfl rfl rfl (zs 2 10 rfl rfl rfl (ae.bD Met.none rfl rfl (zm rfl (zs 6 14 rfl rfl rfl (zs 6 14 rfl rfl rfl (ae.bD Met.none rfl rfl (zm rfl (zs 10 18 rfl rfl rfl (zs 10 18 rfl rfl rfl (zs 10 18 rfl rfl rfl (zs 10 18 rfl rfl rfl (zs 10 18 rfl rfl rfl (zs 10 18 rfl rfl rfl (zs 10 18 rfl rfl rfl (zs 10 18 rfl rfl rfl ?_)))))))))))))))
   refine zs 10 18 rfl rfl rfl (zs 10 18 rfl rfl rfl (ae.bD Met.none rfl rfl (ae.nil (Fin.aa ?_))))
   refine WX.cond rfl (fun hc0 => ?_) (fun hc0 => nomatch hc0)
   refine WX.seq (WX.region rfl (za rfl (ae.nil (Fin.aa (WX.ret (Fin.az ?_))))))
   first
   | exact Fin.result (O' := aW r rb rf M vs R) (.inr rfl) rfl rfl au (by unfold ct; rw [if_pos (by unfold bS; omega)]; exact ⟨vs, rfl, rfl, h⟩)
   | exact Fin.result (O' := aW r rb rf M vs R) (.inr rfl) rfl rfl au (by unfold ct; rw [if_neg (by unfold bS; omega), if_pos (by assumption)]; exact ⟨vs, rfl, rfl, h⟩)
   | exact Fin.result (O' := aW r rb rf (cg M).2 vs R) (.inr rfl) rfl rfl au (by unfold ct; rw [if_neg (by unfold bS; omega), if_neg (by simp [hc1]), if_pos hc2]; exact ⟨vs, rfl, rfl, h.step⟩)
   | exact Fin.result (O' := aW r rb rf ⟨M2.room, M2.B.set file.toNat ((nth M2.B file.toNat).take k), M2.F.set file.toNat (min (nth M2.F file.toNat) size), M2.off, M2.cB⟩ (vs.set file.toNat (.slice fa k k)) R) (.inr rfl) rfl rfl (fun _ hs => by rw [hF2]; exact hs) (by
     have hlk : ((nth M.B file.toNat).take k).length = k := by rw [List.length_take]; omega
     have hpre := hrow0.pre hkl
     rw [Nat.mul_one, ← List.map_take] at hpre
     have hvn : lX R0 (.slice fa k k) ((nth M.B file.toNat).take k) := ⟨fa, k, by rw [hlk], by rw [hlk]; exact hpre, hpre.eh, fun y hy => hB y (List.mem_of_mem_take hy)⟩
     have hI : fJ R0 ⟨M2.room, M2.B.set file.toNat ((nth M.B file.toNat).take k), M2.F.set file.toNat (min (nth M2.F file.toNat) size), M2.off, M2.cB⟩ (vs.set file.toNat (.slice fa k k)) := h2.set hk hvn (by
       have := h2.used
       have h9 : bS M2 file.toNat = ((nth M.B file.toNat).length : Nat) := by unfold bS; rw [hB2]
       rw [h9, hlk]
       omega) (by rw [List.length_set]; exact h2.eE) h2.cB (fun n hn => by
      have h1 := h2.ka n hn
      rw [bZ (by rw [h2.eE]; exact hk), bZ (by rw [h2.gM]; exact hk)]
      by_cases q : n = file.toNat
      · rw [if_pos q, if_pos q, hlk]
        rw [q] at h1
        omega
      · rw [if_neg q, if_neg q]; exact h1)
     unfold ct
     rw [if_neg (by unfold bS; omega), if_neg (by simp [hc1]), if_neg (by simp [hc2]), ← hM2, show size.toNat = k by omega]
     rw [← hB2] at hI
     exact ⟨_, rfl, rfl, hI⟩)
 · try simp only [aB] at hg10
   refine ae.move (Met.some rfl rfl rfl) rfl (ae.bin (Met.some rfl rfl rfl) rfl rfl rfl (ae.bd Met.none rfl rfl (zm rfl ?_)))
   refine ae.split (d := 14) rfl (fun hg14 => ?_) (fun hg14 => ?_)
   · try simp only [aB] at hg14
     refine zs 6 14 rfl rfl rfl (zs 6 14 rfl rfl rfl (ae.bD Met.none rfl rfl (zm rfl (zs 10 18 rfl rfl rfl (zs 10 18 rfl rfl rfl (zs 10 18 rfl rfl rfl (zs 10 18 rfl rfl rfl (zs 10 18 rfl rfl rfl (zs 10 18 rfl rfl rfl (zs 10 18 rfl rfl rfl (zs 10 18 rfl rfl rfl (zs 10 18 rfl rfl rfl (zs 10 18 rfl rfl rfl (ae.bD Met.none rfl rfl (ae.nil ?_)))))))))))))))
     refine Fin.aa ?_
     refine WX.cond rfl (fun hc0 => ?_) (fun hc0 => nomatch hc0)
     refine WX.seq (WX.region rfl (za rfl (ae.nil (Fin.aa (WX.ret (Fin.az ?_))))))
     first
     | exact Fin.result (O' := aW r rb rf M vs R) (.inr rfl) rfl rfl au (by unfold ct; rw [if_pos (by unfold bS; omega)]; exact ⟨vs, rfl, rfl, h⟩)
     | exact Fin.result (O' := aW r rb rf M vs R) (.inr rfl) rfl rfl au (by unfold ct; rw [if_neg (by unfold bS; omega), if_pos (by assumption)]; exact ⟨vs, rfl, rfl, h⟩)
     | exact Fin.result (O' := aW r rb rf (cg M).2 vs R) (.inr rfl) rfl rfl au (by unfold ct; rw [if_neg (by unfold bS; omega), if_neg (by simp [hc1]), if_pos hc2]; exact ⟨vs, rfl, rfl, h.step⟩)
     | exact Fin.result (O' := aW r rb rf ⟨M2.room, M2.B.set file.toNat ((nth M2.B file.toNat).take k), M2.F.set file.toNat (min (nth M2.F file.toNat) size), M2.off, M2.cB⟩ (vs.set file.toNat (.slice fa k k)) R) (.inr rfl) rfl rfl (fun _ hs => by rw [hF2]; exact hs) (by
       have hlk : ((nth M.B file.toNat).take k).length = k := by rw [List.length_take]; omega
       have hpre := hrow0.pre hkl
       rw [Nat.mul_one, ← List.map_take] at hpre
       have hvn : lX R0 (.slice fa k k) ((nth M.B file.toNat).take k) := ⟨fa, k, by rw [hlk], by rw [hlk]; exact hpre, hpre.eh, fun y hy => hB y (List.mem_of_mem_take hy)⟩
       have hI : fJ R0 ⟨M2.room, M2.B.set file.toNat ((nth M.B file.toNat).take k), M2.F.set file.toNat (min (nth M2.F file.toNat) size), M2.off, M2.cB⟩ (vs.set file.toNat (.slice fa k k)) := h2.set hk hvn (by
         have := h2.used
         have h9 : bS M2 file.toNat = ((nth M.B file.toNat).length : Nat) := by unfold bS; rw [hB2]
         rw [h9, hlk]
         omega) (by rw [List.length_set]; exact h2.eE) h2.cB (fun n hn => by
        have h1 := h2.ka n hn
        rw [bZ (by rw [h2.eE]; exact hk), bZ (by rw [h2.gM]; exact hk)]
        by_cases q : n = file.toNat
        · rw [if_pos q, if_pos q, hlk]
          rw [q] at h1
          omega
        · rw [if_neg q, if_neg q]; exact h1)
       unfold ct
       rw [if_neg (by unfold bS; omega), if_neg (by simp [hc1]), if_neg (by simp [hc2]), ← hM2, show size.toNat = k by omega]
       rw [← hB2] at hI
       exact ⟨_, rfl, rfl, hI⟩)
   · try simp only [aB] at hg14
     refine ae.move (Met.some rfl rfl rfl) rfl (ae.bin (Met.some rfl rfl rfl) rfl rfl rfl (ae.bd Met.none rfl rfl (zm rfl ?_)))
     refine ae.split (d := 18) rfl (fun hg18 => ?_) (fun hg18 => ?_)
     · try simp only [aB] at hg18
       refine zs 10 18 rfl rfl rfl (zs 10 18 rfl rfl rfl (zs 10 18 rfl rfl rfl (zs 10 18 rfl rfl rfl (zs 10 18 rfl rfl rfl (zs 10 18 rfl rfl rfl (zs 10 18 rfl rfl rfl (zs 10 18 rfl rfl rfl (zs 10 18 rfl rfl rfl (zs 10 18 rfl rfl rfl (ae.bD Met.none rfl rfl (ae.nil (Fin.aa ?_))))))))))))
       refine WX.cond rfl (fun hc0 => ?_) (fun hc0 => nomatch hc0)
       refine WX.seq (WX.region rfl (za rfl (ae.nil (Fin.aa (WX.ret (Fin.az ?_))))))
       first
       | exact Fin.result (O' := aW r rb rf M vs R) (.inr rfl) rfl rfl au (by unfold ct; rw [if_pos (by unfold bS; omega)]; exact ⟨vs, rfl, rfl, h⟩)
       | exact Fin.result (O' := aW r rb rf M vs R) (.inr rfl) rfl rfl au (by unfold ct; rw [if_neg (by unfold bS; omega), if_pos (by assumption)]; exact ⟨vs, rfl, rfl, h⟩)
       | exact Fin.result (O' := aW r rb rf (cg M).2 vs R) (.inr rfl) rfl rfl au (by unfold ct; rw [if_neg (by unfold bS; omega), if_neg (by simp [hc1]), if_pos hc2]; exact ⟨vs, rfl, rfl, h.step⟩)
       | exact Fin.result (O' := aW r rb rf ⟨M2.room, M2.B.set file.toNat ((nth M2.B file.toNat).take k), M2.F.set file.toNat (min (nth M2.F file.toNat) size), M2.off, M2.cB⟩ (vs.set file.toNat (.slice fa k k)) R) (.inr rfl) rfl rfl (fun _ hs => by rw [hF2]; exact hs) (by
         have hlk : ((nth M.B file.toNat).take k).length = k := by rw [List.length_take]; omega
         have hpre := hrow0.pre hkl
         rw [Nat.mul_one, ← List.map_take] at hpre
         have hvn : lX R0 (.slice fa k k) ((nth M.B file.toNat).take k) := ⟨fa, k, by rw [hlk], by rw [hlk]; exact hpre, hpre.eh, fun y hy => hB y (List.mem_of_mem_take hy)⟩
         have hI : fJ R0 ⟨M2.room, M2.B.set file.toNat ((nth M.B file.toNat).take k), M2.F.set file.toNat (min (nth M2.F file.toNat) size), M2.off, M2.cB⟩ (vs.set file.toNat (.slice fa k k)) := h2.set hk hvn (by
           have := h2.used
           have h9 : bS M2 file.toNat = ((nth M.B file.toNat).length : Nat) := by unfold bS; rw [hB2]
           rw [h9, hlk]
           omega) (by rw [List.length_set]; exact h2.eE) h2.cB (fun n hn => by
          have h1 := h2.ka n hn
          rw [bZ (by rw [h2.eE]; exact hk), bZ (by rw [h2.gM]; exact hk)]
          by_cases q : n = file.toNat
          · rw [if_pos q, if_pos q, hlk]
            rw [q] at h1
            omega
          · rw [if_neg q, if_neg q]; exact h1)
         unfold ct
         rw [if_neg (by unfold bS; omega), if_neg (by simp [hc1]), if_neg (by simp [hc2]), ← hM2, show size.toNat = k by omega]
         rw [← hB2] at hI
         exact ⟨_, rfl, rfl, hI⟩)
     · try simp only [aB] at hg18
       refine ae.move (Met.some rfl rfl rfl) rfl (ae.move (Met.some rfl rfl rfl) rfl (ae.nilCheck (Met.some rfl rfl rfl) rfl ?_))
       first | refine ae.fieldAddr (Met.some rfl rfl rfl) rfl Tryz.underlying50 rfl cG rfl ?_ | refine ae.bQ (Met.some rfl rfl rfl) rfl Tryz.underlying50 rfl cG ?_
       first | refine ae.ld (Met.some rfl rfl rfl) rfl bJ ?_ | refine ae.ba (Met.some rfl rfl rfl) rfl bJ ?_
       refine ae.move (Met.some rfl rfl rfl) rfl ?_
       first | refine ae.ix (Met.some rfl rfl rfl) rfl rfl aR aO ?_ | refine ae.eG (Met.some rfl rfl rfl) rfl rfl aR aO ?_
       have hk : file.toNat < 64 := by omega
       obtain ⟨fa, fc, hv, hrow0, hnil, hB⟩ := hfile hk
       have hrow := hrow0.inc hi
       first | refine ae.ld (Met.some rfl rfl rfl) rfl aD ?_ (hv := hv) | refine ae.ba (Met.some rfl rfl rfl) rfl aD ?_ (hv := hv)
       refine ae.len (Met.some rfl rfl rfl) rfl Tryz.underlying39 (ae.bin (Met.some rfl rfl rfl) rfl rfl rfl (ae.bd Met.none rfl rfl (ae.nil (Fin.aa ?_))))
       refine WX.cond rfl (fun hc0 => ?_) (fun hc0 => ?_)
       · try simp only [aB] at hc0
         refine WX.seq (WX.region rfl (za rfl (ae.nil (Fin.aa (WX.ret (Fin.az ?_))))))
         first
         | exact Fin.result (O' := aW r rb rf M vs R) (.inr rfl) rfl rfl au (by unfold ct; rw [if_pos (by unfold bS; omega)]; exact ⟨vs, rfl, rfl, h⟩)
         | exact Fin.result (O' := aW r rb rf M vs R) (.inr rfl) rfl rfl au (by unfold ct; rw [if_neg (by unfold bS; omega), if_pos (by assumption)]; exact ⟨vs, rfl, rfl, h⟩)
         | exact Fin.result (O' := aW r rb rf (cg M).2 vs R) (.inr rfl) rfl rfl au (by unfold ct; rw [if_neg (by unfold bS; omega), if_neg (by simp [hc1]), if_pos hc2]; exact ⟨vs, rfl, rfl, h.step⟩)
         | exact Fin.result (O' := aW r rb rf ⟨M2.room, M2.B.set file.toNat ((nth M2.B file.toNat).take k), M2.F.set file.toNat (min (nth M2.F file.toNat) size), M2.off, M2.cB⟩ (vs.set file.toNat (.slice fa k k)) R) (.inr rfl) rfl rfl (fun _ hs => by rw [hF2]; exact hs) (by
           have hlk : ((nth M.B file.toNat).take k).length = k := by rw [List.length_take]; omega
           have hpre := hrow0.pre hkl
           rw [Nat.mul_one, ← List.map_take] at hpre
           have hvn : lX R0 (.slice fa k k) ((nth M.B file.toNat).take k) := ⟨fa, k, by rw [hlk], by rw [hlk]; exact hpre, hpre.eh, fun y hy => hB y (List.mem_of_mem_take hy)⟩
           have hI : fJ R0 ⟨M2.room, M2.B.set file.toNat ((nth M.B file.toNat).take k), M2.F.set file.toNat (min (nth M2.F file.toNat) size), M2.off, M2.cB⟩ (vs.set file.toNat (.slice fa k k)) := h2.set hk hvn (by
             have := h2.used
             have h9 : bS M2 file.toNat = ((nth M.B file.toNat).length : Nat) := by unfold bS; rw [hB2]
             rw [h9, hlk]
             omega) (by rw [List.length_set]; exact h2.eE) h2.cB (fun n hn => by
            have h1 := h2.ka n hn
            rw [bZ (by rw [h2.eE]; exact hk), bZ (by rw [h2.gM]; exact hk)]
            by_cases q : n = file.toNat
            · rw [if_pos q, if_pos q, hlk]
              rw [q] at h1
              omega
            · rw [if_neg q, if_neg q]; exact h1)
           unfold ct
           rw [if_neg (by unfold bS; omega), if_neg (by simp [hc1]), if_neg (by simp [hc2]), ← hM2, show size.toNat = k by omega]
           rw [← hB2] at hI
           exact ⟨_, rfl, rfl, hI⟩)
       · try simp only [aB] at hc0
         refine WX.skip (Fin.aa (WX.seq (WX.seq (WX.region rfl (zm rfl (zn rfl ?_))))))
         first | refine ae.fieldAddr Met.none rfl Tryz.underlying50 rfl dm rfl ?_ | refine ae.bQ Met.none rfl Tryz.underlying50 rfl dm ?_
         first | refine ae.ld Met.none rfl cV ?_ | refine ae.ba Met.none rfl cV ?_
         refine ae.nil (Fin.aa ?_)
         refine WX.cond rfl (fun hc1 => ?_) (fun hc1 => ?_)
         · try simp only [aB] at hc1
           refine WX.seq (WX.region rfl (za rfl (ae.nil (Fin.aa (WX.ret (Fin.az ?_))))))
           first
           | exact Fin.result (O' := aW r rb rf M vs R) (.inr rfl) rfl rfl au (by unfold ct; rw [if_pos (by unfold bS; omega)]; exact ⟨vs, rfl, rfl, h⟩)
           | exact Fin.result (O' := aW r rb rf M vs R) (.inr rfl) rfl rfl au (by unfold ct; rw [if_neg (by unfold bS; omega), if_pos (by assumption)]; exact ⟨vs, rfl, rfl, h⟩)
           | exact Fin.result (O' := aW r rb rf (cg M).2 vs R) (.inr rfl) rfl rfl au (by unfold ct; rw [if_neg (by unfold bS; omega), if_neg (by simp [hc1]), if_pos hc2]; exact ⟨vs, rfl, rfl, h.step⟩)
           | exact Fin.result (O' := aW r rb rf ⟨M2.room, M2.B.set file.toNat ((nth M2.B file.toNat).take k), M2.F.set file.toNat (min (nth M2.F file.toNat) size), M2.off, M2.cB⟩ (vs.set file.toNat (.slice fa k k)) R) (.inr rfl) rfl rfl (fun _ hs => by rw [hF2]; exact hs) (by
             have hlk : ((nth M.B file.toNat).take k).length = k := by rw [List.length_take]; omega
             have hpre := hrow0.pre hkl
             rw [Nat.mul_one, ← List.map_take] at hpre
             have hvn : lX R0 (.slice fa k k) ((nth M.B file.toNat).take k) := ⟨fa, k, by rw [hlk], by rw [hlk]; exact hpre, hpre.eh, fun y hy => hB y (List.mem_of_mem_take hy)⟩
             have hI : fJ R0 ⟨M2.room, M2.B.set file.toNat ((nth M.B file.toNat).take k), M2.F.set file.toNat (min (nth M2.F file.toNat) size), M2.off, M2.cB⟩ (vs.set file.toNat (.slice fa k k)) := h2.set hk hvn (by
               have := h2.used
               have h9 : bS M2 file.toNat = ((nth M.B file.toNat).length : Nat) := by unfold bS; rw [hB2]
               rw [h9, hlk]
               omega) (by rw [List.length_set]; exact h2.eE) h2.cB (fun n hn => by
              have h1 := h2.ka n hn
              rw [bZ (by rw [h2.eE]; exact hk), bZ (by rw [h2.gM]; exact hk)]
              by_cases q : n = file.toNat
              · rw [if_pos q, if_pos q, hlk]
                rw [q] at h1
                omega
              · rw [if_neg q, if_neg q]; exact h1)
             unfold ct
             rw [if_neg (by unfold bS; omega), if_neg (by simp [hc1]), if_neg (by simp [hc2]), ← hM2, show size.toNat = k by omega]
             rw [← hB2] at hI
             exact ⟨_, rfl, rfl, hI⟩)
         · try simp only [aB] at hc1
           refine WX.skip (Fin.aa (WX.seq (WX.region rfl (zm rfl ?_))))
           refine ae.cl (O1 := _) Met.none rfl (ah Tryz.func47 (by decide +kernel)) rfl (fun _ h => h) (nI R r rb rf M vs h) (fun v O' hp => ?_)
           obtain ⟨rfl, hO⟩ := hp
           subst O'
           refine za rfl (ae.nil (Fin.aa (WX.seq (WX.seq (WX.region rfl (zm rfl (ae.nil (Fin.aa ?_))))))))
           refine WX.cond rfl (fun hc2 => ?_) (fun hc2 => ?_)
           · try simp only [aB] at hc2
             refine WX.seq (WX.region rfl (za rfl (ae.nil (Fin.aa (WX.ret (Fin.az ?_))))))
             first
             | exact Fin.result (O' := aW r rb rf M vs R) (.inr rfl) rfl rfl au (by unfold ct; rw [if_pos (by unfold bS; omega)]; exact ⟨vs, rfl, rfl, h⟩)
             | exact Fin.result (O' := aW r rb rf M vs R) (.inr rfl) rfl rfl au (by unfold ct; rw [if_neg (by unfold bS; omega), if_pos (by assumption)]; exact ⟨vs, rfl, rfl, h⟩)
             | exact Fin.result (O' := aW r rb rf (cg M).2 vs R) (.inr rfl) rfl rfl au (by unfold ct; rw [if_neg (by unfold bS; omega), if_neg (by simp [hc1]), if_pos hc2]; exact ⟨vs, rfl, rfl, h.step⟩)
             | exact Fin.result (O' := aW r rb rf ⟨M2.room, M2.B.set file.toNat ((nth M2.B file.toNat).take k), M2.F.set file.toNat (min (nth M2.F file.toNat) size), M2.off, M2.cB⟩ (vs.set file.toNat (.slice fa k k)) R) (.inr rfl) rfl rfl (fun _ hs => by rw [hF2]; exact hs) (by
               have hlk : ((nth M.B file.toNat).take k).length = k := by rw [List.length_take]; omega
               have hpre := hrow0.pre hkl
               rw [Nat.mul_one, ← List.map_take] at hpre
               have hvn : lX R0 (.slice fa k k) ((nth M.B file.toNat).take k) := ⟨fa, k, by rw [hlk], by rw [hlk]; exact hpre, hpre.eh, fun y hy => hB y (List.mem_of_mem_take hy)⟩
               have hI : fJ R0 ⟨M2.room, M2.B.set file.toNat ((nth M.B file.toNat).take k), M2.F.set file.toNat (min (nth M2.F file.toNat) size), M2.off, M2.cB⟩ (vs.set file.toNat (.slice fa k k)) := h2.set hk hvn (by
                 have := h2.used
                 have h9 : bS M2 file.toNat = ((nth M.B file.toNat).length : Nat) := by unfold bS; rw [hB2]
                 rw [h9, hlk]
                 omega) (by rw [List.length_set]; exact h2.eE) h2.cB (fun n hn => by
                have h1 := h2.ka n hn
                rw [bZ (by rw [h2.eE]; exact hk), bZ (by rw [h2.gM]; exact hk)]
                by_cases q : n = file.toNat
                · rw [if_pos q, if_pos q, hlk]
                  rw [q] at h1
                  omega
                · rw [if_neg q, if_neg q]; exact h1)
               unfold ct
               rw [if_neg (by unfold bS; omega), if_neg (by simp [hc1]), if_neg (by simp [hc2]), ← hM2, show size.toNat = k by omega]
               rw [← hB2] at hI
               exact ⟨_, rfl, rfl, hI⟩)
           · try simp only [aB] at hc2
             refine WX.skip (Fin.aa (WX.seq ?_))
             obtain ⟨s1, s2, s3⟩ := ot M
             obtain ⟨M2, hM2⟩ : ∃ M2, M2 = (cg M).2 := ⟨_, rfl⟩
             have h2 : fJ R0 M2 vs := hM2 ▸ h.step
             have hB2 : M2.B = M.B := hM2 ▸ s1
             have hF2 : M2.F = M.F := hM2 ▸ s2
             obtain ⟨k, hkz⟩ : ∃ k : Nat, size = (k : Int) := ⟨size.toNat, by omega⟩
             have hkl : k ≤ (nth M.B file.toNat).length := by omega
             have hkn : file.toNat < M.F.length := by rw [h.eE]; exact hk
             rw [← hM2]
             rw [show M2 = ⟨M2.room, M2.B, M2.F, M2.off, M2.cB⟩ from rfl, hF2]
             dsimp only
             refine WX.draw rfl ?_
             refine zm rfl (zn rfl ?_)
             first | refine ae.fieldAddr Met.none rfl Tryz.underlying50 rfl cG rfl ?_ | refine ae.bQ Met.none rfl Tryz.underlying50 rfl cG ?_
             first | refine ae.ld Met.none rfl bJ ?_ | refine ae.ba Met.none rfl bJ ?_
             refine zm rfl (zm rfl (zn rfl ?_))
             first | refine ae.fieldAddr Met.none rfl Tryz.underlying50 rfl cG rfl ?_ | refine ae.bQ Met.none rfl Tryz.underlying50 rfl cG ?_
             first | refine ae.ld Met.none rfl bJ ?_ | refine ae.ba Met.none rfl bJ ?_
             refine zm rfl ?_
             first | refine ae.ix Met.none rfl rfl aR aO ?_ | refine ae.eG Met.none rfl rfl aR aO ?_
             first | refine ae.ld Met.none rfl aD ?_ (hv := hv) | refine ae.ba Met.none rfl aD ?_ (hv := hv)
             refine zm rfl ?_
             refine ae.pre (m := k) Met.none rfl rfl aQ ec (bK.cons (bK.cons (bK.cons hrow))) hnil ?_
             first | refine ae.ix Met.none rfl rfl aR aO ?_ | refine ae.eG Met.none rfl rfl aR aO ?_
             refine ae.st (vs := [_]) (j := 1) Met.none rfl rfl rfl aO ?_ (hj := rfl) (hl := (by show file.toNat + 1 ≤ vs.length; rw [h.ib]; omega)) (hc := (jt (by rw [h.ib]; exact hk)))
             refine ae.nil (Fin.aa (WX.seq ?_))
             refine WX.draw rfl ?_
             refine zm rfl (zn rfl ?_)
             first | refine ae.fieldAddr Met.none rfl Tryz.underlying50 rfl gG rfl ?_ | refine ae.bQ Met.none rfl Tryz.underlying50 rfl gG ?_
             first | refine ae.ld Met.none rfl dV ?_ | refine ae.ba Met.none rfl dV ?_
             refine zm rfl (zm rfl (zn rfl ?_))
             first | refine ae.fieldAddr Met.none rfl Tryz.underlying50 rfl gG rfl ?_ | refine ae.bQ Met.none rfl Tryz.underlying50 rfl gG ?_
             first | refine ae.ld Met.none rfl dV ?_ | refine ae.ba Met.none rfl dV ?_
             refine zm rfl ?_
             first | refine ae.ix Met.none rfl rfl bj cj ?_ | refine ae.eG Met.none rfl rfl bj cj ?_
             first | refine ae.ld Met.none rfl bY ?_ (hv := (bB I _ file.toNat hkn)) | refine ae.ba Met.none rfl bY ?_ (hv := (bB I _ file.toNat hkn))
             refine zm rfl ?_
             refine ae.min Met.none rfl rfl ?_
             first | refine ae.ix Met.none rfl rfl bj cj ?_ | refine ae.eG Met.none rfl rfl bj cj ?_
             refine ae.st (vs := [_]) (j := 2) Met.none rfl rfl rfl cj ?_ (hj := rfl) (hl := (by rw [List.length_map, h.eE]; show file.toNat + 1 ≤ 64; omega))
             refine zR rfl (za rfl (ae.nil (Fin.aa (WX.ret ?_))))
             first
             | exact Fin.result (O' := aW r rb rf M vs R) (.inr rfl) rfl rfl au (by unfold ct; rw [if_pos (by unfold bS; omega)]; exact ⟨vs, rfl, rfl, h⟩)
             | exact Fin.result (O' := aW r rb rf M vs R) (.inr rfl) rfl rfl au (by unfold ct; rw [if_neg (by unfold bS; omega), if_pos (by assumption)]; exact ⟨vs, rfl, rfl, h⟩)
             | exact Fin.result (O' := aW r rb rf (cg M).2 vs R) (.inr rfl) rfl rfl au (by unfold ct; rw [if_neg (by unfold bS; omega), if_neg (by simp [hc1]), if_pos hc2]; exact ⟨vs, rfl, rfl, h.step⟩)
             | exact Fin.result (O' := aW r rb rf ⟨M2.room, M2.B.set file.toNat ((nth M2.B file.toNat).take k), M2.F.set file.toNat (min (nth M2.F file.toNat) size), M2.off, M2.cB⟩ (vs.set file.toNat (.slice fa k k)) R) (.inr rfl) rfl rfl (fun _ hs => by rw [hF2]; exact hs) (by
               have hlk : ((nth M.B file.toNat).take k).length = k := by rw [List.length_take]; omega
               have hpre := hrow0.pre hkl
               rw [Nat.mul_one, ← List.map_take] at hpre
               have hvn : lX R0 (.slice fa k k) ((nth M.B file.toNat).take k) := ⟨fa, k, by rw [hlk], by rw [hlk]; exact hpre, hpre.eh, fun y hy => hB y (List.mem_of_mem_take hy)⟩
               have hI : fJ R0 ⟨M2.room, M2.B.set file.toNat ((nth M.B file.toNat).take k), M2.F.set file.toNat (min (nth M2.F file.toNat) size), M2.off, M2.cB⟩ (vs.set file.toNat (.slice fa k k)) := h2.set hk hvn (by
                 have := h2.used
                 have h9 : bS M2 file.toNat = ((nth M.B file.toNat).length : Nat) := by unfold bS; rw [hB2]
                 rw [h9, hlk]
                 omega) (by rw [List.length_set]; exact h2.eE) h2.cB (fun n hn => by
                have h1 := h2.ka n hn
                rw [bZ (by rw [h2.eE]; exact hk), bZ (by rw [h2.gM]; exact hk)]
                by_cases q : n = file.toNat
                · rw [if_pos q, if_pos q, hlk]
                  rw [q] at h1
                  omega
                · rw [if_neg q, if_neg q]; exact h1)
               unfold ct
               rw [if_neg (by unfold bS; omega), if_neg (by simp [hc1]), if_neg (by simp [hc2]), ← hM2, show size.toNat = k by omega]
               rw [← hB2] at hI
               exact ⟨_, rfl, rfl, hI⟩)
def kh (M : Rd) (i : Nat) : List Nat := (List.range i).filter fun i => decide (0 < (nth M.B i).length)
theorem rp (M : Rd) (i : Nat) : kh M (i + 1) = kh M i ++ (if 0 < (nth M.B i).length then [i] else []) := by
 unfold kh
 rw [List.range_succ, List.filter_append]
 by_cases h : 0 < (nth M.B i).length
 · rw [if_pos h]; simp [h]
 · rw [if_neg h]; simp [h]
theorem oe (M : Rd) (i : Nat) : (kh M i).length ≤ i := by
 unfold kh
 have := List.length_filter_le (fun i => decide (0 < (nth M.B i).length)) (List.range i)
 rw [List.length_range] at this
 exact this
def fi (l : List Nat) : List Value := l.map fun n => I ((n : Nat) : Int)
theorem tK (R : an) {R0 : an} (r rb rf : Nat) (M : Rd) (vs : List Value) (h : fJ R0 M vs) : Spec Tryz.prog false 33 #[Ptr r 0] (aW r rb rf M vs R) fun v O' => ∃ a c G, v = .slice a (aL M).length c ∧ Grow 1 a (aL M).length c (fi (aL M)) G ∧ O' = aW r rb rf M vs (G ++ R) := by
 refine Spec.enter (args := [_]) (m := 23) Tryz.func33 rfl rfl (by decide +kernel) fun h0 => ?_
 refine WX.seq (WX.region rfl (za rfl (zR rfl (za rfl (ae.nil (Fin.aa (WX.seq (WX.seq (WX.region rfl (za rfl (ae.nil (Fin.aa (WX.block ?_)))))))))))))
 refine WX.re (O' := aW r rb rf M vs ([] ++ R)) ?_
 refine WX.loop (fun q : Nat × Option Addr × Nat × an => [(0, Ptr r 0), (3, .slice q.2.1 (kh M q.1).length q.2.2.1), (4, I (q.1 : Int))]) (fun q => aW r rb rf M vs (q.2.2.2 ++ R)) (fun q => q.1 ≤ 64 ∧ Grow 1 q.2.1 (kh M q.1).length q.2.2.1 (fi (kh M q.1)) q.2.2.2) (fun q => 64 - q.1) (0, none, 0, []) ⟨Nat.zero_le _, .nil⟩ (fun s hs => hs.tl [] 0) (fun q hq => ?_)
 obtain ⟨i, a3, c3, G3⟩ := q
 obtain ⟨hi, hG3⟩ := hq
 simp only at hi hG3
 dsimp only
 have hfl := oe M i
 have hfs := rp M i
 refine WX.seq (WX.seq (WX.region rfl (zm rfl (zb rfl rfl rfl (ae.nil (Fin.aa ?_))))))
 refine WX.cond rfl (fun hc0 => ?_) (fun hc0 => ?_)
 · try simp only [aB] at hc0
   refine WX.skip (Fin.aa (WX.seq (WX.block (WX.seq ?_))))
   have hi64 : i < 64 := by omega
   obtain ⟨a, c, ev, _⟩ := h.file i hi64
   have hv : vs[i]? = some (.slice a (nth M.B i).length c) := by rw [← ev]; exact dq (by rw [h.ib]; exact hi64)
   refine WX.region rfl (zm rfl (zn rfl ?_))
   first | refine ae.fieldAddr Met.none rfl Tryz.underlying50 rfl cG rfl ?_ | refine ae.bQ Met.none rfl Tryz.underlying50 rfl cG ?_
   first | refine ae.ld Met.none rfl bJ ?_ | refine ae.ba Met.none rfl bJ ?_
   refine zm rfl ?_
   first | refine ae.ix Met.none rfl rfl aR aO ?_ | refine ae.eG Met.none rfl rfl aR aO ?_
   first | refine ae.ld Met.none rfl aD ?_ (hv := hv) | refine ae.ba Met.none rfl aD ?_ (hv := hv)
   refine ae.len Met.none rfl Tryz.underlying39 (zb rfl rfl rfl (ae.nil (Fin.aa ?_)))
   refine WX.cond rfl (fun hc1 => ?_) (fun hc1 => ?_)
   · try simp only [aB] at hc1
     rw [if_pos (by omega)] at hfs
     refine WX.region rfl (zm rfl (zm rfl ?_))
     refine ae.buildSlice (c := [_]) Met.none rfl bj cj ij (by decide) (by decide) rfl rfl rfl rfl (fun b20 => ?_)
     refine ae.mH [_, _, _, _] Met.none rfl rfl ma bj cj yp ij (Src.lit (cs := [_])) (fun a21 c21 G21 hG21 => ?_)
     refine za rfl (ae.nil (Fin.ag (Fin.aa ?_)))
     first | refine WX.re (O' := aW r rb rf M vs (G21 ++ R)) ?_ | skip
     refine WX.region rfl (zm rfl (zb rfl rfl dH (za rfl (ae.nil ?_))))
     first
     | exact Fin.aj (i + 1, a21, c21, G21) ⟨by simp only; omega, by simp only; rw [hfs, List.length_append]; unfold fi at hG21 ⊢; rw [List.map_append]; exact hG21⟩ (by simp only; omega) (fun s hs => by dsimp only; rw [hfs, List.length_append]; exact hs.tl [] 0)
     | exact Fin.aj (i + 1, a3, c3, G3) ⟨by simp only; omega, by simp only; rw [hfs]; exact hG3⟩ (by simp only; omega) (fun s hs => by dsimp only; rw [hfs]; exact hs.tl [] 0)
   · try simp only [aB] at hc1
     rw [if_neg (by omega), List.append_nil] at hfs
     refine WX.skip (Fin.ag (Fin.aa ?_))
     first | refine WX.re (O' := aW r rb rf M vs (G21 ++ R)) ?_ | skip
     refine WX.region rfl (zm rfl (zb rfl rfl dH (za rfl (ae.nil ?_))))
     first
     | exact Fin.aj (i + 1, a21, c21, G21) ⟨by simp only; omega, by simp only; rw [hfs, List.length_append]; unfold fi at hG21 ⊢; rw [List.map_append]; exact hG21⟩ (by simp only; omega) (fun s hs => by dsimp only; rw [hfs, List.length_append]; exact hs.tl [] 0)
     | exact Fin.aj (i + 1, a3, c3, G3) ⟨by simp only; omega, by simp only; rw [hfs]; exact hG3⟩ (by simp only; omega) (fun s hs => by dsimp only; rw [hfs]; exact hs.tl [] 0)
 · try simp only [aB] at hc0
   refine WX.exit (Fin.aF (Fin.aN (Fin.aK rfl (Fin.aa (WX.seq ?_)))))
   have hie : i = 64 := by omega
   rw [hie] at hG3 ⊢
   refine WX.region rfl (zm rfl (za rfl (ae.nil (Fin.aa (WX.ret ?_)))))
   exact Fin.result (O' := aW r rb rf M vs (G3 ++ R)) (.inr rfl) rfl rfl au ⟨a3, c3, G3, rfl, hG3, rfl⟩
def fe (o : bM) (p k : Nat) : bM :=
 ⟨o.n, ⟨o.f.bs.set (o.f.d.toNat + p) (gN (nth o.f.bs (o.f.d.toNat + p)) k), o.f.d⟩, o.a, o.c, match o.a with
  | some ⟨b, _, _⟩ => [(b, ⟨1, false, (o.f.bs.set (o.f.d.toNat + p) (gN (nth o.f.bs (o.f.d.toNat + p)) k)).map B8⟩)]
  | none => []⟩
def fu (p k : Nat) : List bM → List bM
 | [] => []
 | o :: l => if p < bp o.f then fe o p k :: l else o :: fu (p - bp o.f) k l
theorem pv (k : Nat) : ∀ (p : Nat) (l : List bM), (fu p k l).map bM.nf = fU p k (l.map bM.nf)
 | _, [] => rfl
 | p, o :: l => by
  unfold fu
  rw [List.map_cons]
  unfold fU
  by_cases h : p < bp o.f
  · rw [if_pos h, if_pos (show p < bp (bM.nf o).2 from h)]; rfl
  · rw [if_neg h, if_neg (show ¬ p < bp (bM.nf o).2 from h), List.map_cons, pv k _ l]; rfl
theorem kC (k r : Nat) {o : bM} {l2 : List bM} (hr : r < bp o.f) : ∀ (l1 : List bM), fu (av (l1.map bM.nf) + r) k (l1 ++ o :: l2) = l1 ++ fe o r k :: l2
 | [] => by
  show fu (0 + r) k (o :: l2) = _
  rw [Nat.zero_add]
  unfold fu
  rw [if_pos hr]
  rfl
 | x :: l1 => by
  have e : av ((x :: l1).map bM.nf) = bp x.f + av (l1.map bM.nf) := rfl
  rw [List.cons_append, List.cons_append, e]
  conv => lhs; unfold fu
  rw [if_neg (by omega), show bp x.f + av (l1.map bM.nf) + r - bp x.f = av (l1.map bM.nf) + r by omega, kC k r hr l1]
structure wh (M : Rd) (vs : List Value) (L : List (Int × Fi)) (ow : List bM) (ws : List Value) : Prop where
 nf : ow.map bM.nf = L
 len : ws.length = 64
 row : ∀ o ∈ ow, Grow 1 o.a o.f.bs.length o.c (o.f.bs.map B8) o.G ∧ Bytes o.f.bs ∧ (0 ≤ o.n ∧ o.n < 64) ∧ nth ws o.n.toNat = .slice o.a o.f.bs.length o.c
 other : ∀ n : Nat, n < 64 → ((n : Nat) : Int) ∉ ow.map (·.n) → nth ws n = nth vs n
theorem vJ {M : Rd} {vs : List Value} {o : bM} {r k : Nat} {ws : List Value} (h : Grow 1 o.a o.f.bs.length o.c (o.f.bs.map B8) o.G ∧ Bytes o.f.bs ∧ (0 ≤ o.n ∧ o.n < 64) ∧ nth ws o.n.toNat = .slice o.a o.f.bs.length o.c) :
  Grow 1 (fe o r k).a (fe o r k).f.bs.length (fe o r k).c ((fe o r k).f.bs.map B8) (fe o r k).G ∧ Bytes (fe o r k).f.bs ∧ (0 ≤ (fe o r k).n ∧ (fe o r k).n < 64) ∧ nth ws (fe o r k).n.toNat = .slice (fe o r k).a (fe o r k).f.bs.length (fe o r k).c := by
 obtain ⟨h1, h2, h3, h4⟩ := h
 have hl : (fe o r k).f.bs.length = o.f.bs.length := List.length_set
 refine ⟨?_, ?_, h3, by rw [hl]; exact h4⟩
 · rw [hl]
   rcases h1 with ⟨a1, a2, a3, a4, a5⟩ | ⟨b, a1, a2, a3⟩
   · have hz : o.f.bs = [] := List.length_eq_zero_iff.1 a2
     refine .inl ⟨a1, a2, a3, ?_, ?_⟩
     · unfold fe; simp [hz]
     · unfold fe; simp only [a1]
   · refine .inr ⟨b, a1, ?_, ?_⟩
     · unfold fe; simp only [a1]
     · unfold fe
       simp only [List.length_map, List.length_set] at a3 ⊢
       omega
 · intro y hy
   rcases List.mem_or_eq_of_mem_set hy with p | p
   · exact h2 y p
   · rw [p]; exact iA _ _
theorem oI (k : Nat) {ws : List Value} : ∀ (p : Nat) (l : List bM), (∀ o ∈ l, Grow 1 o.a o.f.bs.length o.c (o.f.bs.map B8) o.G ∧ Bytes o.f.bs ∧ (0 ≤ o.n ∧ o.n < 64) ∧ nth ws o.n.toNat = .slice o.a o.f.bs.length o.c) → ∀ o ∈ fu p k l, Grow 1 o.a o.f.bs.length o.c (o.f.bs.map B8) o.G ∧ Bytes o.f.bs ∧ (0 ≤ o.n ∧ o.n < 64) ∧ nth ws o.n.toNat = .slice o.a o.f.bs.length o.c
 | _, [], h => fun o ho => by simp [fu] at ho
 | p, x :: l, h => by
  unfold fu
  intro o ho
  split at ho
  · rcases List.mem_cons.1 ho with rfl | ho
    · exact vJ (M := ⟨0, [], [], false, 0⟩) (vs := []) (h x (List.mem_cons_self ..))
    · exact h o (List.mem_cons_of_mem _ ho)
  · rcases List.mem_cons.1 ho with rfl | ho
    · exact h o (List.mem_cons_self ..)
    · exact oI k (p - bp x.f) l (fun o' h' => h o' (List.mem_cons_of_mem _ h')) o ho
theorem mT (k : Nat) : ∀ (p : Nat) (l : List bM), (fu p k l).map (·.n) = l.map (·.n)
 | _, [] => rfl
 | p, x :: l => by
  unfold fu
  split
  · rfl
  · rw [List.map_cons, List.map_cons, mT k _ l]
theorem wh.flip {M : Rd} {vs ws : List Value} {L : List (Int × Fi)} {ow : List bM} (h : wh M vs L ow ws) (p k : Nat) : wh M vs (fU p k L) (fu p k ow) ws :=
 ⟨by rw [pv, h.nf], h.len, oI k p ow h.row, fun n hn hk => h.other n hn (by rw [mT] at hk; exact hk)⟩
def oE (M : Rd) (L : List (Int × Fi)) : List (List Int) := (List.range 64).map fun n => ((bI ((n : Nat) : Int) L).getD ⟨[], 0⟩).bs
theorem wh.file {M : Rd} {vs ws : List Value} {L : List (Int × Fi)} {ow : List bM} {R0 : an} (h : wh M vs L ow ws) (hR : fJ R0 M vs) (hnd : (L.map (·.1)).Nodup) (hk : ∀ n : Nat, n < 64 → ((n : Nat) : Int) ∉ L.map (·.1) → nth M.B n = []) {n : Nat} (hn : n < 64) : lX (aH ow ++ R0) (nth ws n) (nth (oE M L) n) := by
 have hkeys : ow.map (·.n) = L.map (·.1) := by rw [← h.nf, List.map_map]; rfl
 unfold oE
 rw [cO _ hn]
 by_cases hin : ((n : Nat) : Int) ∈ ow.map (·.n)
 · obtain ⟨o, ho, hon⟩ := List.mem_map.1 hin
   obtain ⟨h1, h2, h3, h4⟩ := h.row o ho
   have hm : bI ((n : Nat) : Int) L = some o.f := kD hnd (by rw [← h.nf, ← hon]; exact List.mem_map.2 ⟨o, ho, rfl⟩)
   rw [hm]
   rw [show o.n.toNat = n by omega] at h4
   rw [h4]
   have hr := h1.oK (R := ([] : an))
   rw [List.append_nil] at hr
   exact ⟨o.a, o.c, rfl, hr.inc fun g hg => hg.sub fun Q => by
    have := iD Q ho
    simp only [List.countP_append]
    omega, fun q => (h1.eh q).1, h2⟩
 · have hz := hk n hn (by rw [← hkeys]; exact hin)
   rw [eY (by rw [← hkeys]; exact hin), h.other n hn hin]
   have := hR.file n hn
   rw [hz] at this
   exact this.app
end Go.Proofs.YthekokdpplobhaaGreat.Eng

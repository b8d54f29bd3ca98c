/- Records, read by the program. | Prefixes; the iterator of records. | The iterator of records. | The iterator of records, walked. | The program's Scan. | Equal lists of records. | Records out of numbers. | The section's examples. | Lengths of frames, and what they are made of. | Disks in plain lists. | Small functions of disks: exists, step, set, New, Read. | Used, harden, Sync, Truncate. | The numbers of a disk's files, in order. | A crash in plain lists; the numbers of the files as a contract. | What a crash keeps of the files, in plain lists. | The reference's disk in plain lists, and that both disks answer alike. | A crash, walked. | The reference's crash in plain lists. | Small parts of the disk's texts. | The reference's disk: New, Used, Files, step, Append, Sync, Truncate, Arm. | The reference's disk: New, Append, Sync, Truncate, Files. | The reference's disk: Files, Copy. | The reference's crash, walked. Own work; no condition. -/
import Derived.Test.YthekokdpplobhaaGreatJournalRunsM1
import Derived.Test.YthekokdpplobhaaGreatJournalRunsM2
import Derived.Test.YthekokdpplobhaaGreatJournalRunsM3
set_option linter.unusedVariables false
set_option linter.unusedSimpArgs false
namespace Go.Proofs.YthekokdpplobhaaGreat.Eng
theorem tx (O : an) (b : List Int) (a : Option Addr) (c : Nat) (hB : Bytes b) (hlen : b.length ≤ 1000000000) (hr : bK O 1 a b.length (b.map B8)) (hc : a = none → c = 0) :
  Spec Tryz.prog false 61 #[.slice a b.length c] O fun v O' => ∃ a' c' G, v = .slice a' (aS b).length c' ∧ Grow 1 a' (aS b).length c' ((aS b).map B8) G ∧ O' = G ++ O := by
 have hpre : ∀ m, bK O 1 a (b.take m).length ((b.take m).map B8) := fun m => by
  have := hr.pre (m := (b.take m).length) (by rw [List.length_take]; omega)
  rw [Nat.mul_one, ← List.map_take] at this
  have e : b.take (b.take m).length = b.take m := by
   rw [List.length_take]
   rcases Nat.le_total m b.length with q | q
   · rw [Nat.min_eq_left q]
   · rw [Nat.min_eq_right q, List.take_of_length_le (Nat.le_refl _), List.take_of_length_le q]
  rw [e] at this
  exact this
 have hBt : ∀ m, Bytes (b.take m) := fun m x hx => hB x (List.mem_of_mem_take hx)
 have hlt : ∀ m, (b.take m).length ≤ b.length := fun m => by rw [List.length_take]; omega
 obtain ⟨hu1, hu2, hu3, hu4⟩ := nw (b.take (min b.length 10), 0)
 obtain ⟨n, hn⟩ : ∃ n, n = (bO 0 0 (b.take (min b.length 10), 0)).1 := ⟨_, rfl⟩
 rw [← hn] at hu1 hu4
 obtain ⟨m, hm⟩ : ∃ m, m = min b.length (10 + min n.toNat b.length) := ⟨_, rfl⟩
 have hm1 : m ≤ b.length := by omega
 have hlm : (b.take m).length = m := by rw [List.length_take]; omega
 have hcore : kX b = (fI (b.take m, 0)).1 := by unfold kX; simp only [← hn, hm]
 obtain ⟨k1, k2⟩ := mY b
 rw [hcore] at k1 k2
 obtain ⟨j1, j2, j3, j4⟩ := nw ((fI (b.take m, 0)).1, 0)
 simp only at j2 j3
 have hrec : aS b = (fI (bO 0 0 ((fI (b.take m, 0)).1, 0)).2).1 := by unfold aS; rw [hcore]
 have hcn := hc
 refine Spec.enter (args := [_]) (m := 33) Tryz.func61 rfl rfl (by decide +kernel) fun h0 => ?_
 refine WX.seq (WX.region rfl (za rfl (zR rfl (zm rfl (zm rfl (ae.len Met.none rfl Tryz.underlying39 ?_))))))
 refine ae.min Met.none rfl rfl ?_
 refine ae.pre (m := (b.take (min b.length 10)).length) Met.none rfl rfl aQ ea hr hcn ?_ (hj := (by rw [List.length_take]; omega)) (hm := (by rw [List.length_take]; omega))
 refine ae.cl (O1 := _) Met.none rfl (ah Tryz.func76 (by decide +kernel)) rfl (fun _ h => h) (pN O (b.take (min b.length 10)) a _ (by have := hlt (min b.length 10); omega) (fun q => by have := (hpre (min b.length 10)).eh q; exact List.length_eq_zero_iff.1 this) ((hpre (min b.length 10)).src (fun q => (hpre (min b.length 10)).eh q))) (fun v O' hp => ?_)
 obtain ⟨r1, a1, c1, G1, rfl, hG1, rfl⟩ := hp
 refine ae.cl (O1 := _) Met.none rfl (ah Tryz.func77 (by decide +kernel)) rfl (fun _ h => h) (qp (G1 ++ O) r1 (b.take (min b.length 10), 0) a1 c1 (hBt _) (by have := hlt (min b.length 10); simp only; omega) hG1.oK (fun q => (hG1.eh q).1)) (fun v O' hp => ?_)
 obtain ⟨rfl, ⟨a2, c2, rfl, hr2, hc2⟩⟩ := hp
 rw [← hn]
 refine za rfl (zR rfl (zm rfl (ae.len Met.none rfl Tryz.underlying39 ?_)))
 refine ae.conv Met.none rfl Tryz.underlying3 Tryz.underlying78 wh ?_
 refine za rfl (zR rfl (zm rfl (zm rfl (zm rfl (zm rfl ?_)))))
 refine ae.min Met.none rfl rfl ?_
 refine ae.bin Met.none rfl rfl (congrArg (fun n => some (U n)) (wrap_u64 (n := 10 + min n (b.length : Int)) (by omega) (by omega))) ?_
 refine ae.min Met.none rfl rfl ?_
 refine ae.pre (m := (b.take m).length) Met.none rfl rfl aQ ea (hr.app.cons) hcn ?_ (hj := (by rw [hlm]; omega)) (hm := (by rw [hlm]; omega))
 refine ae.cl (O1 := _) Met.none rfl (ah Tryz.func76 (by decide +kernel)) rfl (fun _ h => h) (pN _ (b.take m) a _ (by have := hlt m; omega) (fun q => by have := (hpre m).eh q; exact List.length_eq_zero_iff.1 this) (Src.cons (Src.app ((hpre m).src (fun q => (hpre m).eh q))))) (fun v O' hp => ?_)
 obtain ⟨r3, a3, c3, G3, rfl, hG3, rfl⟩ := hp
 refine za rfl (zR rfl (zm rfl ?_))
 refine ae.cl (O1 := _) Met.none rfl (ah Tryz.func78 (by decide +kernel)) rfl (fun _ h => h) (vY _ r3 (b.take m, 0) a3 c3 (hBt _) (by have := hlt m; simp only; omega) hG3.oK (fun q => (hG3.eh q).1)) (fun v O' hp => ?_)
 obtain ⟨a4, c4, G4, rfl, hG4, a5, c5, rfl, hr5, hc5⟩ := hp
 refine ae.cl (O1 := _) Met.none rfl (ah Tryz.func76 (by decide +kernel)) rfl (fun _ h => h) (pN _ (fI (b.take m, 0)).1 a4 c4 (by omega) (fun q => by have := (hG4.eh q).2; exact List.length_eq_zero_iff.1 this) (Src.cons hG4.src)) (fun v O' hp => ?_)
 obtain ⟨r6, a6, c6, G6, rfl, hG6, rfl⟩ := hp
 refine za rfl (zR rfl (zm rfl ?_))
 refine ae.cl (O1 := _) Met.none rfl (ah Tryz.func79 (by decide +kernel)) rfl (fun _ h => h) (xR _ r6 ((fI (b.take m, 0)).1, 0) a6 c6 (k2 hB) (by simp only; omega) hG6.oK (fun q => (hG6.eh q).1)) (fun v O' hp => ?_)
 obtain ⟨⟨z, rfl⟩, a7, c7, rfl, hr7, hc7⟩ := hp
 refine zR rfl (zm rfl ?_)
 refine ae.cl (O1 := _) Met.none rfl (ah Tryz.func78 (by decide +kernel)) rfl (fun _ h => h) (vY _ r6 (bO 0 0 ((fI (b.take m, 0)).1, 0)).2 a7 c7 (j3 (k2 hB)) (by omega) hr7 hc7) (fun v O' hp => ?_)
 obtain ⟨a8, c8, G8, rfl, hG8, a9, c9, rfl, hr9, hc9⟩ := hp
 rw [← hrec] at hG8 ⊢
 refine za rfl (ae.nil (Fin.aa (WX.ret ?_)))
 exact Fin.result (O' := G8 ++ O) (.inr rfl) rfl rfl aC ⟨a8, c8, G8, rfl, hG8, rfl⟩
theorem bK.some {O : an} {a : Option Addr} {n : Nat} {cs : List Value} (h : bK O 1 a n cs) (hn : 0 < n) : ∃ b off q, a = some ⟨b, off, none⟩ ∧ aU O b q ∧ q.sz = 1 := by
 rcases h with ⟨_, h, _⟩ | ⟨b, off, q, h1, h2, h3, _⟩
 · omega
 · exact ⟨b, off, q, h1, h2, h3⟩
theorem bK.nn {O : an} {b off n m : Nat} {cs : List Value} (h : bK O 1 (.some ⟨b, off, none⟩) n cs) (hm : m ≤ n) : bK O 1 (.some ⟨b, off + m * 1, none⟩) (n - m) (cs.drop m) := by
 rcases h with ⟨h, _⟩ | ⟨b2, off2, q, h1, h2, h3, h4, h5⟩
 · cases h
 · injection h1 with h1
   injection h1 with h1 h6
   subst h1 h6
   refine .inr ⟨b, off + m * 1, q, rfl, h2, h3, by omega, ?_⟩
   rw [← h5, ← List.drop_drop, List.drop_take, Nat.mul_one, Nat.mul_one, Nat.mul_one]
theorem vR (O : an) (l m : List Int) (a b : Option Addr) (c e : Nat) (hBl : Bytes l) (hBm : Bytes m) (hl : Src O 1 (.slice a l.length c) l.length (l.map B8)) (hm : Src O 1 (.slice b m.length e) m.length (m.map B8)) :
  Spec Tryz.prog true 80 #[.slice a l.length c, .slice b m.length e] O fun v O' => v = .bool (decide (l = m)) ∧ O' = O := by
 refine Spec.enter (args := [_, _]) (m := 10) Tryz.func80 rfl rfl (by decide +kernel) fun h0 => ?_
 refine WX.seq (WX.region rfl (za rfl (zR rfl (zm rfl ?_))))
 refine ae.toStr Met.none rfl Tryz.underlying39 Tryz.underlying9 Tryz.underlying5 iY ?_
 refine zm rfl ?_
 refine ae.toStr Met.none rfl Tryz.underlying39 Tryz.underlying9 Tryz.underlying5 iY ?_
 refine ae.zi Met.none rfl rfl (by assumption) (by assumption) ?_
 refine za rfl (ae.nil (Fin.aa (WX.ret ?_)))
 exact Fin.result (O' := O) (.inr rfl) rfl rfl au ⟨rfl, rfl⟩
theorem je (l m : List Int) : decide (m <+: l) = (decide (m.length ≤ l.length) && decide (l.take m.length = m)) := by
 rw [← Bool.decide_and]
 refine decide_eq_decide.2 ⟨fun h => ⟨h.length_le, (List.prefix_iff_eq_take.1 h).symm⟩, fun h => List.prefix_iff_eq_take.2 h.2.symm⟩
theorem pO (O : an) (l m : List Int) (a b : Option Addr) (c e : Nat) (hBl : Bytes l) (hBm : Bytes m) (hl : bK O 1 a l.length (l.map B8)) (hc : a = none → c = 0) (hm : Src O 1 (.slice b m.length e) m.length (m.map B8)) :
  Spec Tryz.prog true 62 #[.slice a l.length c, .slice b m.length e] O fun v O' => ∃ x, v = .bool x ∧ x = decide (m <+: l) ∧ O' = O := by
 refine Spec.enter (args := [_, _]) (m := 18) Tryz.func62 rfl rfl (by decide +kernel) fun h0 => ?_
 refine WX.seq (WX.region rfl (za rfl (zR rfl (zm rfl (ae.len Met.none rfl Tryz.underlying39 (zm rfl (ae.len Met.none rfl Tryz.underlying39 (zb rfl rfl rfl (zm rfl ?_)))))))))
 refine ae.split (d := 10) rfl (fun hg10 => ?_) (fun hg10 => ?_)
 · try simp only [aB] at hg10
   refine ae.move (Met.some rfl rfl rfl) rfl (ae.move (Met.some rfl rfl rfl) rfl (ae.len (Met.some rfl rfl rfl) rfl Tryz.underlying39 ?_))
   refine ae.pre (m := m.length) (Met.some rfl rfl rfl) rfl rfl aQ ea hl hc ?_
   refine ae.move (Met.some rfl rfl rfl) rfl ?_
   have hml : (l.take m.length).length = m.length := by rw [List.length_take]; omega
   have hr2 := hl.pre (m := m.length) (by omega)
   rw [Nat.mul_one, ← List.map_take] at hr2
   refine ae.cl (O1 := _) (Met.some rfl rfl rfl) rfl (ah Tryz.func80 (by decide +kernel)) rfl (fun _ h => h) ((by
   have := vR O (l.take m.length) m a b m.length e (fun x hx => hBl x (List.mem_of_mem_take hx)) hBm (by rw [hml]; exact hr2.src (fun q => hr2.eh q)) hm
   rw [hml] at this
   exact this)) (fun v O' hp => ?_)
   obtain ⟨rfl, hO⟩ := hp
   subst O'
   refine ae.bC Met.none rfl rfl (za rfl (ae.nil (Fin.aa (WX.ret ?_))))
   first
   | exact Fin.result (O' := O) (.inr rfl) rfl rfl au ⟨_, rfl, by rw [je, decide_eq_true (show m.length ≤ l.length by omega), Bool.true_and], rfl⟩
   | exact Fin.result (O' := O) (.inr rfl) rfl rfl au ⟨_, rfl, by rw [je, decide_eq_false (show ¬ m.length ≤ l.length by omega), Bool.false_and], rfl⟩
 · try simp only [aB] at hg10
   refine zs 5 10 rfl rfl rfl (zs 5 10 rfl rfl rfl (zs 5 10 rfl rfl rfl (zs 5 10 rfl rfl rfl (zs 5 10 rfl rfl rfl (zs 5 10 rfl rfl rfl (ae.bd Met.none rfl rfl (za rfl (ae.nil (Fin.aa (WX.ret ?_))))))))))
   first
   | exact Fin.result (O' := O) (.inr rfl) rfl rfl au ⟨_, rfl, by rw [je, decide_eq_true (show m.length ≤ l.length by omega), Bool.true_and], rfl⟩
   | exact Fin.result (O' := O) (.inr rfl) rfl rfl au ⟨_, rfl, by rw [je, decide_eq_false (show ¬ m.length ≤ l.length by omega), Bool.false_and], rfl⟩
def aG (b : List Int) : List (List Int) := (dB 0 b).1
def cZ (b : List Int) (k : Nat) : Nat := (cM 0 ((aG b).take k)).length
theorem ia {l : List (List Int)} {k : Nat} (h : k < l.length) : l.drop k = nth l k :: l.drop (k + 1) := by
 rw [dx h, List.drop_eq_getElem_cons h]
theorem jT (l m : List (List Int)) : ∀ i, cM i (l ++ m) = cM i l ++ cM (i + l.length) m := by
 induction l with
 | nil => intro i; rfl
 | cons x l ih =>
  intro i
  rw [List.cons_append, du, du, ih, List.append_assoc, List.length_cons]
  congr 3
  omega
theorem rY (i : Nat) (b : List Int) : (dB i b).1 = [] ∨ (b ≠ [] ∧ ar i (aS b) <+: b ∧ (dB i b).1 = aS b :: (dB (i + 1) (b.drop (ar i (aS b)).length)).1) := by
 rw [dB]
 split
 · rename_i h; exact .inr ⟨h.1, h.2, rfl⟩
 · exact .inl rfl
theorem kP (b : List Int) (i : Nat) : (dB i b).2 = (cM i (dB i b).1).length ∧ cM i (dB i b).1 <+: b := by
 rw [dB]
 split
 · rename_i h
   have hlt : (b.drop (ar i (aS b)).length).length < b.length := by
    have := jh i (aS b)
    have : 0 < b.length := List.length_pos_iff.2 h.1
    rw [List.length_drop]; omega
   obtain ⟨h1, h2⟩ := kP (b.drop (ar i (aS b)).length) (i + 1)
   rw [du, List.length_append, h1]
   refine ⟨rfl, ?_⟩
   obtain ⟨t1, e1⟩ := h.2
   obtain ⟨t2, e2⟩ := h2
   refine ⟨t2, ?_⟩
   rw [List.append_assoc, e2]
   conv => rhs; rw [← List.take_append_drop (ar i (aS b)).length b]
   rw [← List.prefix_iff_eq_take.1 h.2]
 · exact ⟨rfl, List.nil_prefix⟩
termination_by b.length
decreasing_by
 simpa only [List.length_drop] using hlt
theorem nh (b : List Int) (k : Nat) : cZ b k ≤ b.length := by
 have h := (kP b 0).2
 have : cM 0 (aG b) = cM 0 ((aG b).take k) ++ cM (0 + ((aG b).take k).length) ((aG b).drop k) := by rw [← jT, List.take_append_drop]
 have h2 := h.length_le
 change (cM 0 (aG b)).length ≤ _ at h2
 rw [this, List.length_append] at h2
 unfold cZ
 omega
theorem mO (b : List Int) (k : Nat) (hk : k < (aG b).length) : cZ b (k + 1) = cZ b k + (ar k (nth (aG b) k)).length := by
 unfold cZ
 rw [bG hk, jT, List.length_append, List.length_take, Nat.zero_add, Nat.min_eq_left (by omega), du, List.length_append]
 rfl
theorem qQ (b : List Int) : ∀ k, k ≤ (aG b).length → (aG b).drop k = (dB k (b.drop (cZ b k))).1 := by
 intro k
 induction k with
 | zero => intro _; rfl
 | succ k ih =>
  intro hk
  have h1 := ih (by omega)
  rcases rY k (b.drop (cZ b k)) with h2 | ⟨h2, h3, h4⟩
  · rw [h2] at h1
    have := congrArg List.length h1
    rw [List.length_drop] at this
    simp at this
    omega
  · rw [h4, ia (by omega)] at h1
    injection h1 with h5 h6
    rw [h6, List.drop_drop, mO b k (by omega), h5]
def vl (b : List Int) (k : Nat) (vs : List Value) (N : an) : Prop :=
 ∃ a c, vs = [.slice a (nth (aG b) k).length c, I (cZ b (k + 1) : Nat)] ∧ Grow 1 a (nth (aG b) k).length c ((nth (aG b) k).map B8) N
theorem gS {n : Int} {b : List Int} (h : Bytes b) : Bytes (ar n b) := fun x hx => by
 rcases List.mem_append.1 hx with q | q
 · exact oD (kc h) x q
 · exact lC _ x q
theorem mW : ∀ (l : List (List Int)) (i : Nat), l.length ≤ (cM i l).length
 | [], i => Nat.le_refl _
 | x :: l, i => by
  have := mW l (i + 1)
  have := jh i x
  rw [du, List.length_append, List.length_cons]
  omega
theorem kJ (b : List Int) : (aG b).length ≤ b.length := Nat.le_trans (mW _ 0) (kP b 0).2.length_le
theorem qm {β : Type} (OI : β → an) (Inv : Nat → β → Prop) (ρ : dV) (y : Nat) (b : List Int) (hB : Bytes b) (cb : Nat) (a : Option Addr) (c : Nat) (hlen : b.length ≤ 100000)
  (hbox : ∀ x, aU (OI x) cb ⟨0, false, [.slice a b.length c]⟩) (hr : ∀ x, bK (OI x) 1 a b.length (b.map B8)) (hc : a = none → c = 0) (x0 : β) (hI0 : Inv 0 x0)
  (hy : ∀ k x vs N, k < (aG b).length → Inv k x → vl b k vs N → pe Tryz.prog ρ y vs (N ++ OI x) fun O' => ∃ x', Inv (k + 1) x' ∧ O' = OI x') :
  fW Tryz.prog ρ false 60 #[Yd y, Ptr cb 0] (OI x0) fun v O' => ∃ x', Inv (aG b).length x' ∧ O' = OI x' := by
 have hend := nh b
 have hrl := kJ b
 refine fW.enter (args := [_, _]) (m := 35) Tryz.func60 rfl rfl (by decide +kernel) fun h0 => ?_
 refine WX.seq (WX.region rfl (za rfl (zR rfl (za rfl (ae.nil (Fin.aa (WX.block ?_)))))))
 refine WX.loop (fun q : Nat × β => [(0, Yd y), (1, Ptr cb 0), (3, I (cZ b q.1 : Nat)), (4, I (q.1 : Int))]) (fun q => OI q.2) (fun q => q.1 ≤ (aG b).length ∧ Inv q.1 q.2) (fun q => (aG b).length - q.1) (0, x0) ⟨Nat.zero_le _, hI0⟩ (fun s hs => hs.tl [] 0) (fun q hq => ?_)
 obtain ⟨k, x⟩ := q
 obtain ⟨hk, hI⟩ := hq
 simp only at hk hI
 dsimp only
 have hb1 := hbox x
 have hr1 := hr x
 have hek := hend k
 have hat := qQ b k hk
 refine WX.seq (WX.seq (WX.region rfl (zm rfl ?_)))
 first | refine ae.ld Met.none rfl aD ?_ | refine ae.ba Met.none rfl aD ?_
 refine ae.len Met.none rfl Tryz.underlying39 (zb rfl rfl rfl (ae.nil (Fin.aa ?_)))
 refine WX.cond rfl (fun hc0 => ?_) (fun hc0 => ?_)
 · try simp only [aB] at hc0
   refine WX.skip (Fin.aa (WX.seq (WX.block (WX.seq ?_))))
   obtain ⟨bb, off, ⟨qsz, qro, qc⟩, rfl, hkq, hqs⟩ := hr1.some (by omega)
   have hqs : qsz = 1 := hqs
   subst hqs
   have hr2 := hr1.nn (m := cZ b k) hek
   obtain ⟨t, ht⟩ : ∃ t, t = b.drop (cZ b k) := ⟨_, rfl⟩
   rw [← List.map_drop, ← ht] at hr2
   rw [← ht] at hat
   have htl : t.length = b.length - cZ b k := by rw [ht, List.length_drop]
   have htB : Bytes t := fun z hz => hB z (List.mem_of_mem_drop (ht ▸ hz))
   obtain ⟨f1, f2⟩ := iI t
   have htn : t ≠ [] := fun q => by rw [q] at htl; simp at htl; omega
   refine WX.region rfl ?_
   first | refine ae.ld Met.none rfl aD ?_ | refine ae.ba Met.none rfl aD ?_
   refine zm rfl ?_
   refine ae.nn (cs := []) (m := (cZ b k)) Met.none rfl rfl aQ ea rfl hkq rfl ?_
   refine ae.cl (O1 := _) Met.none rfl (ah Tryz.func61 (by decide +kernel)) rfl (fun _ h => h) ((by
   have := tx (OI x) t (some ⟨bb, off + cZ b k * 1, none⟩) (b.length - cZ b k) htB (by omega) (by rw [htl]; exact hr2) (fun q => by cases q)
   rw [htl] at this
   exact this)) (fun v O' hp => ?_)
   obtain ⟨a5, c5, G5, rfl, hG5, rfl⟩ := hp
   refine za rfl (zR rfl (zm rfl (zm rfl ?_)))
   refine ae.cl (O1 := _) Met.none rfl (ah Tryz.func36 (by decide +kernel)) rfl (fun _ h => h) (oC _ (k : Int) (aS t) a5 c5 (by unfold dG; omega) (f2 htB) (by omega) hG5.src) (fun v O' hp => ?_)
   obtain ⟨a6, c6, G6, rfl, hG6, rfl⟩ := hp
   refine za rfl (ae.nil (Fin.aa (WX.seq (WX.seq (WX.region rfl ?_)))))
   first | refine ae.ld Met.none rfl aD ?_ (hk := hb1.app.app) | refine ae.ba Met.none rfl aD ?_
   refine zm rfl ?_
   refine ae.nn (cs := []) (m := (cZ b k)) Met.none rfl rfl aQ ea rfl hkq.app.app rfl ?_
   refine zm rfl ?_
   refine ae.cl (O1 := _) Met.none rfl (ah Tryz.func62 (by decide +kernel)) rfl (fun _ h => h) ((by
   have := pO (G6 ++ (G5 ++ OI x)) t (ar k (aS t)) (some ⟨bb, off + cZ b k * 1, none⟩) a6 (b.length - cZ b k) c6 htB (gS (f2 htB)) (by rw [htl]; exact hr2.app.app) (fun q => by cases q) hG6.src
   rw [htl] at this
   exact this)) (fun v O' hp => ?_)
   obtain ⟨bx, rfl, hbx, rfl⟩ := hp
   refine ae.not Met.none rfl (ae.nil (Fin.aa ?_))
   try simp only [Bool.not_eq_true']
   refine WX.cond rfl (fun hc1 => ?_) (fun hc1 => ?_)
   · try simp only [aB] at hc1
     refine WX.ret (Fin.az (Fin.bq (Fin.az (Fin.dL (Fin.bq ?_)))))
     first
     | (have hkk : k = (aG b).length := by
          have hd : b.drop (cZ b k) = [] := List.drop_eq_nil_of_le (by omega)
          rw [hd, dB, dif_neg (fun q => q.1 rfl)] at hat
          have := congrArg List.length hat
          rw [List.length_drop, List.length_nil] at this
          omega
        subst hkk
        exact Fin.result (O' := OI x) (.inl rfl) rfl rfl (fun _ h => h) ⟨x, hI, rfl⟩)
     | (have hkk : k = (aG b).length := by
          rw [hc1] at hbx
          have hnp := of_decide_eq_false hbx.symm
          rw [dB, dif_neg (fun q => hnp q.2)] at hat
          have := congrArg List.length hat
          rw [List.length_drop, List.length_nil] at this
          omega
        subst hkk
        exact Fin.result (O' := OI x) (.inr rfl) rfl rfl aC ⟨x, hI, rfl⟩)
   · try simp only [aB] at hc1
     refine WX.skip (Fin.aa (WX.seq ?_))
     have hpf : ar k (aS t) <+: t := by
      rw [hc1] at hbx
      exact of_decide_eq_true hbx.symm
     have hst : (aG b).drop k = aS t :: (dB (k + 1) (t.drop (ar k (aS t)).length)).1 := by
      rw [hat, dB, dif_pos ⟨htn, hpf⟩]
     have hk1 : k < (aG b).length := by
      have := congrArg List.length hst
      rw [List.length_drop, List.length_cons] at this
      omega
     have hnth : nth (aG b) k = aS t := by
      rw [ia hk1] at hst
      injection hst
     have hes : cZ b (k + 1) = cZ b k + (ar k (aS t)).length := by rw [mO b k hk1, hnth]
     have hek1 := hend (k + 1)
     refine WX.region rfl (zm rfl (zm rfl (ae.len Met.none rfl Tryz.underlying39 (ae.bin Met.none rfl rfl (show _ = some (I (cZ b (k + 1) : Nat)) from (nH (by omega) (by omega)).trans (congrArg (fun n => some (I n)) (by omega))) (za rfl (zR rfl (zm rfl (zm rfl (zm rfl ?_)))))))))
     refine ae.yield (O1 := G5 ++ OI x) Met.none rfl rfl aC rfl rfl rfl rfl (hy k x _ G5 hk1 hI ⟨a5, c5, by rw [hnth], by rw [hnth]; exact hG5⟩) (fun O' hp => ?_)
     obtain ⟨x', hI', rfl⟩ := hp
     refine ae.not Met.none rfl (ae.nil (Fin.aa ?_))
     refine WX.cond rfl (fun hc2 => nomatch hc2) (fun hc2 => ?_)
     refine WX.skip (Fin.ag (Fin.aa (WX.region rfl (zm rfl (zb rfl rfl dH (za rfl (ae.nil ?_)))))))
     exact Fin.aj (k + 1, x') ⟨by simp only; omega, hI'⟩ (by simp only; omega) (fun s hs => hs.tl [] 0)
 · try simp only [aB] at hc0
   refine WX.exit (Fin.aF (Fin.aN (Fin.aK rfl ?_)))
   first
   | (have hkk : k = (aG b).length := by
        have hd : b.drop (cZ b k) = [] := List.drop_eq_nil_of_le (by omega)
        rw [hd, dB, dif_neg (fun q => q.1 rfl)] at hat
        have := congrArg List.length hat
        rw [List.length_drop, List.length_nil] at this
        omega
      subst hkk
      exact Fin.result (O' := OI x) (.inl rfl) rfl rfl (fun _ h => h) ⟨x, hI, rfl⟩)
   | (have hkk : k = (aG b).length := by
        rw [hc1] at hbx
        have hnp := of_decide_eq_false hbx.symm
        rw [dB, dif_neg (fun q => hnp q.2)] at hat
        have := congrArg List.length hat
        rw [List.length_drop, List.length_nil] at this
        omega
      subst hkk
      exact Fin.result (O' := OI x) (.inr rfl) rfl rfl aC ⟨x, hI, rfl⟩)
def xx (O : an) (v : Value) (x : List Int) : Prop := ∃ a c, v = .slice a x.length c ∧ Src O 1 v x.length (x.map B8)
def fi (O : an) (vs : List Value) (xs : List (List Int)) : Prop := vs.length = xs.length ∧ ∀ k, k < xs.length → xx O (nth vs k) (nth xs k)
theorem xx.cons {O : an} {q : Nat × gl} {v : Value} {x : List Int} (h : xx O v x) : xx (q :: O) v x := by
 obtain ⟨a, c, h1, h2⟩ := h
 exact ⟨a, c, h1, h2.cons⟩
theorem xx.app {O N : an} {v : Value} {x : List Int} (h : xx O v x) : xx (N ++ O) v x := by
 obtain ⟨a, c, h1, h2⟩ := h
 exact ⟨a, c, h1, h2.app⟩
theorem fi.cons {O : an} {q : Nat × gl} {vs : List Value} {xs : List (List Int)} (h : fi O vs xs) : fi (q :: O) vs xs := ⟨h.1, fun k hk => (h.2 k hk).cons⟩
theorem fi.app {O N : an} {vs : List Value} {xs : List (List Int)} (h : fi O vs xs) : fi (N ++ O) vs xs := ⟨h.1, fun k hk => (h.2 k hk).app⟩
theorem fi.nil {O : an} : fi O [] [] := ⟨rfl, fun k hk => by simp at hk⟩
theorem rl {α : Type} [Inhabited α] (l : List α) (x : α) (k : Nat) : nth (l ++ [x]) k = if k < l.length then nth l k else if k = l.length then x else default := by
 unfold nth
 split
 · rename_i h; simp [List.getElem?_append_left h, List.getD_eq_getElem?_getD]
 · rename_i h
   split
   · rename_i h2; subst h2; simp [List.getD_eq_getElem?_getD]
   · simp [List.getD_eq_getElem?_getD, List.getElem?_eq_none (show (l ++ [x]).length ≤ k by simp; omega)]
theorem fi.snoc {O : an} {vs : List Value} {xs : List (List Int)} {v : Value} {x : List Int} (h : fi O vs xs) (hv : xx O v x) : fi O (vs ++ [v]) (xs ++ [x]) := by
 obtain ⟨h1, h2⟩ := h
 refine ⟨by simp [h1], fun k hk => ?_⟩
 rw [rl, rl, h1]
 rw [List.length_append, List.length_singleton] at hk
 split
 · exact h2 k (by assumption)
 · rw [if_pos (by omega), if_pos (by omega)]; exact hv
structure yV where
 k : Nat
 a : Option Addr
 c : Nat
 vs : List Value
 G : an
 R : an
theorem rR (O : an) (a : Option Addr) (n c : Nat) :
  Spec Tryz.prog false 44 #[.slice a n c] O fun v O' => ∃ cb, v = .func (.func 60) #[] #[Ptr cb 0] ∧ O' = (cb, ⟨0, false, [.slice a n c]⟩) :: O := by
 refine Spec.enter (args := [_]) (m := 4) Tryz.func44 rfl rfl (by decide +kernel) fun h0 => ?_
 refine WX.seq (WX.region rfl ?_)
 refine ae.box (c := [_]) Met.none rfl rfl rfl (fun b1 => ?_)
 refine za rfl (zR rfl ?_)
 refine ae.makeFunc Met.none rfl rfl ?_
 refine za rfl (ae.nil (Fin.aa (WX.ret ?_)))
 exact Fin.result (O' := (b1, ⟨0, false, [.slice a n c]⟩) :: O) (.inr rfl) rfl rfl au ⟨b1, rfl, rfl⟩
theorem Sat.vw {h : ai} {N O : an} (hs : Sat h (N ++ O)) : Sat h N :=
 ⟨by
  have := hs.nd
  rw [List.map_append, List.nodup_append] at this
  exact this.1, fun p hp => hs.is p (List.mem_append_left _ hp), hs.wf⟩
theorem Src.right {N O : an} {sz n : Nat} {v : Value} {cs : List Value} (h : Src N sz v n cs) : Src (N ++ O) sz v n cs := fun g hg => h g hg.vw
theorem fi.right {N O : an} {vs : List Value} {xs : List (List Int)} (h : fi N vs xs) : fi (N ++ O) vs xs := ⟨h.1, fun k hk => by
 obtain ⟨a, c, h1, h2⟩ := h.2 k hk
 exact ⟨a, c, h1, h2.right⟩⟩
theorem qG (O : an) (b : List Int) (a : Option Addr) (c : Nat) (hB : Bytes b) (hlen : b.length ≤ 100000) (hr : bK O 1 a b.length (b.map B8)) (hc : a = none → c = 0) :
  Spec Tryz.prog false 23 #[.slice a b.length c] O fun v O' => ∃ ao co vs G R, v = .tuple #[.slice ao (aG b).length co, I (cZ b (aG b).length : Nat)] ∧ Grow 1 ao (aG b).length co vs G ∧ fi R vs (aG b) ∧ O' = G ++ (R ++ O) := by
 have hrl := kJ b
 refine Spec.enter (args := [_]) (m := 19) Tryz.func23 rfl rfl (by decide +kernel) fun h0 => ?_
 refine WX.seq (WX.region rfl (za rfl (za rfl (zR rfl ?_))))
 refine ae.alloc (c := [_]) Met.none yf rfl (fun b4 => ?_)
 refine zR rfl ?_
 refine ae.alloc (c := [_]) Met.none ij rfl (fun b5 => ?_)
 refine ae.st (vs := [_]) (c' := [_]) Met.none rfl rfl rfl cj ?_
 refine ae.nil (Fin.aa (WX.seq (WX.seq (WX.region rfl (zm rfl ?_)))))
 refine ae.cl (O1 := _) Met.none rfl (ah Tryz.func44 (by decide +kernel)) rfl (fun _ h => h) (rR _ a b.length c) (fun v O' hp => ?_)
 obtain ⟨cb, rfl, rfl⟩ := hp
 refine ae.nil (Fin.aa (WX.block ?_))
 refine WX.nV (fun q : yV => (cb, ⟨0, false, [.slice a b.length c]⟩) :: (b5, ⟨0, false, [I (cZ b q.k : Nat)]⟩) :: (b4, ⟨0, false, [.slice q.a q.k q.c]⟩) :: (q.G ++ (q.R ++ O))) (fun k q => q.k = k ∧ Grow 1 q.a q.k q.c q.vs q.G ∧ fi q.R q.vs ((aG b).take k)) (fun k _ vs N => vl b k vs N) (aG b).length ⟨0, none, 0, [], [], []⟩ ⟨rfl, rfl⟩ rfl (ah Tryz.func60 (by decide +kernel)) (fun s hs => hs.sat) rfl ⟨rfl, .nil, .nil⟩ (fun k y vs N hvs => by obtain ⟨a1, c1, h1, _⟩ := hvs; rw [h1]; rfl)
  (fun ρ y hy => qm (fun q : yV => (cb, ⟨0, false, [.slice a b.length c]⟩) :: (b5, ⟨0, false, [I (cZ b q.k : Nat)]⟩) :: (b4, ⟨0, false, [.slice q.a q.k q.c]⟩) :: (q.G ++ (q.R ++ O))) (fun k q => q.k = k ∧ Grow 1 q.a q.k q.c q.vs q.G ∧ fi q.R q.vs ((aG b).take k)) ρ y b hB cb a c hlen (fun x => aU.at 0 rfl) (fun x => hr.app.app.cons.cons.cons) hc ⟨0, none, 0, [], [], []⟩ ⟨rfl, .nil, .nil⟩ hy) (fun h0 ρ k q vs N hk hq hvs => ?_) (fun q hq => ?_)
 · refine WX.seq ?_
   refine WX.seq ?_
   obtain ⟨k', aw, cw, ws, Gw, R⟩ := q
   obtain ⟨hkk, hGw, hRw⟩ := hq
   simp only at hkk hGw hRw
   subst hkk
   obtain ⟨a1, c1, rfl, hN⟩ := hvs
   dsimp only
   refine WX.re (O' := (cb, ⟨0, false, [.slice a b.length c]⟩) :: (b5, ⟨0, false, [I (cZ b k' : Nat)]⟩) :: (b4, ⟨0, false, [.slice aw k' cw]⟩) :: (Gw ++ (N ++ (R ++ O)))) ?_
   refine WX.region rfl (za rfl (ae.nil (Fin.aa (WX.region rfl (za rfl (ae.nil (Fin.aa (WX.block (WX.seq (WX.region rfl ?_))))))))))
   first | refine ae.ld Met.none rfl bJ ?_ | refine ae.ba Met.none rfl bJ ?_
   refine zm rfl ?_
   refine ae.buildSlice (c := [_]) Met.none rfl aR aO ki (by decide) (by decide) rfl rfl rfl rfl (fun b14 => ?_)
   refine ae.mS [_, _, _, _] Met.none rfl rfl p7 aR aO wJ ki (Src.lit (cs := [_])) (fun a15 c15 G15 hG15 => ?_)
   refine ae.st (vs := [_]) (c' := [_]) Met.none rfl rfl rfl cH ?_
   refine ae.nil (Fin.aa (WX.region rfl (zm rfl ?_)))
   refine ae.st (vs := [_]) (c' := [_]) Met.none rfl rfl rfl cj ?_
   refine ae.nil (Fin.ag ?_)
   have hb : fi (N ++ R) (ws ++ [.slice a1 (nth (aG b) k').length c1]) ((aG b).take (k' + 1)) := by
    rw [bG hk]
    exact hRw.app.snoc ⟨a1, c1, rfl, hN.src⟩
   exact Fin.round (⟨k' + 1, a15, c15, ws ++ [.slice a1 (nth (aG b) k').length c1], G15, N ++ R⟩ : yV) ⟨rfl, hG15, hb⟩ aC
 · skip
   refine Fin.ag (Fin.aa (WX.seq ?_))
   refine WX.draw rfl ?_
   first | refine ae.ld Met.none rfl bJ ?_ | refine ae.ba Met.none rfl bJ ?_
   first | refine ae.ld Met.none rfl bY ?_ | refine ae.ba Met.none rfl bY ?_
   refine za rfl (za rfl (ae.nil (Fin.aa (WX.ret ?_))))
   obtain ⟨k', aw, cw, ws, Gw, R⟩ := q
   obtain ⟨hkk, hGw, hRw⟩ := hq
   simp only at hkk hGw hRw
   subst hkk
   rw [List.take_length] at hRw
   exact Fin.result (O' := Gw ++ (R ++ O)) (.inr rfl) rfl rfl aC ⟨aw, cw, ws, Gw, R, rfl, hGw, hRw, rfl⟩
theorem xg (O : an) (b : List Int) (a : Option Addr) (c : Nat) (hB : Bytes b) (hlen : b.length ≤ 100000) (hr : bK O 1 a b.length (b.map B8)) (hc : a = none → c = 0) :
  Spec Tryz.prog false 23 #[.slice a b.length c] O fun v O' => ∃ ao co vs G R, v = .tuple #[.slice ao (aG b).length co, I (cZ b (aG b).length : Nat)] ∧ Grow 1 ao (aG b).length co vs G ∧ fi (R ++ O) vs (aG b) ∧ O' = G ++ (R ++ O) :=
 (qG O b a c hB hlen hr hc).mono fun v O' ⟨ao, co, vs, G, R, h1, h2, h3, h4⟩ => ⟨ao, co, vs, G, R, h1, h2, h3.right, h4⟩
end Go.Proofs.YthekokdpplobhaaGreat.Eng
set_option maxRecDepth 8000
namespace Go.Proofs.YthekokdpplobhaaGreat.Eng
theorem lP (O : an) (xs ys : List (List Int)) (vs ws : List Value) (a b : Option Addr) (c e : Nat) (hlen : xs.length ≤ 1000000000) (hsh : ∀ x ∈ xs, x.length ≤ 1000000000) (hv : Src O 1 (.slice a xs.length c) xs.length vs) (hw : Src O 1 (.slice b ys.length e) ys.length ws) (hx : fi O vs xs) (hy : fi O ws ys) :
  Spec Tryz.prog true 13 #[.slice a xs.length c, .slice b ys.length e] O fun v O' => ∃ x, v = .bool x ∧ x = decide (xs = ys) ∧ O' = O := by
 refine Spec.enter (args := [_, _]) (m := 27) Tryz.func13 rfl rfl (by decide +kernel) fun h0 => ?_
 refine WX.seq (WX.region rfl (za rfl (ae.nil (Fin.aa (WX.seq (WX.seq (WX.region rfl (zm rfl (ae.len Met.none rfl Tryz.underlying29 (zm rfl (ae.len Met.none rfl Tryz.underlying29 (zb rfl rfl rfl (ae.nil (Fin.aa ?_))))))))))))))
 refine WX.cond rfl (fun hc0 => ?_) (fun hc0 => ?_)
 · try simp only [aB] at hc0
   refine WX.seq (WX.region rfl (za rfl (ae.nil (Fin.aa (WX.ret (Fin.az ?_))))))
   first
   | exact Fin.result (O' := O) (.inr rfl) rfl rfl au ⟨_, rfl, (decide_eq_false (fun h => hc0 (by rw [h]))).symm, rfl⟩
   | exact Fin.result (O' := O) (.inr rfl) rfl rfl au ⟨_, rfl, (decide_eq_false (fun h => hc2 (by rw [h]))).symm, rfl⟩
   | exact Fin.result (O' := O) (.inr rfl) rfl rfl au ⟨_, rfl, (decide_eq_true (by
     have e1 : k = xs.length := by omega
     have e2 := hk.2
     rw [e1, List.take_length, List.take_of_length_le (by omega)] at e2
     exact e2)).symm, rfl⟩
 · try simp only [aB] at hc0
   refine WX.skip (Fin.aa (WX.seq (WX.seq (WX.region rfl (za rfl (ae.nil (Fin.aa (WX.block ?_))))))))
   refine WX.loop (fun k : Nat => [(0, .slice a xs.length c), (1, .slice b ys.length e), (5, I k)]) (fun _ => O) (fun k => k ≤ xs.length ∧ xs.take k = ys.take k) (fun k => xs.length - k) 0 ⟨Nat.zero_le _, rfl⟩ (fun s hs => hs.tl [] 0) (fun k hk => ?_)
   refine WX.seq (WX.seq (WX.region rfl (zm rfl (zm rfl (ae.len Met.none rfl Tryz.underlying29 (zb rfl rfl rfl (ae.nil (Fin.aa ?_))))))))
   refine WX.cond rfl (fun hc1 => ?_) (fun hc1 => ?_)
   · try simp only [aB] at hc1
     refine WX.skip (Fin.aa (WX.seq (WX.block (WX.seq ?_))))
     have hk1 : k < xs.length := by omega
     have hk2 : k < ys.length := by omega
     obtain ⟨a1, c1, e1, s1⟩ := hx.2 k hk1
     obtain ⟨a2, c2, e2, s2⟩ := hy.2 k hk2
     rw [e1] at s1
     rw [e2] at s2
     refine WX.draw rfl ?_
     refine zm rfl (zm rfl ?_)
     first | refine ae.ix Met.none rfl rfl aR aO ?_ | refine ae.eH Met.none rfl rfl aR aO ?_
     first | refine ae.ld Met.none rfl aD ?_ (hv := (show vs[k]? = some (.slice a1 (nth xs k).length c1) from by rw [← e1]; exact dq (by rw [hx.1]; exact hk1))) | refine ae.ba Met.none rfl aD ?_ (hv := (show vs[k]? = some (.slice a1 (nth xs k).length c1) from by rw [← e1]; exact dq (by rw [hx.1]; exact hk1)))
     refine zm rfl (zm rfl ?_)
     first | refine ae.ix Met.none rfl rfl aR aO ?_ | refine ae.eH Met.none rfl rfl aR aO ?_
     first | refine ae.ld Met.none rfl aD ?_ (hv := (show ws[k]? = some (.slice a2 (nth ys k).length c2) from by rw [← e2]; exact dq (by rw [hy.1]; exact hk2))) | refine ae.ba Met.none rfl aD ?_ (hv := (show ws[k]? = some (.slice a2 (nth ys k).length c2) from by rw [← e2]; exact dq (by rw [hy.1]; exact hk2)))
     refine ae.cl (O1 := _) Met.none rfl (ah Tryz.func20 (by decide +kernel)) rfl (fun _ h => h) (gD O (nth xs k) (nth ys k) a1 a2 c1 c2 (by have := hsh _ (dK hk1); unfold hJ; omega) s1 s2) (fun v O' hp => ?_)
     obtain ⟨rfl, hO⟩ := hp
     subst O'
     refine ae.not Met.none rfl (ae.nil (Fin.aa ?_))
     refine WX.cond rfl (fun hc2 => ?_) (fun hc2 => ?_)
     · try simp only [aB] at hc2
       refine WX.seq (WX.region rfl (za rfl (ae.nil (Fin.aa (WX.ret (Fin.bq (Fin.az (Fin.dL (Fin.bq (Fin.az ?_))))))))))
       first
       | exact Fin.result (O' := O) (.inr rfl) rfl rfl au ⟨_, rfl, (decide_eq_false (fun h => hc0 (by rw [h]))).symm, rfl⟩
       | exact Fin.result (O' := O) (.inr rfl) rfl rfl au ⟨_, rfl, (decide_eq_false (fun h => hc2 (by rw [h]))).symm, rfl⟩
       | exact Fin.result (O' := O) (.inr rfl) rfl rfl au ⟨_, rfl, (decide_eq_true (by
         have e1 : k = xs.length := by omega
         have e2 := hk.2
         rw [e1, List.take_length, List.take_of_length_le (by omega)] at e2
         exact e2)).symm, rfl⟩
     · try simp only [aB] at hc2
       refine WX.skip (Fin.ag (Fin.aa (WX.region rfl (zm rfl (zb rfl rfl dH (za rfl (ae.nil ?_)))))))
       refine Fin.aj (k + 1) ⟨by omega, ?_⟩ (by omega) (fun s hs => hs.tl [] 0)
       rw [bG hk1, bG hk2, hk.2, hc2]
   · try simp only [aB] at hc1
     refine WX.exit (Fin.aF (Fin.aN (Fin.aK rfl (Fin.aa (WX.seq (WX.region rfl (za rfl (ae.nil (Fin.aa (WX.ret ?_))))))))))
     first
     | exact Fin.result (O' := O) (.inr rfl) rfl rfl au ⟨_, rfl, (decide_eq_false (fun h => hc0 (by rw [h]))).symm, rfl⟩
     | exact Fin.result (O' := O) (.inr rfl) rfl rfl au ⟨_, rfl, (decide_eq_false (fun h => hc2 (by rw [h]))).symm, rfl⟩
     | exact Fin.result (O' := O) (.inr rfl) rfl rfl au ⟨_, rfl, (decide_eq_true (by
       have e1 : k = xs.length := by omega
       have e2 := hk.2
       rw [e1, List.take_length, List.take_of_length_le (by omega)] at e2
       exact e2)).symm, rfl⟩
theorem js {n m : Int} (hm : 0 < m) : 0 ≤ il n m ∧ il n m < m := by
 unfold il
 split
 · rw [Int.tmod_eq_emod_of_nonneg (by omega)]
   exact ⟨Int.emod_nonneg _ (by omega), Int.emod_lt_of_pos _ hm⟩
 · rw [Int.tmod_eq_emod_of_nonneg (by omega)]
   exact ⟨Int.emod_nonneg _ (by omega), Int.emod_lt_of_pos _ hm⟩
theorem rA (n : Int) : 0 ≤ IntKind.wrap .u8 n ∧ IntKind.wrap .u8 n < 256 := by
 unfold IntKind.wrap
 have e1 : (2 : Int) ^ IntKind.bits .u8 = 256 := rfl
 have e3 : IntKind.signed .u8 = false := rfl
 simp only [e1, e3, Bool.false_and, Bool.false_eq_true, if_false]
 omega
structure zd where
 xs : List (List Int)
 a : Option Addr
 c : Nat
 vs : List Value
 G : an
 R : an
def yK (xs : List (List Int)) : Prop := xs.length ≤ 6 ∧ ∀ x ∈ xs, Bytes x ∧ x.length ≤ 10
theorem oO (O : an) (l : List Int) (a : Option Addr) (c : Nat) (hl64 : ∀ n ∈ l, dG n) (hlen : hJ l) (hl : Src O 1 (.slice a l.length c) l.length (l.map I)) :
  Spec Tryz.prog false 14 #[.slice a l.length c] O fun v O' => ∃ xs ao co vs G R, v = .slice ao xs.length co ∧ Grow 1 ao xs.length co vs G ∧ fi R vs xs ∧ yK xs ∧ O' = G ++ (R ++ O) ∧ xs.length = min l.length 6 := by
 unfold hJ at hlen
 refine Spec.enter (args := [_]) (m := 44) Tryz.func14 rfl rfl (by decide +kernel) fun h0 => ?_
 refine WX.seq (WX.region rfl (za rfl (zR rfl (za rfl (ae.nil (Fin.aa (WX.seq (WX.seq (WX.region rfl (za rfl (ae.nil (Fin.aa (WX.block ?_)))))))))))))
 refine WX.loop (fun q : zd => [(0, .slice a l.length c), (3, .slice q.a q.xs.length q.c), (4, I (q.xs.length : Int))]) (fun q => q.G ++ (q.R ++ O)) (fun q => q.xs.length ≤ l.length ∧ Grow 1 q.a q.xs.length q.c q.vs q.G ∧ fi q.R q.vs q.xs ∧ yK q.xs) (fun q => 6 - q.xs.length) ⟨[], none, 0, [], [], []⟩ ⟨Nat.zero_le _, .nil, .nil, by decide, fun x hx => by simp at hx⟩ (fun s hs => hs.tl [] 0) (fun q hq => ?_)
 obtain ⟨xs, ao, co, vs, G, R⟩ := q
 obtain ⟨h1, hG, hvs, hR1, hR2⟩ := hq
 simp only at h1 hG hvs hR1 hR2
 dsimp only
 have hls : Src (G ++ (R ++ O)) 1 (.slice a l.length c) l.length (l.map I) := Src.app (Src.app hl)
 refine WX.seq (WX.seq (WX.region rfl (zm rfl (zm rfl (ae.len Met.none rfl Tryz.underlying22 (zb rfl rfl rfl (zm rfl ?_)))))))
 refine ae.split (d := 12) rfl (fun hg12 => ?_) (fun hg12 => ?_)
 · try simp only [aB] at hg12
   refine ae.move (Met.some rfl rfl rfl) rfl (ae.bin (Met.some rfl rfl rfl) rfl rfl rfl (ae.bC Met.none rfl rfl (ae.nil (Fin.aa ?_))))
   refine WX.cond rfl (fun hc0 => ?_) (fun hc0 => ?_)
   · try simp only [aB] at hc0
     refine WX.skip (Fin.aa (WX.seq (WX.block (WX.seq ?_))))
     have hk1 : xs.length < l.length := by omega
     have hn64 := hl64 _ (dK hk1)
     obtain ⟨n, hn⟩ : ∃ n, n = il (nth l xs.length) 1000 := ⟨_, rfl⟩
     have hnr := js (n := nth l xs.length) (m := 1000) (by decide)
     rw [← hn] at hnr
     refine WX.region rfl (zm rfl (zm rfl ?_))
     first | refine ae.ix Met.none rfl rfl bh cj ?_ | refine ae.eH Met.none rfl rfl bh cj ?_
     first | refine ae.ld Met.none rfl bY ?_ | refine ae.ba Met.none rfl bY ?_
     refine ae.cl (O1 := _) Met.none rfl (ah Tryz.func4 (by decide +kernel)) rfl (fun _ h => h) (kM _ (nth l xs.length) 1000 hn64 (by decide)) (fun v O' hp => ?_)
     obtain ⟨rfl, hO⟩ := hp
     subst O'
     rw [← hn]
     have hnm : 0 ≤ n.tmod 11 ∧ n.tmod 11 ≤ 10 := by rw [Int.tmod_eq_emod_of_nonneg hnr.1]; omega
     refine za rfl (zR rfl (za rfl (ae.nil (Fin.aa (WX.seq (WX.seq (WX.region rfl (za rfl (ae.nil (Fin.aa (WX.block ?_)))))))))))
     refine WX.loop (fun q : List Int × Option Addr × Nat × an => [(0, .slice a l.length c), (3, .slice ao xs.length co), (4, I (xs.length : Int)), (5, I n), (6, .slice q.2.1 q.1.length q.2.2.1), (7, I (q.1.length : Int))]) (fun q => q.2.2.2 ++ (G ++ (R ++ O))) (fun q => (q.1.length : Int) ≤ n.tmod 11 ∧ Bytes q.1 ∧ Grow 1 q.2.1 q.1.length q.2.2.1 (q.1.map B8) q.2.2.2) (fun q => 10 - q.1.length) ([], none, 0, []) ⟨by simp only [List.length_nil]; omega, fun x hx => by simp at hx, .nil⟩ (fun s hs => hs.tl [] 0) (fun q hq => ?_)
     obtain ⟨y, ay, cy, Gy⟩ := q
     obtain ⟨hy1, hyB, hGy⟩ := hq
     simp only at hy1 hyB hGy
     dsimp only
     refine WX.seq (WX.seq (WX.region rfl (zm rfl (zm rfl ?_))))
     refine ae.rem Met.none rfl rfl (by omega) ?_
     refine zb rfl rfl rfl (ae.nil (Fin.aa ?_))
     refine WX.cond rfl (fun hc1 => ?_) (fun hc1 => ?_)
     · try simp only [aB] at hc1
       refine WX.skip (Fin.aa (WX.seq (WX.block (WX.region rfl (zm rfl (zm rfl ?_))))))
       refine ae.qu Met.none rfl rfl ?_
       refine zm rfl (zm rfl (zb rfl rfl rfl (zb rfl rfl rfl ?_)))
       refine ae.conv Met.none rfl Tryz.underlying3 Tryz.underlying5 rfl ?_
       refine ae.buildSlice (c := [_]) Met.none rfl aQ ea dA (by decide) (by decide) rfl rfl rfl rfl (fun b37 => ?_)
       refine ae.mS [_] Met.none rfl rfl dQ aQ ea qt dA (Src.lit (cs := [_])) (fun a38 c38 G38 hG38 => ?_)
       refine za rfl (ae.nil (Fin.ag (Fin.aa (WX.region rfl (zm rfl (zb rfl rfl dH (za rfl (ae.nil ?_))))))))
       refine Fin.aj (y ++ [IntKind.wrap .u8 (IntKind.wrap .i64 (n.tdiv 11 + IntKind.wrap .i64 ((y.length : Int) * n)))], a38, c38, G38) ⟨by simp only [List.length_append, List.length_singleton]; omega, ?_, ?_⟩ (by simp only [List.length_append, List.length_singleton]; omega) ?_
       · intro z hz
         rcases List.mem_append.1 hz with q | q
         · exact hyB z q
         · rw [List.mem_singleton] at q; subst q; exact rA _
       · simp only [List.length_append, List.length_singleton, List.map_append]; exact hG38
       · simp only [List.length_append, List.length_singleton]
         exact (fun s hs => hs.tl [] 1)
     · try simp only [aB] at hc1
       refine WX.exit (Fin.aF (Fin.aN (Fin.aK rfl (Fin.aa ?_))))
       refine WX.re (O' := G ++ (Gy ++ (R ++ O))) ?_
       refine WX.region rfl (zm rfl (zm rfl ?_))
       refine ae.buildSlice (c := [_]) Met.none rfl aR aO ki (by decide) (by decide) rfl rfl rfl rfl (fun b41 => ?_)
       refine ae.mS [_] Met.none rfl rfl p7 aR aO wJ ki (Src.lit (cs := [_])) (fun a42 c42 G42 hG42 => ?_)
       refine za rfl (ae.nil (Fin.ag (Fin.aa (WX.region rfl (zm rfl (zb rfl rfl dH (za rfl (ae.nil ?_))))))))
       refine Fin.aj (⟨xs ++ [y], a42, c42, vs ++ [.slice ay y.length cy], G42, Gy ++ R⟩ : zd) ⟨by simp only [List.length_append, List.length_singleton]; omega, ?_, ?_, ?_, ?_⟩ (by simp only [List.length_append, List.length_singleton]; omega) ?_
       · simp only [List.length_append, List.length_singleton]; exact hG42
       · simp only
         exact hvs.app.snoc ⟨ay, cy, rfl, hGy.src⟩
       · simp only [List.length_append, List.length_singleton]; omega
       · intro x hx
         rcases List.mem_append.1 hx with q | q
         · exact hR2 x q
         · rw [List.mem_singleton] at q; subst q; exact ⟨hyB, by omega⟩
       · simp only [List.length_append, List.length_singleton, List.append_assoc]
         exact (fun s hs => hs.tl [] 1)
   · try simp only [aB] at hc0
     refine WX.exit (Fin.aF (Fin.aN (Fin.aK rfl (Fin.aa (WX.seq (WX.region rfl (zm rfl (za rfl (ae.nil (Fin.aa (WX.ret ?_)))))))))))
     exact Fin.result (O' := G ++ (R ++ O)) (.inr rfl) rfl rfl aC ⟨xs, ao, co, vs, G, R, rfl, hG, hvs, ⟨hR1, hR2⟩, rfl, by omega⟩
 · try simp only [aB] at hg12
   refine zs 4 12 rfl rfl rfl (zs 4 12 rfl rfl rfl (ae.bd Met.none rfl rfl (ae.nil (Fin.aa ?_))))
   refine WX.cond rfl (fun hc0 => nomatch hc0) (fun hc0 => ?_)
   refine WX.exit (Fin.aF (Fin.aN (Fin.aK rfl (Fin.aa (WX.seq (WX.region rfl (zm rfl (za rfl (ae.nil (Fin.aa (WX.ret ?_)))))))))))
   exact Fin.result (O' := G ++ (R ++ O)) (.inr rfl) rfl rfl aC ⟨xs, ao, co, vs, G, R, rfl, hG, hvs, ⟨hR1, hR2⟩, rfl, by omega⟩
theorem Src.tH {O : an} {b n c : Nat} {r : Bool} {cs : List Value} (hl : cs.length = n) : Src ((b, ⟨1, r, cs⟩) :: O) 1 (.slice (some ⟨b, 0, none⟩) n c) n cs :=
 Src.of (y := ⟨1, r, cs⟩) (aU.at 0 rfl) (by show 0 + n * 1 ≤ cs.length; omega) (by show (cs.drop 0).take (n * 1) = cs; rw [Nat.mul_one, List.drop_zero, ← hl, List.take_length])
theorem nQ (n : Nat) : 0 < (bA n).length := by
 rw [bA]; split <;> simp
theorem rp (x : List Int) : x.length < (dI x).length := by
 unfold dI
 have := nQ x.length
 rw [List.length_append]
 omega
theorem ka (i : Int) (x : List Int) : x.length + 4 ≤ (ar i x).length := by
 unfold ar
 rw [List.length_append]
 have h1 := rp (aY i x)
 have h2 := nQ (dD eE (aY i x)).toNat
 have h3 := rp x
 have h4 := nQ (ff i).toNat
 have h5 : (aY i x).length = (bA (ff i).toNat).length + (dI x).length := by unfold aY; rw [List.length_append]
 omega
theorem rT : aY 0 [7] = [0, 1, 7] := by
 unfold aY dI
 have h1 : (ff 0).toNat = 0 := rfl
 rw [h1, cY (by decide), cY (by decide)]
 rfl
theorem sg (i : Nat) {b : List Int} (h : b.length < 4) : dB i b = ([], 0) := by
 rw [dB, dif_neg]
 rintro ⟨_, h2⟩
 have := h2.length_le
 have := ka i (aS b)
 omega
theorem yj : aG (ar 0 [7] ++ [3, 0, 1]) = [[7]] ∧ cZ (ar 0 [7] ++ [3, 0, 1]) 1 = (ar 0 [7]).length := by
 have h := pP [3, 0, 1] [[7]] 0 (by decide) (by intro x hx; simp at hx; subst hx; decide)
 have e : cM 0 [[7]] = ar 0 [7] := by rw [du]; show _ ++ [] = _; rw [List.append_nil]; rfl
 have h0 : dB (0 + ([[7]] : List (List Int)).length) [3, 0, 1] = ([], 0) := sg _ (by decide)
 rw [e, h0] at h
 have h1 : aG (ar 0 [7] ++ [3, 0, 1]) = [[7]] := by unfold aG; rw [h]; rfl
 refine ⟨h1, ?_⟩
 unfold cZ
 rw [h1]
 show (cM 0 [[7]]).length = _
 rw [e]
theorem wo : 4 < (ar 0 [7]).length := ka 0 [7]
theorem rj (O : an) : Spec Tryz.prog false 21 #[] O fun v O' => v = .bool true ∧ O' = O := by
 have hf7 := wo
 have hfl : (ar 0 [7]).length ≤ 100 := by
  unfold ar
  rw [List.length_append]
  have h1 := hP (b := aY 0 [7]) (by rw [rT]; decide)
  have h2 := gw eE (aY 0 [7])
  have h3 := ec (k := 9) (n := (dD eE (aY 0 [7])).toNat) (by unfold mB at h2; omega)
  rw [rT] at *
  simp only [List.length_cons, List.length_nil] at h1
  omega
 have hhr := gw eE [0, 1, 7]
 have hB7 : Bytes [7] := by intro x hx; simp at hx; omega
 have hB017 : Bytes [0, 1, 7] := by intro x hx; simp at hx; omega
 have hBl : Bytes eE := by unfold eE; intro x hx; simp at hx; omega
 have hrl := hP (b := [0, 1, 7]) (by decide)
 have hfe : dI [0, 1, 7] ++ bA (dD eE [0, 1, 7]).toNat = ar 0 [7] := by unfold ar; rw [rT]
 obtain ⟨hr1, hr2⟩ := yj
 simp only [List.length_cons, List.length_nil] at hrl
 refine Spec.enter (args := []) (m := 40) Tryz.func21 rfl rfl (by decide +kernel) fun h0 => ?_
 refine WX.seq (WX.region rfl (za rfl (zR rfl ?_)))
 refine ae.buildSlice (c := [_]) Met.none rfl aQ ea dA (by decide) (by decide) rfl rfl rfl rfl (fun b6 => ?_)
 refine ae.cl (O1 := _) Met.none rfl (ah Tryz.func36 (by decide +kernel)) rfl (fun _ h => h) (oC _ 0 [7] (some ⟨b6, 0, none⟩) 1 (by unfold dG; decide) hB7 (by decide) (Src.lit)) (fun v O' hp => ?_)
 obtain ⟨a1, c1, G1, rfl, hG1, rfl⟩ := hp
 refine za rfl (zR rfl ?_)
 refine ae.alloc (c := [_]) Met.none rQ rfl (fun b2 => ?_)
 refine zR rfl ?_
 refine ae.buildSlice (c := [_, _, _]) Met.none rfl aQ ea dA (by decide) (by decide) rfl rfl rfl rfl (fun b8 => ?_)
 refine ae.cl (O1 := (b2, ⟨0, false, [.slice none 0 0]⟩) :: ([] ++ ((b8, ⟨1, false, [B8 0, B8 1, B8 7]⟩) :: (G1 ++ ((b6, ⟨1, false, [B8 7]⟩) :: O))))) Met.none rfl (ah Tryz.func40 (by decide +kernel)) rfl (fun _ hs => hs.tl [1, 0] 2) (qs _ [] b2 [] [0, 1, 7] none (some ⟨b8, 0, none⟩) 0 3 hB017 (by decide) (by decide) .nil (Src.lit)) (fun v O' hp => ?_)
 obtain ⟨a2, c2, G2, hG2, rfl⟩ := hp
 rw [show [] ++ (bA ([0, 1, 7] : List Int).length ++ [0, 1, 7]) = dI [0, 1, 7] from rfl] at hG2 ⊢
 refine zR rfl ?_
 refine ae.buildSlice (c := [_, _, _]) Met.none rfl aQ ea dA (by decide) (by decide) rfl rfl rfl rfl (fun b10 => ?_)
 refine ae.cl (O1 := _) Met.none rfl (ah Tryz.func42 (by decide +kernel)) rfl (fun _ h => h) (sS _ eE [0, 1, 7] (some ⟨b10, 0, none⟩) 3 hBl hB017 (by decide) (by decide) (Src.lit)) (fun v O' hp => ?_)
 obtain ⟨rfl, hO⟩ := hp
 subst O'
 rw [show U (dD eE [0, 1, 7]) = U (((dD eE [0, 1, 7]).toNat : Nat) : Int) from by rw [Int.toNat_of_nonneg hhr.1]]
 refine ae.cl (O1 := (b2, ⟨0, false, [.slice a2 (dI [0, 1, 7]).length c2]⟩) :: (G2 ++ (G1 ++ O))) Met.none rfl (ah Tryz.func41 (by decide +kernel)) rfl aC (mb _ G2 b2 (dI [0, 1, 7]) a2 c2 (dD eE [0, 1, 7]).toNat (by unfold mB at hhr; omega) (by omega) hG2) (fun v O' hp => ?_)
 obtain ⟨a3, c3, G3, hG3, rfl⟩ := hp
 rw [hfe] at hG3 ⊢
 refine zR rfl (zm rfl (ae.len Met.none rfl Tryz.underlying39 (za rfl (zR rfl (zm rfl ?_)))))
 refine ae.buildSlice (c := [_, _, _]) Met.none rfl aQ ea dA (by decide) (by decide) rfl rfl rfl rfl (fun b17 => ?_)
 refine ae.wE (_ :: _ :: G3) Met.none rfl rfl dQ aQ ea qt dA (Src.lit (cs := [_, _, _])) (fun o18 b18 ha18 => ?_)
 have hsl : (ar 0 [7]).length + 3 = (ar 0 [7] ++ [3, 0, 1]).length := by rw [List.length_append]; rfl
 subst ha18
 rw [hsl]
 refine ae.cl (O1 := _) Met.none rfl (ah Tryz.func23 (by decide +kernel)) rfl (fun _ h => h) (xg _ (ar 0 [7] ++ [3, 0, 1]) (some ⟨b18, 0, none⟩) _ (fun x hx => by
 rcases List.mem_append.1 hx with q | q
 · exact gS hB7 x q
 · simp at q; omega) (by rw [← hsl]; omega) (.inr ⟨b18, 0, _, rfl, aU.at 0 rfl, rfl, by rw [← hsl]; simp, by
   rw [← hsl]
   show (List.map B8 (ar 0 [7]) ++ [B8 3, B8 0, B8 1]).take (((ar 0 [7]).length + 3) * 1) = _
   rw [List.take_of_length_le (by simp), List.map_append]
   rfl⟩) (fun q => by cases q)) (fun v O' hp => ?_)
 obtain ⟨ao, co, ws, Go, Ro, rfl, hGo, hRo, rfl⟩ := hp
 rw [hr1] at hGo hRo ⊢
 refine zm rfl (ze rfl rfl (ze rfl rfl (za rfl (za rfl (zR rfl (zm rfl ?_))))))
 refine ae.cl (O1 := _) Met.none rfl (ah Tryz.func43 (by decide +kernel)) rfl (fun _ h => h) (nu _ G3 b2 (ar 0 [7]) a3 c3 (by omega) hG3 (Src.app (Src.app (Src.cons (Src.cons (Src.cons hG3.src))))) (aU.app (aU.app (aU.cons (aU.cons (aU.at 0 rfl)))))) (fun v O' hp => ?_)
 obtain ⟨a4, c4, G4, rfl, hG4, rfl⟩ := hp
 refine ae.cl (O1 := _) Met.none rfl (ah Tryz.func20 (by decide +kernel)) rfl (fun _ h => h) (gD _ (ar 0 [7]) (ar 0 [7]) (some ⟨o18, 0, none⟩) a4 c1 c4 (by unfold hJ; omega) (Src.app (Src.app (Src.app (Src.cons (Src.cons (Src.cons (Src.app (Src.tH (by simp))))))))) hG4.src) (fun v O' hp => ?_)
 obtain ⟨rfl, hO⟩ := hp
 subst O'
 refine zm rfl ?_
 refine ae.split (d := 25) rfl (fun hg25 => ?_) (fun hg25 => ?_)
 · try simp only [aB] at hg25
   refine ae.move (Met.some rfl rfl rfl) rfl (ae.bin (Met.some rfl rfl rfl) rfl rfl rfl (ae.bC Met.none rfl rfl (zm rfl ?_)))
   refine ae.split (d := 29) rfl (fun hg29 => ?_) (fun hg29 => ?_)
   · try simp only [aB] at hg29
     refine ae.move (Met.some rfl rfl rfl) rfl (ae.move (Met.some rfl rfl rfl) rfl (ae.bin (Met.some rfl rfl rfl) rfl rfl rfl (ae.bC Met.none rfl rfl (zm rfl ?_))))
     refine ae.split (d := 34) rfl (fun hg34 => ?_) (fun hg34 => ?_)
     · try simp only [aB] at hg34
       refine ae.move (Met.some rfl rfl rfl) rfl ?_
       refine ae.buildSlice (c := [_]) (Met.some rfl rfl rfl) rfl aQ ea dA (by decide) (by decide) rfl rfl rfl rfl (fun b36 => ?_)
       refine ae.buildSlice (c := [_]) (Met.some rfl rfl rfl) rfl aR aO ki (by decide) (by decide) rfl rfl rfl rfl (fun b37 => ?_)
       refine ae.cl (O1 := _) (Met.some rfl rfl rfl) rfl (ah Tryz.func13 (by decide +kernel)) rfl (fun _ h => h) (lP _ [[7]] [[7]] ws [.slice (some ⟨b36, 0, none⟩) 1 1] ao (some ⟨b37, 0, none⟩) co 1 (by decide) (by intro x hx; simp at hx; subst hx; decide) (Src.cons (Src.cons (Src.app hGo.src))) (Src.lit) hRo.app.app.cons.cons ⟨rfl, fun k hk => by
       have : k = 0 := by simp at hk; omega
       subst this
       exact ⟨some ⟨b36, 0, none⟩, 1, rfl, Src.cons (Src.lit)⟩⟩) (fun v O' hp => ?_)
       obtain ⟨bx, rfl, hbx, rfl⟩ := hp
       rw [decide_eq_true rfl] at hbx
       subst hbx
       refine ae.bC Met.none rfl rfl (za rfl (ae.nil (Fin.aa (WX.ret ?_))))
       exact Fin.result (O' := O) (.inr rfl) rfl rfl aC ⟨rfl, rfl⟩
     · try simp only [aB] at hg34
       exact absurd hg34 (by have := hr2; simp only [List.length_cons, List.length_nil, Nat.zero_add]; omega)
   · try simp only [aB] at hg29
     exact absurd hg29 (by omega)
 · try simp only [aB] at hg25
   exact (by simp at hg25)
theorem rZ {i : Int} {x : List Int} (hi : dG i) (hx : x.length ≤ 1000) : (ar i x).length ≤ x.length + 50 := by
 unfold ar
 rw [List.length_append]
 have h0 := gW hi (b := x) (by omega)
 have h1 := hP (b := aY i x) (by omega)
 have h2 := gw eE (aY i x)
 have h3 := ec (k := 9) (n := (dD eE (aY i x)).toNat) (by unfold mB at h2; omega)
 omega
theorem mU : ∀ (l : List (List Int)) (i : Nat) (x : List Int), x ∈ l → x.length ≤ (cM i l).length
 | [], _, _, h => by simp at h
 | y :: l, i, x, h => by
  rw [du, List.length_append]
  rcases List.mem_cons.1 h with rfl | h
  · have := ka (i : Int) x
    omega
  · have := mU l (i + 1) x h
    omega
theorem uD {b x : List Int} (h : x ∈ aG b) : x.length ≤ b.length := Nat.le_trans (mU _ 0 x h) (kP b 0).2.length_le
theorem gm {l : List Int} {k : Nat} (h : Bytes l) : Bytes (l.take k) := fun x hx => h x (List.mem_of_mem_take hx)
end Go.Proofs.YthekokdpplobhaaGreat.Eng
set_option linter.unusedVariables false
set_option linter.unusedSimpArgs false
set_option maxRecDepth 4000
namespace Go.Proofs.YthekokdpplobhaaGreat.Eng
theorem ae.re {P : Program} {x : Cx} {ops : Array Oper} {mq : Mk} {i : Nat} {l : List Oper} {L : da} {O O' : an} {K : bN → Prop} (h : ae P x ops mq i l L O' K) (hs : ∀ g, Sat g O → Sat g O' := by exact aC) (hq : x.q = false := by exact rfl) : ae P x ops mq i l L O K :=
 fun a b s hst hz => h a b s ⟨hst.m, hst.t, hs _ hst.sat, fun q => by rw [hq] at q; cases q⟩ hz
structure Fi where
 bs : List Int
 d : Int
def eA (R : an) (v : Value) (f : Fi) : Prop := ∃ a c, v = cJ a f.bs.length c f.d ∧ bK R 1 a f.bs.length (f.bs.map B8) ∧ (a = none → c = 0) ∧ Bytes f.bs
inductive eW (R : an) : List (Int × Value) → List (Int × Fi) → Prop
 | nil : eW R [] []
 | cons {k v f m fs} : eA R v f → eW R m fs → eW R ((k, v) :: m) ((k, f) :: fs)
def used : List (Int × Fi) → Int
 | [] => 0
 | e :: l => (e.2.bs.length : Int) + used l
theorem pI : ∀ fs, 0 ≤ used fs
 | [] => Int.le_refl _
 | e :: l => by
  have := pI l
  unfold used
  omega
variable {R : an}
theorem eA.app {N : an} {v : Value} {f : Fi} (h : eA R v f) : eA (N ++ R) v f := by
 obtain ⟨a, c, h1, h2, h3⟩ := h
 exact ⟨a, c, h1, h2.app, h3⟩
theorem eW.app {N : an} {m : List (Int × Value)} {fs : List (Int × Fi)} (h : eW R m fs) : eW (N ++ R) m fs := by
 induction h with
 | nil => exact .nil
 | cons h1 _ ih => exact .cons h1.app ih
theorem eW.get {m : List (Int × Value)} {fs : List (Int × Fi)} (h : eW R m fs) (k : Int) : (bH k m = none ∧ bH k fs = none) ∨ ∃ v f, bH k m = some v ∧ bH k fs = some f ∧ eA R v f := by
 induction h with
 | nil => exact .inl ⟨rfl, rfl⟩
 | @cons k' v f m fs h1 _ ih =>
  simp only [bH]
  by_cases q : k = k'
  · rw [if_pos q, if_pos q]; exact .inr ⟨v, f, rfl, rfl, h1⟩
  · rw [if_neg q, if_neg q]; exact ih
theorem eW.put {m : List (Int × Value)} {fs : List (Int × Fi)} (h : eW R m fs) (k : Int) {v : Value} {f : Fi} (hv : eA R v f) : eW R (eT k v m) (eT k f fs) := by
 induction h with
 | nil => exact .cons hv .nil
 | @cons k' v' f' m fs h1 h2 ih =>
  simp only [eT]
  by_cases q : k = k'
  · rw [if_pos q, if_pos q]; exact .cons hv h2
  · rw [if_neg q, if_neg q]; exact .cons h1 ih
theorem eW.del {m : List (Int × Value)} {fs : List (Int × Fi)} (h : eW R m fs) (k : Int) : eW R (jO k m) (jO k fs) := by
 induction h with
 | nil => exact .nil
 | @cons k' v' f' m fs h1 h2 ih =>
  simp only [jO]
  by_cases q : k = k'
  · rw [if_pos q, if_pos q]; exact h2
  · rw [if_neg q, if_neg q]; exact .cons h1 ih
theorem eW.keys {m : List (Int × Value)} {fs : List (Int × Fi)} (h : eW R m fs) : m.map (·.1) = fs.map (·.1) := by
 induction h with
 | nil => rfl
 | cons _ _ ih => rw [List.map_cons, List.map_cons, ih]
def Fi.cX (f : Fi) : Fi := ⟨f.bs, f.bs.length⟩
def dg (fs : List (Int × Fi)) : List (Int × Fi) := fs.map fun e => (e.1, e.2.cX)
theorem eW.cX {m : List (Int × Value)} {fs : List (Int × Fi)} (h : eW R m fs) : eW R (m.map fun e => (e.1, Eng.cX e.2)) (dg fs) := by
 induction h with
 | nil => exact .nil
 | cons h1 _ ih =>
  obtain ⟨a, c, rfl, h2, h3⟩ := h1
  exact .cons ⟨a, c, rfl, h2, h3⟩ ih
theorem bf.wO (mx : bf) : mx.cX.kv = mx.kv.map fun e => (e.1, Eng.cX e.2) := by
 unfold bf.cX bf.kv
 simp only [List.map_map]
 rfl
theorem eW.file {m : List (Int × Value)} {fs : List (Int × Fi)} (h : eW R m fs) : ∀ e ∈ m, iK e.2 := by
 induction h with
 | nil => intro e he; simp at he
 | cons h1 _ ih =>
  intro e he
  rcases List.mem_cons.1 he with rfl | he
  · obtain ⟨a, c, h2, _⟩ := h1; exact ⟨a, _, c, _, h2⟩
  · exact ih e he
theorem eW.lens {mx : bf} {fs : List (Int × Fi)} (h : eW R mx.kv fs) : Eng.lens mx.es = used fs := by
 obtain ⟨ck, es⟩ := mx
 unfold bf.kv at h
 simp only at h ⊢
 induction es generalizing fs with
 | nil => cases h; rfl
 | cons e es ih =>
  rw [List.map_cons] at h
  cases h with
  | cons h1 h2 =>
   obtain ⟨a, c, h3, _⟩ := h1
   simp only [Eng.lens, used]
   rw [ih h2, h3, mM]
theorem tT {mx : bf} (h : ∀ e ∈ mx.kv, iK e.2) : ∀ e ∈ mx.es, iK e.2.2 := fun e he => h (e.1, e.2.2) (List.mem_map.2 ⟨e, he, rfl⟩)
theorem lH (mx : bf) : mx.es.map (·.1) = mx.kv.map (·.1) := by
 unfold bf.kv
 rw [List.map_map]; rfl
theorem qI {α : Type} {k : Int} {u : α} {x : Int} : ∀ {m : List (Int × α)}, x ∈ (eT k u m).map (·.1) → x = k ∨ x ∈ m.map (·.1)
 | [], h => by simp [eT] at h; exact .inl h
 | (n, v) :: m, h => by
  simp only [eT] at h
  split at h
  · rename_i q
    simp only [List.map_cons, List.mem_cons] at h ⊢
    rcases h with h | h
    · exact .inl h
    · exact .inr (.inr h)
  · simp only [List.map_cons, List.mem_cons] at h ⊢
    rcases h with h | h
    · exact .inr (.inl h)
    · exact (qI h).imp id .inr
theorem jD {α : Type} {k : Int} {u : α} : ∀ {m : List (Int × α)}, (m.map (·.1)).Nodup → ((eT k u m).map (·.1)).Nodup
 | [], _ => by simp [eT]
 | (n, v) :: m, h => by
  simp only [List.map_cons, List.nodup_cons] at h
  simp only [eT]
  split
  · rename_i q
    subst q
    simp only [List.map_cons, List.nodup_cons]
    exact h
  · rename_i q
    simp only [List.map_cons, List.nodup_cons]
    refine ⟨fun hm => ?_, jD h.2⟩
    rcases qI hm with e | e
    · exact q e.symm
    · exact h.1 e
theorem oe {α : Type} {k : Int} : ∀ {m : List (Int × α)}, (jO k m).Sublist m
 | [] => List.Sublist.slnil
 | (n, v) :: m => by
  simp only [jO]
  split
  · exact List.sublist_cons_self _ _
  · exact oe.cons_cons _
theorem xa {α : Type} {k : Int} {m : List (Int × α)} (h : (m.map (·.1)).Nodup) : ((jO k m).map (·.1)).Nodup := (oe.map _).nodup h
structure DI (R : an) (mx : bf) (fs : List (Int × Fi)) : Prop where
 rel : eW R mx.kv fs
 nd : (fs.map (·.1)).Nodup
theorem DI.app {N : an} {mx : bf} {fs : List (Int × Fi)} (h : DI R mx fs) : DI (N ++ R) mx fs := ⟨h.rel.app, h.nd⟩
def gU (fs : List (Int × Fi)) (k : Int) (f : Fi) : List (Int × Fi) := if f.bs = [] then jO k (eT k f fs) else eT k f fs
def iv (mx : bf) (k : Int) (v : Value) (n : Nat) : bf := if n = 0 then (mx.put k v).del k else mx.put k v
theorem DI.set {mx : bf} {fs : List (Int × Fi)} (h : DI R mx fs) (k : Int) {v : Value} {f : Fi} (hv : eA R v f) : DI R (iv mx k v f.bs.length) (gU fs k f) := by
 unfold iv gU
 by_cases q : f.bs = []
 · rw [if_pos (by rw [q]; rfl), if_pos q]
   refine ⟨?_, xa (jD h.nd)⟩
   rw [bf.ve, bf.pE]
   exact (h.rel.put k hv).del k
 · rw [if_neg (fun e => q (List.length_eq_zero_iff.1 e)), if_neg q]
   refine ⟨?_, jD h.nd⟩
   rw [bf.pE]
   exact h.rel.put k hv
theorem DI.cX {mx : bf} {fs : List (Int × Fi)} (h : DI R mx fs) : DI R mx.cX (dg fs) := ⟨by rw [bf.wO]; exact h.rel.cX, by
 unfold dg
 rw [List.map_map]
 exact h.nd⟩
def aI (fs : List (Int × Fi)) (k : Int) : Fi := (bH k fs).getD ⟨[], 0⟩
theorem DI.get {mx : bf} {fs : List (Int × Fi)} (h : DI R mx fs) (k : Int) : eA R ((bH k mx.kv).getD (cJ none 0 0 0)) (aI fs k) := by
 unfold aI
 rcases h.rel.get k with ⟨h1, h2⟩ | ⟨v, f, h1, h2, h3⟩
 · rw [h1, h2]; exact ⟨none, 0, rfl, .inl ⟨rfl, rfl, rfl⟩, fun _ => rfl, fun x hx => by simp at hx⟩
 · rw [h1, h2]; exact h3
theorem DI.new : DI R bf.new [] := ⟨.nil, by simp⟩
theorem bK.inc {R0 : an} {sz : Nat} {a : Option Addr} {n : Nat} {cs : List Value} (h : bK R0 sz a n cs) (hi : ∀ g, Sat g R → Sat g R0) : bK R sz a n cs := by
 rcases h with h | ⟨b, off, y, h1, h2, h3⟩
 · exact .inl h
 · exact .inr ⟨b, off, y, h1, fun g hg => h2 g (hi g hg), h3⟩
structure Dk where
 room : Int
 off : Bool
 armed : Bool
 left : Int
 fs : List (Int × Fi)
def bE (D : Dk) : Bool × Dk :=
 if D.armed = false then (true, D)
 else if D.left - 1 < 0 then (false, { D with off := true, armed := false, left := D.left - 1 })
 else (!D.off, { D with left := D.left - 1 })
def cK (D : Dk) (n : Int) : List Int × Int :=
 if ¬ (0 ≤ n ∧ n < 64) then ([], 1) else if D.off = true then ([], 23) else ((aI D.fs n).bs, 0)
def gA (D : Dk) (n : Int) (b : List Int) : Dk := { D with fs := gU D.fs n ⟨(aI D.fs n).bs ++ b, (aI D.fs n).d⟩ }
def bL (D : Dk) (n : Int) (b : List Int) : Int × Dk :=
 if ¬ (0 ≤ n ∧ n < 64) then (1, D) else if D.off = true then (23, D) else if (b.length : Int) > D.room - used D.fs then (22, D)
 else (if (bE (gA D n b)).1 = true then 0 else 23, (bE (gA D n b)).2)
def bT (D : Dk) : Int × Dk :=
 if D.off = true then (23, D) else if (bE D).1 = false then (23, (bE D).2) else (0, { (bE D).2 with fs := dg (bE D).2.fs })
def cA (D : Dk) (n size : Int) : Int × Dk :=
 if ¬ (0 ≤ n ∧ n < 64) ∨ size < 0 ∨ size > ((aI D.fs n).bs.length : Int) then (1, D)
 else if D.off = true then (23, D) else if (bE D).1 = false then (23, (bE D).2)
 else (0, { (bE D).2 with fs := gU D.fs n ⟨(aI D.fs n).bs.take size.toNat, min (aI D.fs n).d size⟩ })
abbrev bu (d bm : Nat) (D : Dk) (mx : bf) (R : an) : an := (d, ⟨0, false, oF bm D.room D.off D.armed D.left⟩) :: (bm, ⟨2, false, bW mx⟩) :: R
def yB (e : Int × Fi) : Prop := (0 ≤ e.1 ∧ e.1 < 64) ∧ e.2.bs ≠ [] ∧ 0 ≤ e.2.d ∧ e.2.d ≤ e.2.bs.length
structure dX (R : an) (D : Dk) (mx : bf) : Prop where
 di : DI R mx D.fs
 ok : ∀ e ∈ D.fs, yB e
 room : 0 ≤ D.room ∧ D.room ≤ 16777216
 left : D.armed = true → 0 ≤ D.left ∧ D.left < 9223372036854775808
 used : used D.fs ≤ D.room
theorem eV (D : Dk) : (bE D).2.fs = D.fs ∧ (bE D).2.room = D.room := by
 unfold bE
 split
 · exact ⟨rfl, rfl⟩
 · split <;> exact ⟨rfl, rfl⟩
theorem rS {D : Dk} (h : D.armed = true → 0 ≤ D.left ∧ D.left < 9223372036854775808) : (bE D).2.armed = true → 0 ≤ (bE D).2.left ∧ (bE D).2.left < 9223372036854775808 := by
 unfold bE
 split
 · exact h
 · rename_i q
   split
   · intro q2; simp at q2
   · intro q2
     have := h (by simpa using q)
     simp only
     omega
theorem dX.step {D : Dk} {mx : bf} (h : dX R D mx) : dX R (bE D).2 mx := by
 obtain ⟨h1, h2⟩ := eV D
 exact ⟨by rw [h1]; exact h.di, by rw [h1]; exact h.ok, by rw [h2]; exact h.room, rS h.left, by rw [h1, h2]; exact h.used⟩
theorem dX.app {N : an} {D : Dk} {mx : bf} (h : dX R D mx) : dX (N ++ R) D mx := ⟨h.di.app, h.ok, h.room, h.left, h.used⟩
theorem o7 : ∀ fs, used (dg fs) = used fs
 | [] => rfl
 | e :: l => by
  have := o7 l
  unfold dg at this ⊢
  simp only [List.map_cons, used, this]
  rfl
theorem dX.cX {D : Dk} {mx : bf} (h : dX R D mx) : dX R { D with fs := dg D.fs } mx.cX := ⟨h.di.cX, (fun e he => by
  obtain ⟨e', he', rfl⟩ := List.mem_map.1 he
  obtain ⟨h1, h2, h3, h4⟩ := h.ok e' he'
  exact ⟨h1, h2, Int.natCast_nonneg _, Int.le_refl _⟩), h.room, h.left, by simp only [o7]; exact h.used⟩
theorem mn : ∀ (fs : List (Int × Fi)) (k : Int), ((aI fs k).bs.length : Int) ≤ used fs
 | [], k => Int.le_refl _
 | e :: l, k => by
  have h1 := mn l k
  have h2 := pI l
  unfold aI at h1 ⊢
  obtain ⟨n, f⟩ := e
  simp only [bH, used]
  split
  · simp only [Option.getD_some]; omega
  · omega
theorem lL : ∀ (fs : List (Int × Fi)) (k : Int) (f : Fi), used (eT k f fs) = used fs - (aI fs k).bs.length + f.bs.length
 | [], k, f => by
  show (f.bs.length : Int) + 0 = 0 - (0 : Nat) + f.bs.length
  omega
 | (n, v) :: l, k, f => by
  have h1 := lL l k f
  unfold aI at h1 ⊢
  simp only [eT, bH]
  by_cases q : k = n
  · rw [if_pos q, if_pos q]
    simp only [used, Option.getD_some]
    omega
  · rw [if_neg q, if_neg q]
    simp only [used]
    omega
theorem wZ {fs : List (Int × Fi)} {k : Int} {f : Fi} : aI (eT k f fs) k = f := by
 unfold aI
 induction fs with
 | nil => simp [eT, bH]
 | cons e l ih =>
  obtain ⟨n, v⟩ := e
  simp only [eT]
  by_cases q : k = n
  · rw [if_pos q]; simp [bH]
  · rw [if_neg q]; simp only [bH]; rw [if_neg q]; exact ih
theorem qP : ∀ (fs : List (Int × Fi)) (k : Int), used (jO k fs) = used fs - (aI fs k).bs.length
 | [], k => rfl
 | (n, v) :: l, k => by
  have h1 := qP l k
  unfold aI at h1 ⊢
  simp only [jO, bH]
  by_cases q : k = n
  · rw [if_pos q, if_pos q]
    simp only [used, Option.getD_some]
    omega
  · rw [if_neg q, if_neg q]
    simp only [used]
    omega
theorem uQ (fs : List (Int × Fi)) (k : Int) (f : Fi) : used (gU fs k f) = used fs - (aI fs k).bs.length + f.bs.length := by
 unfold gU
 split
 · rename_i q
   rw [qP, lL, wZ, q]
   simp
 · exact lL fs k f
theorem dX.nk {D : Dk} {mx : bf} (h : dX R D mx) (k : Int) : (aI D.fs k).bs.length ≤ 16777216 := by
 have h1 := mn D.fs k
 have h2 := h.used
 have h3 := h.room
 omega
theorem jV {α : Type} {k : Int} {u : α} : ∀ {m : List (Int × α)} {e : Int × α}, e ∈ eT k u m → e = (k, u) ∨ e ∈ m
 | [], e, h => by simp [eT] at h; exact .inl h
 | (n, v) :: m, e, h => by
  simp only [eT] at h
  split at h
  · rcases List.mem_cons.1 h with h | h
    · exact .inl h
    · exact .inr (List.mem_cons_of_mem _ h)
  · rcases List.mem_cons.1 h with h | h
    · exact .inr (h ▸ List.mem_cons_self ..)
    · exact (jV h).imp id (List.mem_cons_of_mem _)
theorem tp {α : Type} {k : Int} : ∀ {m : List (Int × α)} {e : Int × α}, (m.map (·.1)).Nodup → e ∈ jO k m → e.1 ≠ k ∧ e ∈ m
 | [], e, _, h => by simp [jO] at h
 | (n, v) :: m, e, hn, h => by
  simp only [List.map_cons, List.nodup_cons] at hn
  simp only [jO] at h
  split at h
  · rename_i q
    subst q
    exact ⟨fun q => hn.1 (List.mem_map.2 ⟨e, h, q⟩), List.mem_cons_of_mem _ h⟩
  · rename_i q
    rcases List.mem_cons.1 h with rfl | h
    · exact ⟨fun e => q e.symm, List.mem_cons_self ..⟩
    · exact (tp hn.2 h).imp id (List.mem_cons_of_mem _)
theorem fK {α : Type} {k : Int} {u : α} : ∀ {m : List (Int × α)}, bH k m = some u → (k, u) ∈ m
 | [], h => by simp [bH] at h
 | (n, v) :: m, h => by
  simp only [bH] at h
  split at h
  · rename_i q; injection h with h; subst q h; exact List.mem_cons_self ..
  · exact List.mem_cons_of_mem _ (fK h)
theorem dX.kY {D : Dk} {mx : bf} (h : dX R D mx) (k : Int) : 0 ≤ (aI D.fs k).d ∧ (aI D.fs k).d ≤ (aI D.fs k).bs.length := by
 unfold aI
 cases hg : bH k D.fs with
 | none => exact ⟨Int.le_refl _, Int.le_refl _⟩
 | some f =>
  obtain ⟨_, _, h3⟩ := h.ok _ (fK hg)
  exact h3
theorem dX.set {D : Dk} {mx : bf} (h : dX R D mx) (k : Int) {v : Value} {f : Fi} (hv : eA R v f) (hk : 0 ≤ k ∧ k < 64) (hd : 0 ≤ f.d ∧ f.d ≤ f.bs.length) (hu : Eng.used D.fs - (aI D.fs k).bs.length + f.bs.length ≤ D.room) : dX R { D with fs := gU D.fs k f } (iv mx k v f.bs.length) :=
 ⟨h.di.set k hv, (fun e he => by
  unfold gU at he
  split at he
  · obtain ⟨h1, h2⟩ := tp (jD h.di.nd) he
    rcases jV h2 with h2 | h2
    · exact absurd (by rw [h2]) h1
    · exact h.ok e h2
  · rename_i q
    rcases jV he with h2 | h2
    · rw [h2]; exact ⟨hk, q, hd⟩
    · exact h.ok e h2), h.room, h.left, by simp only [uQ]; exact hu⟩
theorem dX.lens {D : Dk} {mx : bf} (h : dX R D mx) : Eng.lens mx.es = Eng.used D.fs := h.di.rel.lens
theorem dX.files {D : Dk} {mx : bf} (h : dX R D mx) : ∀ e ∈ mx.es, iK e.2.2 := tT h.di.rel.file
theorem dX.keys {D : Dk} {mx : bf} (h : dX R D mx) : (mx.es.map (·.1)).Nodup := by rw [lH, h.di.rel.keys]; exact h.di.nd
end Go.Proofs.YthekokdpplobhaaGreat.Eng
namespace Go.Proofs.YthekokdpplobhaaGreat.Eng
theorem mQ (O : an) (n : Int) : Spec Tryz.prog false 39 #[I n] O fun v O' => v = .bool (decide (0 ≤ n ∧ n < 64)) ∧ O' = O := by
 refine Spec.enter (args := [_]) (m := 9) Tryz.func39 rfl rfl (by decide +kernel) fun h0 => ?_
 refine WX.seq (WX.region rfl (za rfl (zR rfl (zm rfl (zb rfl rfl rfl (zm rfl ?_))))))
 refine ae.split (d := 5) rfl (fun hg5 => ?_) (fun hg5 => ?_)
 · try simp only [aB] at hg5
   refine ae.move (Met.some rfl rfl rfl) rfl (ae.bin (Met.some rfl rfl rfl) rfl rfl rfl (ae.bC Met.none rfl rfl (za rfl (ae.nil (Fin.aa (WX.ret ?_))))))
   exact Fin.result (O' := O) (.inr rfl) rfl rfl au ⟨y9, rfl⟩
 · try simp only [aB] at hg5
   refine zs 2 5 rfl rfl rfl (zs 2 5 rfl rfl rfl (ae.bd Met.none rfl rfl (za rfl (ae.nil (Fin.aa (WX.ret ?_))))))
   exact Fin.result (O' := O) (.inr rfl) rfl rfl au ⟨y9, rfl⟩
theorem pL (R : an) (d bm : Nat) (D : Dk) (mx : bf) (hl : D.armed = true → 0 ≤ D.left ∧ D.left < 9223372036854775808) :
  Spec Tryz.prog false 45 #[Ptr d 0] (bu d bm D mx R) fun v O' => v = .bool (bE D).1 ∧ O' = bu d bm (bE D).2 mx R := by
 refine Spec.enter (args := [_]) (m := 31) Tryz.func45 rfl rfl (by decide +kernel) fun h0 => ?_
 refine WX.seq (WX.region rfl (za rfl (ae.nil (Fin.aa (WX.seq (WX.seq (WX.region rfl (zm rfl (zn rfl ?_)))))))))
 first | refine ae.fieldAddr Met.none rfl Tryz.underlying62 rfl dm rfl ?_ | refine ae.bQ Met.none rfl Tryz.underlying62 rfl dm ?_
 first | refine ae.ld Met.none rfl cV ?_ | refine ae.ba Met.none rfl cV ?_
 refine ae.not Met.none rfl (ae.nil (Fin.aa ?_))
 refine WX.cond rfl (fun hc0 => ?_) (fun hc0 => ?_)
 · try simp only [aB] at hc0
   refine WX.seq (WX.region rfl (za rfl (ae.nil (Fin.aa (WX.ret (Fin.az ?_))))))
   first
   | exact Fin.result (O' := bu d bm D mx R) (.inr rfl) rfl rfl au (by unfold bE; rw [if_pos (by simpa using hc0)]; exact ⟨rfl, rfl⟩)
   | exact Fin.result (O' := bu d bm { D with off := true, armed := false, left := D.left - 1 } mx R) (.inr rfl) rfl rfl au (by unfold bE; rw [if_neg (by rw [ha]; simp), if_pos (by omega)]; exact ⟨rfl, rfl⟩)
   | exact Fin.result (O' := bu d bm { D with left := D.left - 1 } mx R) (.inr rfl) rfl rfl au (by unfold bE; rw [if_neg (by rw [ha]; simp), if_neg (by omega)]; exact ⟨rfl, rfl⟩)
 · try simp only [aB] at hc0
   have ha : D.armed = true := by simpa using hc0
   have hl := hl ha
   refine WX.skip (Fin.aa (WX.seq (WX.region rfl (zm rfl (zn rfl ?_)))))
   first | refine ae.fieldAddr Met.none rfl Tryz.underlying62 rfl cj rfl ?_ | refine ae.bQ Met.none rfl Tryz.underlying62 rfl cj ?_
   first | refine ae.ld Met.none rfl bY ?_ | refine ae.ba Met.none rfl bY ?_
   refine zb rfl rfl nj (zn rfl ?_)
   first | refine ae.fieldAddr Met.none rfl Tryz.underlying62 rfl cj rfl ?_ | refine ae.bQ Met.none rfl Tryz.underlying62 rfl cj ?_
   refine ae.st (vs := [_]) (j := 0) Met.none rfl rfl rfl cj ?_ (hj := rfl)
   refine ae.nil (Fin.aa (WX.seq (WX.seq (WX.region rfl (zm rfl (zn rfl ?_))))))
   first | refine ae.fieldAddr Met.none rfl Tryz.underlying62 rfl cj rfl ?_ | refine ae.bQ Met.none rfl Tryz.underlying62 rfl cj ?_
   first | refine ae.ld Met.none rfl bY ?_ | refine ae.ba Met.none rfl bY ?_
   refine zb rfl rfl rfl (ae.nil (Fin.aa ?_))
   refine WX.cond rfl (fun hc1 => ?_) (fun hc1 => ?_)
   · try simp only [aB] at hc1
     refine WX.region rfl (zm rfl (zm rfl (zn rfl ?_)))
     first | refine ae.fieldAddr Met.none rfl Tryz.underlying62 rfl dm rfl ?_ | refine ae.bQ Met.none rfl Tryz.underlying62 rfl dm ?_
     refine ae.st (vs := [_]) (j := 0) Met.none rfl rfl rfl dm ?_ (hj := rfl)
     refine zn rfl ?_
     first | refine ae.fieldAddr Met.none rfl Tryz.underlying62 rfl dm rfl ?_ | refine ae.bQ Met.none rfl Tryz.underlying62 rfl dm ?_
     refine ae.st (vs := [_]) (j := 0) Met.none rfl rfl rfl dm ?_ (hj := rfl)
     refine zR rfl (zm rfl (zn rfl ?_))
     first | refine ae.fieldAddr Met.none rfl Tryz.underlying62 rfl dm rfl ?_ | refine ae.bQ Met.none rfl Tryz.underlying62 rfl dm ?_
     first | refine ae.ld Met.none rfl cV ?_ | refine ae.ba Met.none rfl cV ?_
     refine ae.not Met.none rfl (za rfl (ae.nil (Fin.aa (WX.ret ?_))))
     first
     | exact Fin.result (O' := bu d bm D mx R) (.inr rfl) rfl rfl au (by unfold bE; rw [if_pos (by simpa using hc0)]; exact ⟨rfl, rfl⟩)
     | exact Fin.result (O' := bu d bm { D with off := true, armed := false, left := D.left - 1 } mx R) (.inr rfl) rfl rfl au (by unfold bE; rw [if_neg (by rw [ha]; simp), if_pos (by omega)]; exact ⟨rfl, rfl⟩)
     | exact Fin.result (O' := bu d bm { D with left := D.left - 1 } mx R) (.inr rfl) rfl rfl au (by unfold bE; rw [if_neg (by rw [ha]; simp), if_neg (by omega)]; exact ⟨rfl, rfl⟩)
   · try simp only [aB] at hc1
     refine WX.skip (Fin.aa (WX.seq (WX.region rfl (zm rfl (zn rfl ?_)))))
     first | refine ae.fieldAddr Met.none rfl Tryz.underlying62 rfl dm rfl ?_ | refine ae.bQ Met.none rfl Tryz.underlying62 rfl dm ?_
     first | refine ae.ld Met.none rfl cV ?_ | refine ae.ba Met.none rfl cV ?_
     refine ae.not Met.none rfl (za rfl (ae.nil (Fin.aa (WX.ret ?_))))
     first
     | exact Fin.result (O' := bu d bm D mx R) (.inr rfl) rfl rfl au (by unfold bE; rw [if_pos (by simpa using hc0)]; exact ⟨rfl, rfl⟩)
     | exact Fin.result (O' := bu d bm { D with off := true, armed := false, left := D.left - 1 } mx R) (.inr rfl) rfl rfl au (by unfold bE; rw [if_neg (by rw [ha]; simp), if_pos (by omega)]; exact ⟨rfl, rfl⟩)
     | exact Fin.result (O' := bu d bm { D with left := D.left - 1 } mx R) (.inr rfl) rfl rfl au (by unfold bE; rw [if_neg (by rw [ha]; simp), if_neg (by omega)]; exact ⟨rfl, rfl⟩)
theorem qh (R : an) (d bm : Nat) (D : Dk) (mx : bf) (n : Int) (a : Option Addr) (m c : Nat) (t : Int) :
  Spec Tryz.prog false 31 #[Ptr d 0, I n, cJ a m c t] (bu d bm D mx R) fun v O' => O' = bu d bm D (iv mx n (cJ a m c t) m) R := by
 refine Spec.enter (args := [_, _, _]) (m := 21) Tryz.func31 rfl rfl (by decide +kernel) fun h0 => ?_
 refine WX.seq (WX.region rfl ?_)
 refine ae.box (c := [_, _]) Met.none rfl rfl rfl (fun b5 => ?_)
 refine ae.nil (Fin.aa (WX.seq ?_))
 refine WX.draw rfl ?_
 refine zm rfl (zn rfl ?_)
 first | refine ae.fieldAddr Met.none rfl Tryz.underlying62 rfl ja rfl ?_ | refine ae.bQ Met.none rfl Tryz.underlying62 rfl ja ?_
 first | refine ae.ld Met.none rfl fF ?_ | refine ae.ba Met.none rfl fF ?_
 refine zm rfl ?_
 refine ae.yP (vs := [_, _]) Met.none rfl ta pR ?_
 refine ae.mapUpdate (j := 2) Met.none rfl rfl rfl lA ?_ (hj := rfl)
 refine zR rfl ?_
 refine ae.fieldAddr (off' := 0) Met.none rfl Tryz.underlying66 rfl aO rfl ?_
 first | refine ae.ld Met.none rfl aD ?_ | refine ae.ba Met.none rfl aD ?_
 refine ae.len Met.none rfl Tryz.underlying39 (zb rfl rfl rfl (ae.nil (Fin.aa ?_)))
 refine WX.cond rfl (fun hc0 => ?_) (fun hc0 => ?_)
 · try simp only [aB] at hc0
   refine WX.region rfl (zm rfl (zn rfl ?_))
   first | refine ae.fieldAddr Met.none rfl Tryz.underlying62 rfl ja rfl ?_ | refine ae.bQ Met.none rfl Tryz.underlying62 rfl ja ?_
   first | refine ae.ld Met.none rfl fF ?_ | refine ae.ba Met.none rfl fF ?_
   refine zm rfl ?_
   refine ae.delete (j := 2) Met.none rfl rfl lA ?_ (hj := rfl)
   refine ae.nil ?_
   first
   | exact Fin.result (O' := bu d bm D ((mx.put n (cJ a m c t)).del n) R) (.inl rfl) rfl rfl au (by unfold iv; rw [if_pos (by omega)])
   | exact Fin.result (O' := bu d bm D (mx.put n (cJ a m c t)) R) (.inl rfl) rfl rfl au (by unfold iv; rw [if_neg (by omega)])
 · try simp only [aB] at hc0
   refine WX.skip ?_
   first
   | exact Fin.result (O' := bu d bm D ((mx.put n (cJ a m c t)).del n) R) (.inl rfl) rfl rfl au (by unfold iv; rw [if_pos (by omega)])
   | exact Fin.result (O' := bu d bm D (mx.put n (cJ a m c t)) R) (.inl rfl) rfl rfl au (by unfold iv; rw [if_neg (by omega)])
theorem rU (O : an) (room : Int) : Spec Tryz.prog false 22 #[I room] O fun v O' =>
  (0 ≤ room ∧ room ≤ 16777216 ∧ ∃ d bm, v = .tuple #[Ptr d 0, I 0] ∧ O' = bu d bm ⟨room, false, false, 0, []⟩ .new O) ∨ (¬ (0 ≤ room ∧ room ≤ 16777216) ∧ v = .tuple #[.pointer none, I 1] ∧ O' = O) := by
 refine Spec.enter (args := [_]) (m := 14) Tryz.func22 rfl rfl (by decide +kernel) fun h0 => ?_
 refine WX.seq (WX.region rfl (za rfl (za rfl (ae.nil (Fin.aa (WX.seq (WX.seq (WX.region rfl (zm rfl (zb rfl rfl rfl (zm rfl ?_)))))))))))
 refine ae.split (d := 6) rfl (fun hg6 => ?_) (fun hg6 => ?_)
 · try simp only [aB] at hg6
   refine zs 2 6 rfl rfl rfl (zs 2 6 rfl rfl rfl (ae.bC Met.none rfl rfl (ae.nil (Fin.aa ?_))))
   refine WX.cond rfl (fun hc0 => ?_) (fun hc0 => nomatch hc0)
   refine WX.seq (WX.region rfl (za rfl (za rfl (ae.nil (Fin.aa (WX.ret (Fin.az ?_)))))))
   first
   | exact Fin.result (O' := O) (.inr rfl) rfl rfl au (.inr ⟨by omega, rfl, rfl⟩)
   | exact Fin.result (O' := bu b13 b10 ⟨room, false, false, 0, []⟩ .new O) (.inr rfl) rfl rfl au (.inl ⟨by omega, by omega, _, _, rfl, rfl⟩)
 · try simp only [aB] at hg6
   refine ae.move (Met.some rfl rfl rfl) rfl (ae.bin (Met.some rfl rfl rfl) rfl rfl rfl (ae.bd Met.none rfl rfl (ae.nil (Fin.aa ?_))))
   refine WX.cond rfl (fun hc0 => ?_) (fun hc0 => ?_)
   · try simp only [aB] at hc0
     refine WX.seq (WX.region rfl (za rfl (za rfl (ae.nil (Fin.aa (WX.ret (Fin.az ?_)))))))
     first
     | exact Fin.result (O' := O) (.inr rfl) rfl rfl au (.inr ⟨by omega, rfl, rfl⟩)
     | exact Fin.result (O' := bu b13 b10 ⟨room, false, false, 0, []⟩ .new O) (.inr rfl) rfl rfl au (.inl ⟨by omega, by omega, _, _, rfl, rfl⟩)
   · try simp only [aB] at hc0
     refine WX.skip (Fin.aa (WX.seq (WX.region rfl ?_)))
     refine ae.makeMap Met.none (fun b10 => ?_)
     refine zm rfl ?_
     refine ae.build (c := [_, _, _, _, _]) Met.none rfl ya v7 rfl ?_
     refine ae.box (c := [_, _, _, _, _]) Met.none rfl rfl rfl (fun b13 => ?_)
     refine za rfl (za rfl (ae.nil (Fin.aa (WX.ret ?_))))
     first
     | exact Fin.result (O' := O) (.inr rfl) rfl rfl au (.inr ⟨by omega, rfl, rfl⟩)
     | exact Fin.result (O' := bu b13 b10 ⟨room, false, false, 0, []⟩ .new O) (.inr rfl) rfl rfl au (.inl ⟨by omega, by omega, _, _, rfl, rfl⟩)
theorem fE (R : an) {R0 : an} (d bm : Nat) (D : Dk) (mx : bf) (n : Int) (hD : dX R0 D mx) (hi : ∀ g, Sat g R → Sat g R0) :
  Spec Tryz.prog false 19 #[Ptr d 0, I n] (bu d bm D mx R) fun v O' => ∃ a c G, v = .tuple #[.slice a (cK D n).1.length c, I (cK D n).2] ∧ Grow 1 a (cK D n).1.length c ((cK D n).1.map B8) G ∧ O' = bu d bm D mx (G ++ R) := by
 obtain ⟨fa, fc, hfv, hrow0, hnil, hB⟩ := hD.di.get n
 have hrow := hrow0.inc hi
 have hlen := hD.nk n
 refine Spec.enter (args := [_, _]) (m := 23) Tryz.func19 rfl rfl (by decide +kernel) fun h0 => ?_
 refine WX.seq (WX.region rfl (za rfl (za rfl (ae.nil (Fin.aa (WX.seq (WX.block (WX.seq (WX.region rfl (zm rfl ?_))))))))))
 refine ae.cl (O1 := _) Met.none rfl (ah Tryz.func39 (by decide +kernel)) rfl (fun _ h => h) (mQ _ n) (fun v O' hp => ?_)
 obtain ⟨rfl, hO⟩ := hp
 subst O'
 refine ae.not Met.none rfl (za rfl (ae.nil (Fin.aa ?_)))
 refine WX.cond rfl (fun hc0 => ?_) (fun hc0 => ?_)
 · try simp only [aB] at hc0
   refine WX.seq (WX.region rfl (za rfl (za rfl (ae.nil (Fin.aa (WX.ret (Fin.bq (Fin.az ?_))))))))
   first
   | exact Fin.result (O' := bu d bm D mx ([] ++ R)) (.inr rfl) rfl rfl au (by unfold cK; rw [if_pos (by omega)]; exact ⟨none, 0, [], rfl, .nil, rfl⟩)
   | exact Fin.result (O' := bu d bm D mx ([] ++ R)) (.inr rfl) rfl rfl au (by unfold cK; rw [if_neg (by omega), if_pos (by assumption)]; exact ⟨none, 0, [], rfl, .nil, rfl⟩)
   | exact Fin.result (O' := bu d bm D mx (G7 ++ R)) (.inr rfl) rfl rfl aC (by unfold cK; rw [if_neg (by omega), if_neg (by simp [hc1])]; exact ⟨a7, c7, G7, rfl, hG7, rfl⟩)
 · try simp only [aB] at hc0
   refine WX.seq (WX.region rfl (zm rfl (zn rfl ?_)))
   first | refine ae.fieldAddr Met.none rfl Tryz.underlying62 rfl dm rfl ?_ | refine ae.bQ Met.none rfl Tryz.underlying62 rfl dm ?_
   first | refine ae.ld Met.none rfl cV ?_ | refine ae.ba Met.none rfl cV ?_
   refine za rfl (ae.nil (Fin.aa ?_))
   refine WX.cond rfl (fun hc1 => ?_) (fun hc1 => ?_)
   · try simp only [aB] at hc1
     refine WX.seq (WX.region rfl (za rfl (za rfl (ae.nil (Fin.aa (WX.ret (Fin.bq (Fin.az ?_))))))))
     first
     | exact Fin.result (O' := bu d bm D mx ([] ++ R)) (.inr rfl) rfl rfl au (by unfold cK; rw [if_pos (by omega)]; exact ⟨none, 0, [], rfl, .nil, rfl⟩)
     | exact Fin.result (O' := bu d bm D mx ([] ++ R)) (.inr rfl) rfl rfl au (by unfold cK; rw [if_neg (by omega), if_pos (by assumption)]; exact ⟨none, 0, [], rfl, .nil, rfl⟩)
     | exact Fin.result (O' := bu d bm D mx (G7 ++ R)) (.inr rfl) rfl rfl aC (by unfold cK; rw [if_neg (by omega), if_neg (by simp [hc1])]; exact ⟨a7, c7, G7, rfl, hG7, rfl⟩)
   · try simp only [aB] at hc1
     refine WX.skip (Fin.ag (Fin.aa (WX.seq (WX.region rfl (zm rfl (zn rfl ?_))))))
     first | refine ae.fieldAddr Met.none rfl Tryz.underlying62 rfl ja rfl ?_ | refine ae.bQ Met.none rfl Tryz.underlying62 rfl ja ?_
     first | refine ae.ld Met.none rfl fF ?_ | refine ae.ba Met.none rfl fF ?_
     refine zm rfl ?_
     refine ae.lookup Met.none rfl rfl lA ie at_ (show _ = cJ fa (aI D.fs n).bs.length fc (aI D.fs n).d from hfv) ?_
     refine ae.xD Met.none rfl Tryz.underlying66 rfl (yE aD rfl) ?_
     refine ae.cl (O1 := _) Met.none rfl (ah Tryz.func30 (by decide +kernel)) rfl (fun _ h => h) (iW _ (aI D.fs n).bs fa fc (by omega) (fun q => by
     have := hrow.eh q
     exact List.length_eq_zero_iff.1 this) (Src.cons (Src.cons (hrow.src hnil)))) (fun v O' hp => ?_)
     obtain ⟨a7, c7, G7, rfl, hG7, rfl⟩ := hp
     refine za rfl (za rfl (ae.nil (Fin.aa (WX.ret ?_))))
     first
     | exact Fin.result (O' := bu d bm D mx ([] ++ R)) (.inr rfl) rfl rfl au (by unfold cK; rw [if_pos (by omega)]; exact ⟨none, 0, [], rfl, .nil, rfl⟩)
     | exact Fin.result (O' := bu d bm D mx ([] ++ R)) (.inr rfl) rfl rfl au (by unfold cK; rw [if_neg (by omega), if_pos (by assumption)]; exact ⟨none, 0, [], rfl, .nil, rfl⟩)
     | exact Fin.result (O' := bu d bm D mx (G7 ++ R)) (.inr rfl) rfl rfl aC (by unfold cK; rw [if_neg (by omega), if_neg (by simp [hc1])]; exact ⟨a7, c7, G7, rfl, hG7, rfl⟩)
theorem xe (q : Bool) (R : an) {R0 : an} (d bm : Nat) (D : Dk) (mx : bf) (hD : dX R0 D mx) :
  Spec Tryz.prog q 50 #[Ptr d 0] (bu d bm D mx R) fun v O' => v = I (used D.fs) ∧ O' = bu d bm D mx R :=
 Spec.direct fun g hs => ⟨_, g, _, qy (ro1 := false) (ro2 := false) (bm := bm) (mx := mx) (hs.at (j := 0) rfl) (hs.at (j := 1) rfl) hD.files (by
  have h1 := hD.lens
  have h2 := hD.used
  have h3 := hD.room
  omega), ⟨by rw [hD.lens], rfl⟩, hs, fun _ => Old.refl g⟩
theorem kC (R : an) {R0 : an} (d bm : Nat) (D : Dk) (mx : bf) (hD : dX R0 D mx) :
  Spec Tryz.prog false 32 #[Ptr d 0] (bu d bm D mx R) fun v O' => v = .tuple #[] ∧ O' = bu d bm { D with fs := dg D.fs } mx.cX R :=
 Spec.direct fun g hs => by
  obtain ⟨f, k, h2⟩ := hs.at (j := 1) (b := bm) (x := ⟨2, false, bW mx⟩) rfl
  exact ⟨_, _, bu d bm { D with fs := dg D.fs } mx.cX R, oM (ro1 := false) (bm := bm) (mx := mx) (hs.at (j := 0) rfl) h2 hD.files hD.keys, ⟨rfl, rfl⟩, hs.set (j := 1) rfl h2, fun q => by cases q⟩
theorem ml (R : an) {R0 : an} (d bm : Nat) (D : Dk) (mx : bf) (hD : dX R0 D mx) :
  Spec Tryz.prog false 25 #[Ptr d 0] (bu d bm D mx R) fun v O' => ∃ mx', v = I (bT D).1 ∧ O' = bu d bm (bT D).2 mx' R ∧ dX R0 (bT D).2 mx' := by
 refine Spec.enter (args := [_]) (m := 14) Tryz.func25 rfl rfl (by decide +kernel) fun h0 => ?_
 refine WX.seq (WX.region rfl (za rfl (ae.nil (Fin.aa (WX.seq (WX.seq (WX.region rfl (zm rfl (zn rfl ?_)))))))))
 first | refine ae.fieldAddr Met.none rfl Tryz.underlying62 rfl dm rfl ?_ | refine ae.bQ Met.none rfl Tryz.underlying62 rfl dm ?_
 first | refine ae.ld Met.none rfl cV ?_ | refine ae.ba Met.none rfl cV ?_
 refine zm rfl ?_
 refine ae.split (d := 7) rfl (fun hg7 => ?_) (fun hg7 => ?_)
 · try simp only [aB] at hg7
   refine zs 4 7 rfl rfl rfl (zs 4 7 rfl rfl rfl (zs 4 7 rfl rfl rfl (ae.bC Met.none rfl rfl (ae.nil (Fin.aa ?_)))))
   refine WX.cond rfl (fun hc0 => ?_) (fun hc0 => nomatch hc0)
   refine WX.seq (WX.region rfl (za rfl (ae.nil (Fin.aa (WX.ret (Fin.az ?_))))))
   first
   | exact Fin.result (O' := bu d bm D mx R) (.inr rfl) rfl rfl au (by unfold bT; rw [if_pos (by assumption)]; exact ⟨mx, rfl, rfl, hD⟩)
   | exact Fin.result (O' := bu d bm (bE D).2 mx R) (.inr rfl) rfl rfl au (by unfold bT; rw [if_neg (by simp [hg7]), if_pos (by simpa using hc0)]; exact ⟨mx, rfl, rfl, hD.step⟩)
   | exact Fin.result (O' := bu d bm { (bE D).2 with fs := dg (bE D).2.fs } mx.cX R) (.inr rfl) rfl rfl au (by unfold bT; rw [if_neg (by simp [hg7]), if_neg (by simpa using hc0)]; exact ⟨mx.cX, rfl, rfl, hD.step.cX⟩)
 · try simp only [aB] at hg7
   refine ae.move (Met.some rfl rfl rfl) rfl ?_
   refine ae.cl (O1 := _) (Met.some rfl rfl rfl) rfl (ah Tryz.func45 (by decide +kernel)) rfl (fun _ h => h) (pL R d bm D mx hD.left) (fun v O' hp => ?_)
   obtain ⟨rfl, hO⟩ := hp
   subst O'
   refine ae.not (Met.some rfl rfl rfl) rfl (ae.bd Met.none rfl rfl (ae.nil (Fin.aa ?_)))
   refine WX.cond rfl (fun hc0 => ?_) (fun hc0 => ?_)
   · try simp only [aB] at hc0
     refine WX.seq (WX.region rfl (za rfl (ae.nil (Fin.aa (WX.ret (Fin.az ?_))))))
     first
     | exact Fin.result (O' := bu d bm D mx R) (.inr rfl) rfl rfl au (by unfold bT; rw [if_pos (by assumption)]; exact ⟨mx, rfl, rfl, hD⟩)
     | exact Fin.result (O' := bu d bm (bE D).2 mx R) (.inr rfl) rfl rfl au (by unfold bT; rw [if_neg (by simp [hg7]), if_pos (by simpa using hc0)]; exact ⟨mx, rfl, rfl, hD.step⟩)
     | exact Fin.result (O' := bu d bm { (bE D).2 with fs := dg (bE D).2.fs } mx.cX R) (.inr rfl) rfl rfl au (by unfold bT; rw [if_neg (by simp [hg7]), if_neg (by simpa using hc0)]; exact ⟨mx.cX, rfl, rfl, hD.step.cX⟩)
   · try simp only [aB] at hc0
     refine WX.skip (Fin.aa (WX.seq (WX.region rfl (zm rfl ?_))))
     refine ae.cl (O1 := _) Met.none rfl (ah Tryz.func32 (by decide +kernel)) rfl (fun _ h => h) (kC R d bm (bE D).2 mx hD.step) (fun v O' hp => ?_)
     obtain ⟨rfl, hO⟩ := hp
     subst O'
     refine zR rfl (za rfl (ae.nil (Fin.aa (WX.ret ?_))))
     first
     | exact Fin.result (O' := bu d bm D mx R) (.inr rfl) rfl rfl au (by unfold bT; rw [if_pos (by assumption)]; exact ⟨mx, rfl, rfl, hD⟩)
     | exact Fin.result (O' := bu d bm (bE D).2 mx R) (.inr rfl) rfl rfl au (by unfold bT; rw [if_neg (by simp [hg7]), if_pos (by simpa using hc0)]; exact ⟨mx, rfl, rfl, hD.step⟩)
     | exact Fin.result (O' := bu d bm { (bE D).2 with fs := dg (bE D).2.fs } mx.cX R) (.inr rfl) rfl rfl au (by unfold bT; rw [if_neg (by simp [hg7]), if_neg (by simpa using hc0)]; exact ⟨mx.cX, rfl, rfl, hD.step.cX⟩)
theorem uX (R : an) {R0 : an} (d bm : Nat) (D : Dk) (mx : bf) (n size : Int) (hD : dX R0 D mx) (hi : ∀ g, Sat g R → Sat g R0) :
  Spec Tryz.prog false 24 #[Ptr d 0, I n, I size] (bu d bm D mx R) fun v O' => ∃ mx', v = I (cA D n size).1 ∧ O' = bu d bm (cA D n size).2 mx' R ∧ dX R0 (cA D n size).2 mx' := by
 obtain ⟨fa, fc, hfv, hrow0, hnil, hB⟩ := hD.di.get n
 have hrow := hrow0.inc hi
 have hlen := hD.nk n
 refine Spec.enter (args := [_, _, _]) (m := 49) Tryz.func24 rfl rfl (by decide +kernel) fun h0 => ?_
 refine WX.seq (WX.region rfl (za rfl (zR rfl (zm rfl (zn rfl ?_)))))
 first | refine ae.fieldAddr Met.none rfl Tryz.underlying62 rfl ja rfl ?_ | refine ae.bQ Met.none rfl Tryz.underlying62 rfl ja ?_
 first | refine ae.ld Met.none rfl fF ?_ | refine ae.ba Met.none rfl fF ?_
 refine zm rfl ?_
 refine ae.lookup Met.none rfl rfl lA ie at_ (show _ = cJ fa (aI D.fs n).bs.length fc (aI D.fs n).d from hfv) ?_
 refine ae.alloc (c := [_, _]) Met.none ie rfl (fun b7 => ?_)
 refine ae.st (vs := [_, _]) (c' := [_, _]) (j := 0) Met.none rfl rfl rfl pR ?_ (hj := rfl)
 refine ae.nil (Fin.aa (WX.seq (WX.seq (WX.region rfl (zm rfl ?_)))))
 refine ae.cl (O1 := _) Met.none rfl (ah Tryz.func39 (by decide +kernel)) rfl (fun _ h => h) (mQ _ n) (fun v O' hp => ?_)
 obtain ⟨rfl, hO⟩ := hp
 subst O'
 refine ae.not Met.none rfl (zm rfl ?_)
 refine ae.split (d := 17) rfl (fun hg17 => ?_) (fun hg17 => ?_)
 · try simp only [aB] at hg17
   refine zs 3 17 rfl rfl rfl (zs 3 17 rfl rfl rfl (ae.bC Met.none rfl rfl (zm rfl (zs 7 21 rfl rfl rfl (zs 7 21 rfl rfl rfl (zs 7 21 rfl rfl rfl (zs 7 21 rfl rfl rfl (zs 7 21 rfl rfl rfl (ae.bC Met.none rfl rfl (ae.nil (Fin.aa ?_)))))))))))
   refine WX.cond rfl (fun hc0 => ?_) (fun hc0 => nomatch hc0)
   refine WX.seq (WX.region rfl (za rfl (ae.nil (Fin.aa (WX.ret (Fin.az ?_))))))
   first
   | exact Fin.result (O' := bu d bm D mx R) (.inr rfl) rfl rfl au (by unfold cA; rw [if_pos (by omega)]; exact ⟨mx, rfl, rfl, hD⟩)
   | exact Fin.result (O' := bu d bm D mx R) (.inr rfl) rfl rfl au (by unfold cA; rw [if_neg (by omega), if_pos (by assumption)]; exact ⟨mx, rfl, rfl, hD⟩)
   | exact Fin.result (O' := bu d bm (bE D).2 mx R) (.inr rfl) rfl rfl aC (by unfold cA; rw [if_neg (by omega), if_neg (by simp [hg32]), if_pos (by simpa using hc1)]; exact ⟨mx, rfl, rfl, hD.step⟩)
   | exact Fin.result (O' := bu d bm { (bE D).2 with fs := gU D.fs n ⟨(aI D.fs n).bs.take k, min (aI D.fs n).d k⟩ } (iv mx n (cJ fa k k (min (aI D.fs n).d k)) k) R) (.inr rfl) rfl rfl au (by
     unfold cA
     rw [if_neg (by omega), if_neg (by simp [hg32]), if_neg (by simpa using hc1)]
     have hk : k ≤ (aI D.fs n).bs.length := by omega
     have hlk : ((aI D.fs n).bs.take k).length = k := by rw [List.length_take, Nat.min_eq_left hk]
     have hpre := hrow0.pre hk
     rw [Nat.mul_one, ← List.map_take] at hpre
     have hf : eA R0 (cJ fa k k (min (aI D.fs n).d k)) ⟨(aI D.fs n).bs.take k, min (aI D.fs n).d k⟩ := ⟨fa, k, by rw [hlk], by rw [hlk]; exact hpre, hpre.eh, fun x hx => hB x (List.mem_of_mem_take hx)⟩
     obtain ⟨h1, h2⟩ := eV D
     have hgd := hD.kY n
     have hs := hD.step.set n hf (by omega) ⟨by simp only; omega, by rw [hlk]; simp only; omega⟩ (by
      have := hD.used
      rw [h1, h2, hlk]
      omega)
     rw [hlk, h1] at hs
     exact ⟨_, rfl, rfl, hs⟩)
 · try simp only [aB] at hg17
   refine ae.move (Met.some rfl rfl rfl) rfl (ae.bin (Met.some rfl rfl rfl) rfl rfl rfl (ae.bd Met.none rfl rfl (zm rfl ?_)))
   refine ae.split (d := 21) rfl (fun hg21 => ?_) (fun hg21 => ?_)
   · try simp only [aB] at hg21
     refine zs 7 21 rfl rfl rfl (zs 7 21 rfl rfl rfl (zs 7 21 rfl rfl rfl (zs 7 21 rfl rfl rfl (zs 7 21 rfl rfl rfl (ae.bC Met.none rfl rfl (ae.nil (Fin.aa ?_)))))))
     refine WX.cond rfl (fun hc0 => ?_) (fun hc0 => nomatch hc0)
     refine WX.seq (WX.region rfl (za rfl (ae.nil (Fin.aa (WX.ret (Fin.az ?_))))))
     first
     | exact Fin.result (O' := bu d bm D mx R) (.inr rfl) rfl rfl au (by unfold cA; rw [if_pos (by omega)]; exact ⟨mx, rfl, rfl, hD⟩)
     | exact Fin.result (O' := bu d bm D mx R) (.inr rfl) rfl rfl au (by unfold cA; rw [if_neg (by omega), if_pos (by assumption)]; exact ⟨mx, rfl, rfl, hD⟩)
     | exact Fin.result (O' := bu d bm (bE D).2 mx R) (.inr rfl) rfl rfl aC (by unfold cA; rw [if_neg (by omega), if_neg (by simp [hg32]), if_pos (by simpa using hc1)]; exact ⟨mx, rfl, rfl, hD.step⟩)
     | exact Fin.result (O' := bu d bm { (bE D).2 with fs := gU D.fs n ⟨(aI D.fs n).bs.take k, min (aI D.fs n).d k⟩ } (iv mx n (cJ fa k k (min (aI D.fs n).d k)) k) R) (.inr rfl) rfl rfl au (by
       unfold cA
       rw [if_neg (by omega), if_neg (by simp [hg32]), if_neg (by simpa using hc1)]
       have hk : k ≤ (aI D.fs n).bs.length := by omega
       have hlk : ((aI D.fs n).bs.take k).length = k := by rw [List.length_take, Nat.min_eq_left hk]
       have hpre := hrow0.pre hk
       rw [Nat.mul_one, ← List.map_take] at hpre
       have hf : eA R0 (cJ fa k k (min (aI D.fs n).d k)) ⟨(aI D.fs n).bs.take k, min (aI D.fs n).d k⟩ := ⟨fa, k, by rw [hlk], by rw [hlk]; exact hpre, hpre.eh, fun x hx => hB x (List.mem_of_mem_take hx)⟩
       obtain ⟨h1, h2⟩ := eV D
       have hgd := hD.kY n
       have hs := hD.step.set n hf (by omega) ⟨by simp only; omega, by rw [hlk]; simp only; omega⟩ (by
        have := hD.used
        rw [h1, h2, hlk]
        omega)
       rw [hlk, h1] at hs
       exact ⟨_, rfl, rfl, hs⟩)
   · try simp only [aB] at hg21
     refine ae.move (Met.some rfl rfl rfl) rfl ?_
     refine ae.fieldAddr (off' := 0) (Met.some rfl rfl rfl) rfl Tryz.underlying66 rfl aO rfl ?_
     first | refine ae.ld (Met.some rfl rfl rfl) rfl aD ?_ | refine ae.ba (Met.some rfl rfl rfl) rfl aD ?_
     refine ae.len (Met.some rfl rfl rfl) rfl Tryz.underlying39 (ae.bin (Met.some rfl rfl rfl) rfl rfl rfl (ae.bd Met.none rfl rfl (ae.nil (Fin.aa ?_))))
     refine WX.cond rfl (fun hc0 => ?_) (fun hc0 => ?_)
     · try simp only [aB] at hc0
       refine WX.seq (WX.region rfl (za rfl (ae.nil (Fin.aa (WX.ret (Fin.az ?_))))))
       first
       | exact Fin.result (O' := bu d bm D mx R) (.inr rfl) rfl rfl au (by unfold cA; rw [if_pos (by omega)]; exact ⟨mx, rfl, rfl, hD⟩)
       | exact Fin.result (O' := bu d bm D mx R) (.inr rfl) rfl rfl au (by unfold cA; rw [if_neg (by omega), if_pos (by assumption)]; exact ⟨mx, rfl, rfl, hD⟩)
       | exact Fin.result (O' := bu d bm (bE D).2 mx R) (.inr rfl) rfl rfl aC (by unfold cA; rw [if_neg (by omega), if_neg (by simp [hg32]), if_pos (by simpa using hc1)]; exact ⟨mx, rfl, rfl, hD.step⟩)
       | exact Fin.result (O' := bu d bm { (bE D).2 with fs := gU D.fs n ⟨(aI D.fs n).bs.take k, min (aI D.fs n).d k⟩ } (iv mx n (cJ fa k k (min (aI D.fs n).d k)) k) R) (.inr rfl) rfl rfl au (by
         unfold cA
         rw [if_neg (by omega), if_neg (by simp [hg32]), if_neg (by simpa using hc1)]
         have hk : k ≤ (aI D.fs n).bs.length := by omega
         have hlk : ((aI D.fs n).bs.take k).length = k := by rw [List.length_take, Nat.min_eq_left hk]
         have hpre := hrow0.pre hk
         rw [Nat.mul_one, ← List.map_take] at hpre
         have hf : eA R0 (cJ fa k k (min (aI D.fs n).d k)) ⟨(aI D.fs n).bs.take k, min (aI D.fs n).d k⟩ := ⟨fa, k, by rw [hlk], by rw [hlk]; exact hpre, hpre.eh, fun x hx => hB x (List.mem_of_mem_take hx)⟩
         obtain ⟨h1, h2⟩ := eV D
         have hgd := hD.kY n
         have hs := hD.step.set n hf (by omega) ⟨by simp only; omega, by rw [hlk]; simp only; omega⟩ (by
          have := hD.used
          rw [h1, h2, hlk]
          omega)
         rw [hlk, h1] at hs
         exact ⟨_, rfl, rfl, hs⟩)
     · try simp only [aB] at hc0
       refine WX.skip (Fin.aa (WX.seq (WX.seq (WX.region rfl (zm rfl (zn rfl ?_))))))
       first | refine ae.fieldAddr Met.none rfl Tryz.underlying62 rfl dm rfl ?_ | refine ae.bQ Met.none rfl Tryz.underlying62 rfl dm ?_
       first | refine ae.ld Met.none rfl cV ?_ | refine ae.ba Met.none rfl cV ?_
       refine zm rfl ?_
       refine ae.split (d := 32) rfl (fun hg32 => ?_) (fun hg32 => ?_)
       · try simp only [aB] at hg32
         refine zs 4 32 rfl rfl rfl (zs 4 32 rfl rfl rfl (zs 4 32 rfl rfl rfl (ae.bC Met.none rfl rfl (ae.nil (Fin.aa ?_)))))
         refine WX.cond rfl (fun hc1 => ?_) (fun hc1 => nomatch hc1)
         refine WX.seq (WX.region rfl (za rfl (ae.nil (Fin.aa (WX.ret (Fin.az ?_))))))
         first
         | exact Fin.result (O' := bu d bm D mx R) (.inr rfl) rfl rfl au (by unfold cA; rw [if_pos (by omega)]; exact ⟨mx, rfl, rfl, hD⟩)
         | exact Fin.result (O' := bu d bm D mx R) (.inr rfl) rfl rfl au (by unfold cA; rw [if_neg (by omega), if_pos (by assumption)]; exact ⟨mx, rfl, rfl, hD⟩)
         | exact Fin.result (O' := bu d bm (bE D).2 mx R) (.inr rfl) rfl rfl aC (by unfold cA; rw [if_neg (by omega), if_neg (by simp [hg32]), if_pos (by simpa using hc1)]; exact ⟨mx, rfl, rfl, hD.step⟩)
         | exact Fin.result (O' := bu d bm { (bE D).2 with fs := gU D.fs n ⟨(aI D.fs n).bs.take k, min (aI D.fs n).d k⟩ } (iv mx n (cJ fa k k (min (aI D.fs n).d k)) k) R) (.inr rfl) rfl rfl au (by
           unfold cA
           rw [if_neg (by omega), if_neg (by simp [hg32]), if_neg (by simpa using hc1)]
           have hk : k ≤ (aI D.fs n).bs.length := by omega
           have hlk : ((aI D.fs n).bs.take k).length = k := by rw [List.length_take, Nat.min_eq_left hk]
           have hpre := hrow0.pre hk
           rw [Nat.mul_one, ← List.map_take] at hpre
           have hf : eA R0 (cJ fa k k (min (aI D.fs n).d k)) ⟨(aI D.fs n).bs.take k, min (aI D.fs n).d k⟩ := ⟨fa, k, by rw [hlk], by rw [hlk]; exact hpre, hpre.eh, fun x hx => hB x (List.mem_of_mem_take hx)⟩
           obtain ⟨h1, h2⟩ := eV D
           have hgd := hD.kY n
           have hs := hD.step.set n hf (by omega) ⟨by simp only; omega, by rw [hlk]; simp only; omega⟩ (by
            have := hD.used
            rw [h1, h2, hlk]
            omega)
           rw [hlk, h1] at hs
           exact ⟨_, rfl, rfl, hs⟩)
       · try simp only [aB] at hg32
         refine ae.move (Met.some rfl rfl rfl) rfl ?_
         refine ae.cl (O1 := bu d bm D mx ((b7, ⟨0, false, [.slice fa (aI D.fs n).bs.length fc, I (aI D.fs n).d]⟩) :: R)) (Met.some rfl rfl rfl) rfl (ah Tryz.func45 (by decide +kernel)) rfl aC (pL _ d bm D mx hD.left) (fun v O' hp => ?_)
         obtain ⟨rfl, hO⟩ := hp
         subst O'
         refine ae.not (Met.some rfl rfl rfl) rfl (ae.bd Met.none rfl rfl (ae.nil (Fin.aa ?_)))
         refine WX.cond rfl (fun hc1 => ?_) (fun hc1 => ?_)
         · try simp only [aB] at hc1
           refine WX.seq (WX.region rfl (za rfl (ae.nil (Fin.aa (WX.ret (Fin.az ?_))))))
           first
           | exact Fin.result (O' := bu d bm D mx R) (.inr rfl) rfl rfl au (by unfold cA; rw [if_pos (by omega)]; exact ⟨mx, rfl, rfl, hD⟩)
           | exact Fin.result (O' := bu d bm D mx R) (.inr rfl) rfl rfl au (by unfold cA; rw [if_neg (by omega), if_pos (by assumption)]; exact ⟨mx, rfl, rfl, hD⟩)
           | exact Fin.result (O' := bu d bm (bE D).2 mx R) (.inr rfl) rfl rfl aC (by unfold cA; rw [if_neg (by omega), if_neg (by simp [hg32]), if_pos (by simpa using hc1)]; exact ⟨mx, rfl, rfl, hD.step⟩)
           | exact Fin.result (O' := bu d bm { (bE D).2 with fs := gU D.fs n ⟨(aI D.fs n).bs.take k, min (aI D.fs n).d k⟩ } (iv mx n (cJ fa k k (min (aI D.fs n).d k)) k) R) (.inr rfl) rfl rfl au (by
             unfold cA
             rw [if_neg (by omega), if_neg (by simp [hg32]), if_neg (by simpa using hc1)]
             have hk : k ≤ (aI D.fs n).bs.length := by omega
             have hlk : ((aI D.fs n).bs.take k).length = k := by rw [List.length_take, Nat.min_eq_left hk]
             have hpre := hrow0.pre hk
             rw [Nat.mul_one, ← List.map_take] at hpre
             have hf : eA R0 (cJ fa k k (min (aI D.fs n).d k)) ⟨(aI D.fs n).bs.take k, min (aI D.fs n).d k⟩ := ⟨fa, k, by rw [hlk], by rw [hlk]; exact hpre, hpre.eh, fun x hx => hB x (List.mem_of_mem_take hx)⟩
             obtain ⟨h1, h2⟩ := eV D
             have hgd := hD.kY n
             have hs := hD.step.set n hf (by omega) ⟨by simp only; omega, by rw [hlk]; simp only; omega⟩ (by
              have := hD.used
              rw [h1, h2, hlk]
              omega)
             rw [hlk, h1] at hs
             exact ⟨_, rfl, rfl, hs⟩)
         · try simp only [aB] at hc1
           refine WX.skip (Fin.aa (WX.seq ?_))
           obtain ⟨k, rfl⟩ : ∃ k : Nat, size = (k : Int) := ⟨size.toNat, by omega⟩
           refine WX.draw rfl ?_
           refine zm rfl (zm rfl ?_)
           refine ae.fieldAddr (off' := 0) Met.none rfl Tryz.underlying66 rfl aO rfl ?_
           first | refine ae.ld Met.none rfl aD ?_ | refine ae.ba Met.none rfl aD ?_
           refine zm rfl ?_
           refine ae.pre (m := k) Met.none rfl rfl aQ ea (bK.cons (bK.cons (bK.cons hrow))) hnil ?_
           refine ae.fieldAddr (off' := 1) Met.none rfl Tryz.underlying66 rfl cj rfl ?_
           first | refine ae.ld Met.none rfl bY ?_ | refine ae.ba Met.none rfl bY ?_
           refine zm rfl ?_
           refine ae.min Met.none rfl rfl ?_
           refine ae.build (c := [_, _]) Met.none rfl ie qE rfl ?_
           refine ae.cl (O1 := bu d bm (bE D).2 mx R) Met.none rfl (ah Tryz.func31 (by decide +kernel)) rfl aC (qh R d bm (bE D).2 mx n fa k k (min (aI D.fs n).d k)) (fun v O' hp => ?_)
           obtain rfl := hp
           refine zR rfl (za rfl (ae.nil (Fin.aa (WX.ret ?_))))
           first
           | exact Fin.result (O' := bu d bm D mx R) (.inr rfl) rfl rfl au (by unfold cA; rw [if_pos (by omega)]; exact ⟨mx, rfl, rfl, hD⟩)
           | exact Fin.result (O' := bu d bm D mx R) (.inr rfl) rfl rfl au (by unfold cA; rw [if_neg (by omega), if_pos (by assumption)]; exact ⟨mx, rfl, rfl, hD⟩)
           | exact Fin.result (O' := bu d bm (bE D).2 mx R) (.inr rfl) rfl rfl aC (by unfold cA; rw [if_neg (by omega), if_neg (by simp [hg32]), if_pos (by simpa using hc1)]; exact ⟨mx, rfl, rfl, hD.step⟩)
           | exact Fin.result (O' := bu d bm { (bE D).2 with fs := gU D.fs n ⟨(aI D.fs n).bs.take k, min (aI D.fs n).d k⟩ } (iv mx n (cJ fa k k (min (aI D.fs n).d k)) k) R) (.inr rfl) rfl rfl au (by
             unfold cA
             rw [if_neg (by omega), if_neg (by simp [hg32]), if_neg (by simpa using hc1)]
             have hk : k ≤ (aI D.fs n).bs.length := by omega
             have hlk : ((aI D.fs n).bs.take k).length = k := by rw [List.length_take, Nat.min_eq_left hk]
             have hpre := hrow0.pre hk
             rw [Nat.mul_one, ← List.map_take] at hpre
             have hf : eA R0 (cJ fa k k (min (aI D.fs n).d k)) ⟨(aI D.fs n).bs.take k, min (aI D.fs n).d k⟩ := ⟨fa, k, by rw [hlk], by rw [hlk]; exact hpre, hpre.eh, fun x hx => hB x (List.mem_of_mem_take hx)⟩
             obtain ⟨h1, h2⟩ := eV D
             have hgd := hD.kY n
             have hs := hD.step.set n hf (by omega) ⟨by simp only; omega, by rw [hlk]; simp only; omega⟩ (by
              have := hD.used
              rw [h1, h2, hlk]
              omega)
             rw [hlk, h1] at hs
             exact ⟨_, rfl, rfl, hs⟩)
end Go.Proofs.YthekokdpplobhaaGreat.Eng
set_option maxRecDepth 4000
namespace Go.Proofs.YthekokdpplobhaaGreat.Eng
open Go Go.Proofs Go.ChangeShapes Go.WideShapes Go.RowKit
def kU (l : List Int) : List Int := l.mergeSort fun x y => decide (x ≤ y)
def eF (mx : bf) : List Int := mx.es.map (·.1)
abbrev tY : Value → Option (DataW Unit × List MemPlace) := fun _ => some (.nil, [])
theorem ux {ι : Lay} {c : List (Int × Nat × Value)} : ∀ {es : List MapEntry}, cL ι (dz c) es → es.map (·.key) = c.map fun e => I e.1 := by
 induction c with
 | nil => intro es hp; cases hp; rfl
 | cons p c ih =>
  obtain ⟨k, n, v⟩ := p
  intro es hp
  unfold dz at hp
  generalize hX : I k :: I n :: v :: dz c = X at hp
  cases hp with
  | nil => cases hX
  | cons h1 h2 h3 h4 =>
   rename_i c3 e2 es2
   injection hX with q1 q2
   injection q2 with q3 q4
   injection q4 with q5 q6
   subst q1 q5 q6
   rw [List.map_cons, List.map_cons, ih h4, h1]
theorem vW {k : Int} (h : 0 ≤ k ∧ k < 64) : (Lit.int .i64 k).wf = true := by
 simp only [Lit.wf, Bool.and_eq_true, decide_eq_true_eq]
 have h1 : IntKind.i64.min = -9223372036854775808 := rfl
 have h2 : IntKind.i64.max = 9223372036854775807 := rfl
 omega
theorem vP {w : World} {B : Nat} {es : Array MapEntry} {clock : Nat} {ks : List Int} (hb : w.heap[B]? = some (.map es clock)) (hk : es.toList.map (·.key) = ks.map I) (hn : ks.Nodup) (hr : ∀ k ∈ ks, 0 ≤ k ∧ k < 64) (hl : ks.length ≤ 16777216)
  (h1 : ∀ en ∈ es.toList, en.born < clock) (h2 : es.toList.Pairwise fun x y => x.born < y.born) :
  ∃ D0 : DataW Unit, w.ownsMap Tryz.prog 3 tY B es.size D0 ∧ (intKeys D0).Perm ks ∧ Maps.size D0 = ks.length := by
 have hlen : es.size = ks.length := by
  have := congrArg List.length hk
  simpa using this
 have hread : ∀ x ∈ es.toList, ∃ k ∈ ks, x.key = I k ∧ WideElems.rd Tryz.prog 3 tY x = some (.int .i64 k, .nil) := fun x hx => by
  have hm : x.key ∈ ks.map I := by rw [← hk]; exact List.mem_map.2 ⟨x, hx, rfl⟩
  obtain ⟨k, hk1, hk2⟩ := List.mem_map.1 hm
  have hkey : keyOf Tryz.prog 3 (I k) = some (.int .i64 k) := Maps.keyOf_int_mk Tryz.underlying3 (vW (hr k hk1))
  refine ⟨k, hk1, hk2.symm, ?_⟩
  simp only [WideElems.rd, ← hk2, hkey, tY, Option.bind_some, Option.map_some]
 refine ⟨_, ⟨es, clock, hb, ⟨by rw [hlen]; exact Nat.le_trans hl (by decide), ⟨h1, ?_, ?_⟩, fun x hx => ?_⟩, Nat.le_refl _, rfl⟩, ?_, ?_⟩
 · exact (List.pairwise_map.2 h2).imp fun q => Nat.ne_of_lt q
 · rw [hk]
   exact List.pairwise_map.2 (hn.imp fun q e => q (by injection e))
 · obtain ⟨k, _, _, h⟩ := hread x hx
   exact ⟨_, h⟩
 · show (((es.toList.map (WideElems.rg Tryz.prog 3 tY)).foldr DataW.insert []).map fun p => Go.intOf p.1).Perm ks
   refine ((WideShapes.sorted_perm _).map _).trans ?_
   rw [List.map_map]
   have e1 : es.toList.map ((fun p : Lit × DataW Unit => Go.intOf p.1) ∘ WideElems.rg Tryz.prog 3 tY) = es.toList.map fun x => (match x.key with | .int _ k => k | _ => 0) := List.map_congr_left fun x hx => by
    obtain ⟨k, _, h3, h4⟩ := hread x hx
    simp only [Function.comp, WideElems.rg, h4, Option.getD_some, h3]
    rfl
   have e2 : (es.toList.map fun x => (match x.key with | .int _ k => k | _ => 0)) = (es.toList.map (·.key)).map fun v => (match v with | .int _ k => k | _ => 0) := by rw [List.map_map]; rfl
   rw [e1, e2, hk, List.map_map]
   have e3 : ks.map ((fun v : Value => (match v with | .int _ k => k | _ => 0)) ∘ I) = ks := by
    rw [show ((fun v : Value => (match v with | .int _ k => k | _ => 0)) ∘ I) = id from rfl, List.map_id]
   rw [e3]
 · show ((es.toList.map (WideElems.rg Tryz.prog 3 tY)).foldr DataW.insert []).length = _
   rw [(WideShapes.sorted_perm _).length_eq, List.length_map, Array.length_toList, hlen]
theorem vV (m : Nat) : AnyZI.SortsIn Tryz.prog m5 Fence.wide m :=
 ⟨fun gG off cap ss W hH hblk hsz => callsIn_wide.2 (AnyM.slices_Sort_int xy gG off cap ss W hH hblk hsz),
  fun p cap W => callsIn_wide.2 (AnyM.slices_Sort_int_none xy p cap W)⟩
theorem r9 (B : Nat) (w : World) : Calls Tryz.prog 49 #[.map (some B)] w fun e w' => e = .returned (.func (.func 68) #[] #[.pointer (some ⟨w.heap.size, 0, none⟩)]) ∧ w' = w.alloc (.cells #[.map (some B)] 60) :=
 (callsIn_wide (n := 5)).1 (AnyZI.keys_in xw Fence.wide 5 trivial rfl (some B) w)
theorem qb {w : World} {B : Nat} {es : Array MapEntry} {clock : Nat} {ks : List Int} (hb : w.heap[B]? = some (.map es clock)) (hk : es.toList.map (·.key) = ks.map I) (hn : ks.Nodup) (hr : ∀ k ∈ ks, 0 ≤ k ∧ k < 64) (hl : ks.length ≤ 16777216)
  (h1 : ∀ en ∈ es.toList, en.born < clock) (h2 : es.toList.Pairwise fun x y => x.born < y.born) :
  Calls Tryz.prog 48 #[.func (.func 68) #[] #[.pointer (some ⟨w.heap.size, 0, none⟩)]] (w.alloc (.cells #[.map (some B)] 60)) fun e w' => ∃ v, e = .returned v ∧
   w'.ownsRow (w.heap.size + 1) 3 1 v ks.length ((kU ks).map I) ∧ (v = .slice none 0 0 ↔ ks = []) ∧ Below (w.heap.size + 1) (w.alloc (.cells #[.map (some B)] 60)) w' := by
 have hB : B < w.heap.size := (Array.getElem?_eq_some_iff.1 hb).1
 have hb' : (w.alloc (.cells #[.map (some B)] 60)).heap[B]? = some (.map es clock) := (Below.heap_alloc _ _ B hB).trans hb
 obtain ⟨D0, hown, hperm, hsize⟩ := vP hb' hk hn hr hl h1 h2
 have hseq : SeqGives Fence.wide 2 Tryz.prog 68 #[.pointer (some ⟨w.heap.size, 0, none⟩)] encZ (fun ss => ss.Perm (intKeys D0)) (Maps.size D0) (w.alloc (.cells #[.map (some B)] 60)) :=
  AnyZI.keys_gives (ρ := py) { xw with } Fence.wide _ trivial rfl (by omega) w.heap.size B es.size D0 _ (by simp) (by simp) hown
 have cS := AnyZI.sorted_in xk Fence.wide 5 trivial trivial trivial trivial rfl (by omega) (vV _) (enters_of Tryz.func67 (by kernel_rfl) rfl) 68 #[.pointer (some ⟨w.heap.size, 0, none⟩)] trivial (enters_of Tryz.func68 (by kernel_rfl) rfl) _ _ (by rw [hsize]; exact Nat.le_trans hl (by decide)) (by rw [hsize]; omega) _ hseq
 change CallsIn _ _ Tryz.prog 48 _ _ _ at cS
 refine ((callsIn_wide (n := 5)).1 cS).mono ?_
 rintro e w' ⟨v, ss, rfl, hS, hrow, hnil, hbl⟩
 have hp : ss.Perm ks := hS.trans hperm
 have hsz : (w.alloc (.cells #[.map (some B)] 60)).heap.size = w.heap.size + 1 := by simp
 rw [hsz] at hrow hbl
 rw [show ss.mergeSort (fun x y => decide (x ≤ y)) = kU ks from mergeSort_of_perm_i hp, hp.length_eq] at hrow
 exact ⟨v, rfl, hrow, by rw [hnil]; exact ⟨fun q => by subst q; exact hp.symm.eq_nil, fun q => by subst q; exact hp.eq_nil⟩, hbl⟩
theorem qS {P : Program} {w : World} {ops : Array Oper} {i : Nat} {rest : List Nat} {a : Act} {Q : Exit → Act → World → Prop} {dst : Option Tmp} {f : FuncId} {fn : Func} {gargs : Array Operand} {ts : Array TypeId} {t : TypeId} {p : String} {af : Array Edge} {args : Array Value}
  (ho : ops[i]? = some { dst := dst, op := .call { callee := .value (.func f), args := gargs, argTypes := ts }, type := t, pos := p, after := af, guard := none }) (hf : P.funcs[f]? = some fn) (hb : (fn.body.isSome && fn.name != "runtime.NumGoroutine") = true) (hargs : gargs.map a.eval = args)
  (hc : Calls P f args w fun e w' => ∃ v, e = .returned v ∧ wpOpsIn (FR none) 0 P ops Q rest (a.put dst v) w') : wpOpsIn (FR none) 0 P ops Q (i :: rest) a w := by
 simp only [Bool.and_eq_true] at hb
 rw [wpOpsIn_cons]
 unfold wpOpIn
 simp only [ho]
 have hwant : Region.wanted { dst := dst, op := .call { callee := .value (.func f), args := gargs, argTypes := ts }, type := t, pos := p, after := af, guard := none } (yielded ops a.tmps) = true := rfl
 rw [hwant, if_pos rfl]
 refine ⟨fun _ _ => trivial, ?_⟩
 rw [Oper.semAt_eq _ _ _ (fun c hc => by cases hc)]
 have hrun : (execOp a.eval { dst := dst, op := .call { callee := .value (.func f), args := gargs, argTypes := ts }, type := t, pos := p, after := af, guard := none }).run P w = .ok (.enter f args) w := by
  have hga : a.eval (.func f) = .func (.func f) #[] #[] := rfl
  have e1 : (fn.name == "runtime.NumGoroutine") = false := by simpa using hb.2
  have e2 : fn.body.isNone = false := by
   have := hb.1
   cases hb0 : fn.body with
   | none => rw [hb0] at this; cases this
   | some c => rfl
  simp only [execOp, resolve, hga, hargs, Deferred.ofValue, Sem.run_bind, Sem.run_pure, Result.andThen_ok, invoke, callFunc, run_program, hf, e1, e2]
  simp
 rw [hrun]
 simp only [Oper.uponIn]
 refine ⟨fun hd => by simp [FR, Fence.wide] at hd, ?_⟩
 have hin : CallsIn (FR none) 0 P f args w _ := callsIn_wide.2 hc
 refine hin.mono fun e w' ⟨v, he, h⟩ => ?_
 subst he
 exact h
theorem qv {P : Program} {w : World} {o : Oper} {ρ : Operand → Value} {y : Operand} {v : Value} (ho : o.op = .assign y) (hy : ρ y = v) : (execOp ρ o).run P w = .ok (.value v) w := by
 subst hy
 unfold execOp
 rw [ho]
 rfl
theorem At.pre {P : Program} {x : Cx} {L L1 : da} {O O1 : an} {base : Nat} {ι0 : Lay} {h0 : ai} {w0 w : World} {D : List Deferred} {a : Act} {Q : Exit → Act → World → Prop} (hm : P.follows .mixedOrders = true) (hr0 : bn base ι0 h0 w0) (hat : At x L O base ι0 h0 w0 D a w) {pl : List Oper} {ops : Array Oper} {i0 : Nat} {rest : List Nat}
  (hx : x.ρ = .late) (n : Nat) (hops1 : ops.toList.take n = pl) (hn : pl.length = n) (hsz : List.range ops.size = List.range' 0 n ++ rest) (hreg : fG ops x.m = true) (hpre : ae P x ops mK 0 pl L O (fun s => St x L1 O1 s))
  (h : ∀ a w, At x L1 O1 base ι0 h0 w0 D a w → wpOpsIn (FR none) 0 P ops Q rest a w) : (Code.region i0 ops false).wpIn (FR none) 0 P Q a w := by
 obtain ⟨ι, s, g1, g2, g3, g4, g5, g6⟩ := hat
 refine wpIn_region ?_
 rw [hsz, ← hn]
 refine ae.wp hm hpre hx ⟨ops.toList.drop n, by rw [List.drop_zero, ← hops1, List.take_append_drop]⟩ rest hreg g1 g2 fun s2 ι2 a2 w2 hK r1 r2 r3 r4 r5 r6 => ?_
 exact h a2 w2 ⟨ι2, s2, hK, r1, bw.trans hr0 g2.heap g3 r2 g4.size, bg.trans hr0 g2.heap g3 r2 g4 r3, r4.trans g5, g6.trans r6⟩
def nW (n : Nat) (mx : bf) : Value := if eF mx = [] then .slice none 0 0 else .slice (some ⟨n, 0, none⟩) (eF mx).length (eF mx).length
def jv (h : ai) (mx : bf) : ai := if eF mx = [] then h else h.new (.cells 1 false h.n none 0 ((kU (eF mx)).map I))
theorem tQ {h : ai} {d bm : Nat} {ro1 ro2 off armed : Bool} {room lft : Int} {mx : bf} (h1 : Is h d ⟨0, ro1, oF bm room off armed lft⟩) (h2 : Is h bm ⟨2, ro2, bW mx⟩) (hk : (eF mx).Nodup) (hr : ∀ k ∈ eF mx, 0 ≤ k ∧ k < 64) (hl : (eF mx).length ≤ 16777216) :
  ∀ ρ, iA Tryz.prog ρ 29 #[Ptr d 0] h (nW h.n mx) (jv h mx) := by
 have hm : Tryz.prog.follows .mixedOrders = true := Checked.mixed Tryz.checked
 refine lq Tryz.func29 rfl ?_
 intro base ι w a hs hd
 have hr1 : bn base ι h w := hs.heap
 obtain ⟨g, hg⟩ : ∃ g, g = h.lF fun _ => true := ⟨_, rfl⟩
 have hr0 : bn base ι g w := by rw [hg]; exact hr1.lF _
 have i1 : Is g d ⟨0, true, oF bm room off armed lft⟩ := by rw [hg]; exact h1.lF _
 have i2 : Is g bm ⟨2, true, bW mx⟩ := by rw [hg]; exact h2.lF _
 have hat : At ⟨9, false, h, .late⟩ (mf [Ptr d 0] 0) (dO d bm true true room off armed lft mx) base ι g w [] a w :=
  ⟨ι, cz Tryz.f29 #[Ptr d 0] g, ⟨rfl, gB _ 0 fun j v hj => by simp [cz, Array.getD_eq_getD_getElem?, hj], xE hr0.oa i1 i2 (by intro q; cases q), fun q => by cases q⟩, ⟨hs.size, hs.tmps, hr0, hs.base⟩, bw.refl hr0, eL.zero (dE.refl ι _ w), hd, dC.refl _⟩
 refine At.seq (L1 := [(2, .slice none 0 0), (0, Ptr d 0)]) (O1 := dO d bm true true room off armed lft mx) hm hr0 hat rfl (show codeOk 9 _ = true by decide +kernel) ?_ (fun a1 w1 hat1 => ?_)
 refine WX.region rfl (za rfl (ae.oG ?_))
 exact fun s hs => ⟨rfl, hs.tl [0, 1] 2⟩
 refine wpIn_seq (At.pre (L1 := [(6, Mp bm)]) (O1 := dO d bm true true room off armed lft mx) (rest := [4, 5, 6]) hm hr0 hat1 rfl 4 rfl rfl rfl (show fG _ 9 = true by decide +kernel) ?_ (fun a2 w2 hat2 => ?_))
 · skip
   refine zm rfl (zn rfl ?_)
   first | refine ae.fieldAddr Met.none rfl Tryz.underlying62 rfl ja rfl ?_ | refine ae.bQ Met.none rfl Tryz.underlying62 rfl ja ?_
   first | refine ae.ld Met.none rfl fF ?_ | refine ae.ba Met.none rfl fF ?_
   refine ae.oG ?_
   exact (fun s hs => hs.tl [0, 1] 2)
 obtain ⟨ι2, s2, q1, q2, q3, q4, q5, q6⟩ := hat2
 have hold : ∀ b, b < h.n → s2.h.o b = g.o b := fun b hb => q6.2 b (by rw [hg]; exact hb) (by rw [hg]; show p6 (lv (h.o b)) = true; cases h.o b <;> rfl)
 have hblk : ∀ B, B < w.heap.size → w2.heap[B]? = w.heap[B]? := fun B hB => q4.block B hB fun b e r1 r2 => .inl (hold b (hr1.lt b e r1))
 obtain ⟨f2, k2, o2⟩ := q1.sat.at (j := 1) (b := bm) (x := ⟨2, true, bW mx⟩) rfl
 have hrel := dy (x := .tmp 6) q2.tmps rfl
 rw [q1.t.ev (y := .tmp 6) rfl] at hrel
 obtain ⟨em, r1, r2, r3⟩ := kF hrel
 obtain ⟨hone, es, clock, hes, c, hc0, hp, hp2, hp3⟩ := q2.heap.maps bm em _ _ _ _ _ _ r1 r2 o2
 unfold bW at hc0
 injection hc0 with e1 e2
 subst e2
 have hkeys : es.toList.map (·.key) = (eF mx).map I := by rw [ux hp]; unfold eF; rw [List.map_map]; rfl
 have hs2 : a2.tmps.size = 9 := q2.size.trans q1.m
 refine qS rfl Tryz.func49 (by decide +kernel) (args := #[.map (some em.block)]) (by simp [r3]) ((r9 em.block w2).mono ?_)
 rintro e w3 ⟨rfl, rfl⟩
 refine ⟨_, rfl, ?_⟩
 refine qS rfl Tryz.func48 (by decide +kernel) (args := #[.func (.func 68) #[] #[.pointer (some ⟨w2.heap.size, 0, none⟩)]]) ?_ ((qb hes hkeys hk hr hl hp2 hp3).mono ?_)
 · have e7 : ∀ v, (a2.put (some 7) v).eval (.tmp 7) = v := fun v => by
     show (a2.put (some 7) v).tmps.getD 7 undef = v
     rw [fP hs2 (by intro d hd; cases hd; decide), if_pos rfl]
   simp [e7]
 rintro e w4 ⟨v, rfl, hrow, hnil, hbl⟩
 refine ⟨v, rfl, ?_⟩
 obtain ⟨F7, hF7⟩ : ∃ F7 : Value, F7 = .func (.func 68) #[] #[.pointer (some ⟨w2.heap.size, 0, none⟩)] := ⟨_, rfl⟩
 rw [← hF7]
 have hs3 : (a2.put (some 7) F7).tmps.size = 9 := by simp [Act.put, hs2]
 have hs4 : ((a2.put (some 7) F7).put (some 8) v).tmps.size = 9 := by simp [Act.put, hs2]
 have e8 : ((a2.put (some 7) F7).put (some 8) v).eval (.tmp 8) = v := by
  show ((a2.put (some 7) F7).put (some 8) v).tmps.getD 8 undef = v
  rw [fP hs3 (by intro d hd; cases hd; decide), if_pos rfl]
 refine eR rfl rfl (fun c h => by cases h) (w1 := w4) (v := v) (qv (y := .tmp 8) rfl e8) ?_
 refine wpIn_ret ⟨.inr rfl, ?_⟩
 have e2 : (((a2.put (some 7) F7).put (some 8) v).put (some 2) v).tmps.getD 2 undef = v := by
  rw [fP hs4 (by intro d hd; cases hd; decide), if_pos rfl]
 have hres : (results Tryz.f29 (((a2.put (some 7) F7).put (some 8) v).put (some 2) v).tmps).run Tryz.prog w4 = .ok v w4 := by
  obtain ⟨tm, htm⟩ : ∃ tm, tm = (((a2.put (some 7) F7).put (some 8) v).put (some 2) v).tmps := ⟨_, rfl⟩
  rw [← htm] at e2 ⊢
  have : results Tryz.f29 tm = pure (tm.getD 2 undef) := by
   simp [results, Tryz.f29]
  rw [this, e2]
  rfl
 have hsz2 : (w2.alloc (.cells #[.map (some em.block)] 60)).heap.size = w2.heap.size + 1 := by simp
 have hsz : w.heap.size ≤ w4.heap.size := by
  have h3 := hbl.size
  have h4 := q4.size
  omega
 have hb4 : ∀ B, B < w.heap.size → w4.heap[B]? = w.heap[B]? := fun B hB => by
  have h4 := q4.size
  rw [hbl.block B (by omega), Below.heap_alloc _ _ B (by omega), hblk B hB]
 have ho4 : w4.os = w.os ∧ w4.tape = w.tape ∧ w4.output = w.output := ⟨by rw [hbl.os]; exact q4.os, by rw [hbl.tape]; exact q4.tape, by rw [hbl.output]; exact q4.output⟩
 have hr4 : bn base ι h w4 := hr1.pre hsz hb4
 refine ⟨q5, ?_⟩
 by_cases hk0 : eF mx = []
 · have hv := hnil.2 hk0
   subst hv
   unfold nW jv
   rw [if_pos hk0, if_pos hk0]
   exact ⟨ι, _, hres, bw.refl hr1, .atom rfl, hr4, bg.grow ho4.1 ho4.2.1 ho4.2.2 hsz hb4⟩
 · unfold nW jv
   rw [if_neg hk0, if_neg hk0]
   rcases hrow.2 with ⟨h0, _⟩ | ⟨g', cap, cur, hv, hgb, hg', hn1, hcap, hcs, htake⟩
   · exact absurd (hnil.1 h0) hk0
   have h4 := q4.size
   have hg4 : g' < w4.heap.size := (Array.getElem?_eq_some_iff.1 hg').1
   have hcell : ∀ i, w4.cell? ⟨g', i, none⟩ = cur[i]? := fun i => by unfold World.cell?; simp only [hg']; rfl
   have hfro : ∀ i, w4.frozen? ⟨g', i, none⟩ = false := fun i => by unfold World.frozen?; simp only [hg']; simp
   have hsl : (kU (eF mx)).length = (eF mx).length := List.length_mergeSort _
   rw [Nat.mul_one] at hcs htake
   have hT : eJ w w4 fun _ _ => False := ⟨ho4.1, ho4.2.1, ho4.2.2, hsz, fun B hB _ => hb4 B hB, fun B o u hc _ => by rw [(fQ (hb4 B (fp hc))).1]; exact hc, fun B o u hc => ⟨⟨u, by rw [(fQ (hb4 B (fp hc))).1]; exact hc⟩, (fQ (hb4 B (fp hc))).2⟩⟩
   obtain ⟨n1, n2, n3⟩ := pJ hr1 hs.base hT (en := ⟨g', 0, cap, 1, false⟩) (sz := 1) (cn := (kU (eF mx)).map I) ⟨by show w.heap.size ≤ g'; omega, hg4⟩ rfl (fun _ => by rw [List.length_map, hsl]; exact hn1) (fun _ x hx => by
     obtain ⟨k, _, rfl⟩ := List.mem_map.1 hx; rfl) (fun _ i v hi => ⟨v, by
      rw [← htake] at hi
      have hi2 : i < (eF mx).length := by
       have h5 := (List.getElem?_eq_some_iff.1 hi).1
       rw [List.length_take] at h5
       omega
      rw [List.getElem?_take_of_lt hi2, Array.getElem?_toList] at hi
      show w4.cell? ⟨g', 0 + i, none⟩ = _
      rw [hcell, Nat.zero_add]
      exact hi, by
      obtain ⟨k, _, rfl⟩ := List.mem_map.1 (List.mem_of_getElem? hi)
      exact .atom rfl⟩) (fun i hi => ⟨by
      show ∃ v, w4.cell? ⟨g', 0 + i, none⟩ = _
      rw [hcell, Nat.zero_add]
      exact ⟨_, Array.getElem?_eq_getElem (by rw [hcs]; exact hi)⟩, hfro _⟩)
   refine ⟨_, v, hres, n3, ?_, n1, bg.grow ho4.1 ho4.2.1 ho4.2.2 hsz hb4⟩
   rw [hv]
   exact .slice (e := ⟨g', 0, cap, 1, false⟩) (by unfold Lay.add; rw [if_pos rfl]) rfl hn1 (by show 0 + cap * 1 ≤ cap; omega)
theorem pW {h : ai} {d bm : Nat} {ro1 ro2 off armed : Bool} {room lft : Int} {mx : bf} (h1 : Is h d ⟨0, ro1, oF bm room off armed lft⟩) (h2 : Is h bm ⟨2, ro2, bW mx⟩) (hk : (eF mx).Nodup) (hr : ∀ k ∈ eF mx, 0 ≤ k ∧ k < 64) (hl : (eF mx).length ≤ 16777216) :
  lx Tryz.prog 29 #[Ptr d 0] h (nW h.n mx) (jv h mx) :=
 ⟨by
  unfold jv
  split
  · exact .inl rfl
  · exact .inr (.inl ⟨_, _, rfl⟩), fun F ρ => by
  obtain ⟨f1, k1, e1⟩ := h1
  obtain ⟨f2, k2, e2⟩ := h2
  obtain ⟨r1, q1⟩ := eP (F := F) e1
  obtain ⟨r2, q2⟩ := eP (F := F) e2
  have := tQ (ro1 := r1) (ro2 := r2) (off := off) (armed := armed) (room := room) (lft := lft) (bm := bm) (mx := mx) ⟨f1, k1, q1⟩ ⟨f2, k2, q2⟩ hk hr hl ρ
  have e3 : (jv h mx).un F = jv (h.un F) mx := by
   unfold jv
   split
   · rfl
   · rw [jF]; rfl
  rw [e3]
  exact this⟩
def cN (D : Dk) : List Int := kU (D.fs.map (·.1))
theorem lE : ∀ {fs : List (Int × Fi)}, (∀ e ∈ fs, yB e) → (fs.length : Int) ≤ used fs
 | [], _ => Int.le_refl _
 | e :: l, h => by
  have h1 := lE fun e' he => h e' (List.mem_cons_of_mem _ he)
  have h2 := (h e (List.mem_cons_self ..)).2.1
  have h3 : 0 < e.2.bs.length := List.length_pos_iff.2 h2
  simp only [used, List.length_cons]
  omega
theorem dX.eF {R : an} {D : Dk} {mx : bf} (h : dX R D mx) : Eng.eF mx = D.fs.map (·.1) := by
 unfold Eng.eF
 rw [lH, h.di.rel.keys]
theorem gZ (l : List Int) : (kU l).Perm l := List.mergeSort_perm _ _
theorem sU {R : an} {D : Dk} {mx : bf} (h : dX R D mx) : (cN D).Nodup := (gZ _).nodup_iff.2 h.di.nd
theorem lI {D : Dk} {n : Int} : n ∈ cN D ↔ n ∈ D.fs.map (·.1) := (gZ _).mem_iff
theorem qO {R : an} {D : Dk} {mx : bf} (h : dX R D mx) : (cN D).length ≤ 16777216 := by
 have h1 := lE h.ok
 have h2 := h.used
 have h3 := h.room
 have h4 : (cN D).length = D.fs.length := by
  unfold cN
  rw [(gZ _).length_eq, List.length_map]
 omega
theorem sc {R : an} {D : Dk} {mx : bf} (h : dX R D mx) {n : Int} (hn : n ∈ cN D) : 0 ≤ n ∧ n < 64 := by
 obtain ⟨e, he, rfl⟩ := List.mem_map.1 (lI.1 hn)
 exact (h.ok e he).1
theorem vI (q : Bool) (R : an) {R0 : an} (d bm : Nat) (D : Dk) (mx : bf) (hD : dX R0 D mx) :
  Spec Tryz.prog q 29 #[Ptr d 0] (bu d bm D mx R) fun v O' => ∃ a c G, v = .slice a (cN D).length c ∧ Grow 1 a (cN D).length c ((cN D).map I) G ∧ O' = G ++ bu d bm D mx R :=
 Spec.direct fun g hs => by
  have hk := hD.eF
  have hd := pW (ro1 := false) (ro2 := false) (bm := bm) (mx := mx) (hs.at (j := 0) (b := d) rfl) (hs.at (j := 1) rfl) (by rw [hk]; exact hD.di.nd) (by
   rw [hk]
   intro k hk
   obtain ⟨e, he, rfl⟩ := List.mem_map.1 hk
   exact (hD.ok e he).1) (by
   have := qO hD
   unfold cN at this
   rw [(gZ _).length_eq] at this
   rw [hk]
   exact this)
  have hf : cN D = kU (Eng.eF mx) := by unfold cN; rw [hk]
  have hl : (cN D).length = (Eng.eF mx).length := by rw [hf]; exact List.length_mergeSort _
  unfold nW jv at hd
  by_cases h0 : Eng.eF mx = []
  · rw [if_pos h0, if_pos h0] at hd
    refine ⟨_, g, _, hd, ⟨none, 0, [], ?_, ?_, rfl⟩, hs, fun _ => Old.refl g⟩
    · rw [hl, h0]; rfl
    · rw [hl, hf, h0, show kU [] = [] from by simp [kU]]; exact .nil
  · rw [if_neg h0, if_neg h0] at hd
    refine ⟨_, _, _, hd, ⟨_, _, [(g.n, ⟨1, false, (cN D).map I⟩)], by rw [hl], .row (by simp), rfl⟩, ?_, fun _ => ⟨Nat.le_succ _, fun b hb => ?_⟩⟩
    · rw [← hf]
      exact hs.new 1 _
    · show (if b = g.n then _ else g.o b) = _
      rw [if_neg (by omega)]
def lf (aq : List Int) (i : Nat) (f : Fi) : Int := if i < aq.length then max 0 (min (nth aq i) (f.bs.length - f.d)) else 0
def jJ (aq : List Int) (i : Nat) (f : Fi) : Fi := ⟨f.bs.take (f.d + lf aq i f).toNat, f.d⟩
def cutAt (D : Dk) (aq : List Int) (i : Nat) : Int × Fi := (nth (cN D) i, jJ aq i (aI D.fs (nth (cN D) i)))
def iJ (D : Dk) (aq : List Int) (i : Nat) : List (Int × Fi) := (List.range i).map (cutAt D aq)
def bp (f : Fi) : Nat := f.bs.length - f.d.toNat
def av : List (Int × Fi) → Nat
 | [] => 0
 | e :: l => bp e.2 + av l
def gO (a : Int) (k : Nat) : Int := IntKind.wrap .u8 ((BitVec.ofInt 8 a) ^^^ (BitVec.ofInt 8 (IntKind.wrap .u8 (1 * 2 ^ (min k 8))))).toNat
def fU (p k : Nat) : List (Int × Fi) → List (Int × Fi)
 | [] => []
 | e :: l => if p < bp e.2 then (e.1, ⟨e.2.bs.set (e.2.d.toNat + p) (gO (nth e.2.bs (e.2.d.toNat + p)) k), e.2.d⟩) :: l else e :: fU (p - bp e.2) k l
def dF (D : Dk) (aq : List Int) (flip : Int) : List (Int × Fi) :=
 let l := iJ D aq (cN D).length
 let m := 8 * av l
 if 0 ≤ flip ∧ 0 < m then fU (flip.toNat % m / 8) (7 - flip.toNat % m % 8) l else l
theorem iV (D : Dk) (aq : List Int) (i : Nat) : iJ D aq (i + 1) = iJ D aq i ++ [cutAt D aq i] := by
 unfold iJ
 rw [List.range_succ, List.map_append]
 rfl
theorem dM : ∀ (a b : List (Int × Fi)), av (a ++ b) = av a + av b
 | [], b => by simp [av]
 | e :: a, b => by
  rw [List.cons_append]
  simp only [av]
  rw [dM a b]
  omega
theorem jU (aq : List Int) (i : Nat) {f : Fi} (h : 0 ≤ f.d ∧ f.d ≤ f.bs.length) : 0 ≤ lf aq i f ∧ f.d + lf aq i f ≤ f.bs.length := by
 unfold lf
 split <;> omega
theorem rz (aq : List Int) (i : Nat) {f : Fi} (h : 0 ≤ f.d ∧ f.d ≤ f.bs.length) : ((jJ aq i f).bs.length : Int) = f.d + lf aq i f := by
 have := jU aq i h
 unfold jJ
 simp only [List.length_take]
 omega
structure bM where
 n : Int
 f : Fi
 a : Option Addr
 c : Nat
 G : an
def bM.nf (o : bM) : Int × Fi := (o.n, o.f)
def aH (ow : List bM) : an := ow.flatMap (·.G)
def dP (a : Option Addr) (dn k : Nat) : List Value := (List.range' dn k).map (ji a)
def cG (ow : List bM) : List Value := ow.flatMap fun o => dP o.a o.f.d.toNat (bp o.f)
theorem eb (a b : List bM) : aH (a ++ b) = aH a ++ aH b := List.flatMap_append ..
theorem nK (a b : List bM) : cG (a ++ b) = cG a ++ cG b := List.flatMap_append ..
theorem eU (o : bM) (b : List bM) : aH (o :: b) = o.G ++ aH b := rfl
theorem j6 (o : bM) (b : List bM) : cG (o :: b) = dP o.a o.f.d.toNat (bp o.f) ++ cG b := rfl
theorem fD (a : Option Addr) (dn k : Nat) : (dP a dn k).length = k := by unfold dP; rw [List.length_map, List.length_range']
theorem mc (a : Option Addr) (dn k : Nat) : dP a dn (k + 1) = dP a dn k ++ [ji a (dn + k)] := by
 unfold dP
 rw [List.range'_1_concat, List.map_append]
 rfl
theorem qD (a : Option Addr) (dn k r : Nat) (h : r < k) : (dP a dn k)[r]? = some (ji a (dn + r)) := by
 unfold dP
 rw [List.getElem?_map, List.getElem?_range' h]
 simp
theorem jr : ∀ ow : List bM, (cG ow).length = av (ow.map bM.nf)
 | [] => rfl
 | o :: ow => by
  rw [j6, List.length_append, fD, jr ow, List.map_cons]
  rfl
theorem oE (k : Nat) : ∀ (ow : List bM) (p : Nat), p < av (ow.map bM.nf) → ∃ ow1 o ow2 r, ow = ow1 ++ o :: ow2 ∧ r < bp o.f ∧ (cG ow)[p]? = some (ji o.a (o.f.d.toNat + r)) ∧
      fU p k (ow.map bM.nf) = ow1.map bM.nf ++ (o.n, ⟨o.f.bs.set (o.f.d.toNat + r) (gO (nth o.f.bs (o.f.d.toNat + r)) k), o.f.d⟩) :: ow2.map bM.nf
 | [], p, h => absurd h (Nat.not_lt_zero _)
 | o :: ow, p, h => by
  rw [List.map_cons] at h ⊢
  by_cases hp : p < bp o.f
  · refine ⟨[], o, ow, p, rfl, hp, ?_, ?_⟩
    · rw [j6, List.getElem?_append_left (by rw [fD]; exact hp)]
      exact qD _ _ _ _ hp
    · unfold fU
      rw [if_pos (show p < bp (bM.nf o).2 from hp)]
      rfl
  · have h2 : p - bp o.f < av (ow.map bM.nf) := by
      have : av (bM.nf o :: ow.map bM.nf) = bp o.f + av (ow.map bM.nf) := rfl
      omega
    obtain ⟨ow1, o', ow2, r, h3, h4, h5, h6⟩ := oE k ow (p - bp o.f) h2
    refine ⟨o :: ow1, o', ow2, r, by rw [h3]; rfl, h4, ?_, ?_⟩
    · rw [j6, List.getElem?_append_right (by rw [fD]; omega), fD]
      exact h5
    · unfold fU
      rw [if_neg (show ¬ p < bp (bM.nf o).2 from hp)]
      show bM.nf o :: fU (p - bp o.f) k _ = _
      rw [h6]
      rfl
theorem kf {α : Type} (k : Int) : ∀ (a b : List (Int × α)), bH k (a ++ b) = (bH k a).or (bH k b)
 | [], b => by simp [bH]
 | (n, v) :: a, b => by
  rw [List.cons_append]
  simp only [bH]
  split
  · simp
  · exact kf k a b
theorem eZ {α : Type} {k : Int} : ∀ {m : List (Int × α)}, k ∉ m.map (·.1) → bH k m = none
 | [], _ => rfl
 | (n, v) :: m, h => by
  simp only [List.map_cons, List.mem_cons, not_or] at h
  simp only [bH]
  rw [if_neg h.1, eZ h.2]
theorem kN {α : Type} {k : Int} {v : α} : ∀ {m : List (Int × α)}, (m.map (·.1)).Nodup → (k, v) ∈ m → bH k m = some v
 | [], _, h => by simp at h
 | (n, u) :: m, hn, h => by
  simp only [List.map_cons, List.nodup_cons] at hn
  simp only [bH]
  rcases List.mem_cons.1 h with h | h
  · injection h with h1 h2; subst h1 h2; rw [if_pos rfl]
  · rw [if_neg (fun q => hn.1 (by rw [← q]; exact List.mem_map.2 ⟨_, h, rfl⟩))]
    exact kN hn.2 h
theorem ib {α : Type} {k j : Int} {u : α} : ∀ {m : List (Int × α)}, bH j (eT k u m) = if j = k then some u else bH j m
 | [] => by simp only [eT, bH]
 | (n, v) :: m => by
  simp only [eT]
  by_cases q : k = n
  · rw [if_pos q]
    subst q
    simp only [bH]
    split <;> rfl
  · rw [if_neg q]
    simp only [bH]
    rw [ib]
    by_cases h1 : j = n
    · rw [if_pos h1, if_neg (fun e => q (e.symm.trans h1)), if_pos h1]
    · rw [if_neg h1, if_neg h1]
theorem nU {α : Type} {k j : Int} : ∀ {m : List (Int × α)}, (m.map (·.1)).Nodup → bH j (jO k m) = if j = k then none else bH j m
 | [], _ => by simp [jO, bH]
 | (n, v) :: m, hn => by
  simp only [List.map_cons, List.nodup_cons] at hn
  simp only [jO]
  by_cases q : k = n
  · rw [if_pos q]
    subst q
    by_cases h1 : j = k
    · rw [if_pos h1]; subst h1; exact eZ hn.1
    · rw [if_neg h1]; simp only [bH]; rw [if_neg h1]
  · rw [if_neg q]
    simp only [bH]
    rw [nU hn.2]
    by_cases h1 : j = n
    · rw [if_pos h1, if_neg (fun e => q (e.symm.trans h1)), if_pos h1]
    · rw [if_neg h1, if_neg h1]
theorem lM {fs : List (Int × Fi)} {k j : Int} {f : Fi} (hn : (fs.map (·.1)).Nodup) : aI (gU fs k f) j = if j = k then (if f.bs = [] then ⟨[], 0⟩ else f) else aI fs j := by
 unfold gU aI
 by_cases hb : f.bs = []
 · rw [if_pos hb, nU (jD hn), ib]
   by_cases h : j = k
   · rw [if_pos h, if_pos h, if_pos hb]; rfl
   · rw [if_neg h, if_neg h, if_neg h]
 · rw [if_neg hb, ib]
   by_cases h : j = k
   · rw [if_pos h, if_pos h, if_neg hb]; rfl
   · rw [if_neg h, if_neg h]
theorem rq {mx : bf} {k j : Int} {v : Value} {n : Nat} (hn : (mx.kv.map (·.1)).Nodup) : bH j (iv mx k v n).kv = if j = k then (if n = 0 then none else some v) else bH j mx.kv := by
 unfold iv
 by_cases h0 : n = 0
 · rw [if_pos h0, bf.ve, bf.pE, nU (jD hn), ib]
   by_cases h : j = k
   · rw [if_pos h, if_pos h, if_pos h0]
   · rw [if_neg h, if_neg h, if_neg h]
 · rw [if_neg h0, bf.pE, ib]
   by_cases h : j = k
   · rw [if_pos h, if_pos h, if_neg h0]
   · rw [if_neg h, if_neg h]
theorem mem_set {fs : List (Int × Fi)} {k : Int} {f : Fi} {e : Int × Fi} (h : e ∈ gU fs k f) : e.1 = k ∨ e ∈ fs := by
 unfold gU at h
 have : e ∈ eT k f fs := by
  split at h
  · exact oe.subset h
  · exact h
 rcases jV this with q | q
 · exact .inl (by rw [q])
 · exact .inr q
structure yt where
 i : Nat
 ow : List bM
 D : Dk
 mx : bf
 a : Option Addr
 c : Nat
 G : an
structure yO (D0 : Dk) (aq : List Int) (R0 : an) (q : yt) : Prop where
 i : q.i ≤ (cN D0).length
 ow : q.ow.map bM.nf = iJ D0 aq q.i
 row : ∀ o ∈ q.ow, Grow 1 o.a o.f.bs.length o.c (o.f.bs.map B8) o.G ∧ Bytes o.f.bs
 val : ∀ o ∈ q.ow, o.f.bs ≠ [] → bH o.n q.mx.kv = some (cJ o.a o.f.bs.length o.c o.f.d)
 get : ∀ m, aI q.D.fs m = (bH m (iJ D0 aq q.i)).getD (aI D0.fs m)
 keys : ∀ e ∈ q.D.fs, e.1 ∈ cN D0
 dk : dX (aH q.ow ++ R0) q.D q.mx
 same : q.D.room = D0.room ∧ q.D.off = D0.off ∧ q.D.armed = D0.armed ∧ q.D.left = D0.left
 loose : Grow 1 q.a (cG q.ow).length q.c (cG q.ow) q.G
theorem mP (D0 : Dk) (aq : List Int) (i : Nat) (hi : i ≤ (cN D0).length) : (iJ D0 aq i).map (·.1) = (cN D0).take i := by
 unfold iJ
 rw [List.map_map]
 apply List.ext_getElem
 · rw [List.length_map, List.length_range, List.length_take]; omega
 · intro j h1 h2
   rw [List.length_map, List.length_range] at h1
   simp only [List.getElem_map, List.getElem_range, Function.comp, cutAt, List.getElem_take]
   exact dx (by omega)
theorem n4 {l : List Int} (hn : l.Nodup) {i : Nat} (hi : i < l.length) : nth l i ∉ l.take i := by
 intro h
 rw [List.mem_take_iff_getElem] at h
 obtain ⟨j, hj, he⟩ := h
 rw [dx hi] at he
 have := (List.getElem_inj hn).1 he
 omega
theorem eW.of {R : an} : ∀ {m : List (Int × Value)} {fs : List (Int × Fi)}, m.map (·.1) = fs.map (·.1) → (m.map (·.1)).Nodup → (∀ k v f, bH k m = some v → bH k fs = some f → eA R v f) → eW R m fs
 | [], [], _, _, _ => .nil
 | [], _ :: _, h, _, _ => by simp at h
 | _ :: _, [], h, _, _ => by simp at h
 | (k, v) :: m, (k', f) :: fs, h, hn, ha => by
  simp only [List.map_cons, List.cons.injEq] at h
  obtain ⟨h1, h2⟩ := h
  subst h1
  simp only [List.map_cons, List.nodup_cons] at hn
  refine .cons (ha k v f (by simp [bH]) (by simp [bH])) (eW.of h2 hn.2 fun j u g hu hg => ?_)
  have hj : j ≠ k := fun q => hn.1 (by
   subst q
   exact List.mem_map.2 ⟨_, fK hu, rfl⟩)
  exact ha j u g (by simp only [bH]; rw [if_neg hj]; exact hu) (by simp only [bH]; rw [if_neg hj]; exact hg)
theorem pa {α : Type} {k : Int} {u : α} : ∀ {m : List (Int × α)}, k ∈ m.map (·.1) → (eT k u m).map (·.1) = m.map (·.1)
 | [], h => by simp at h
 | (n, v) :: m, h => by
  simp only [eT]
  by_cases q : k = n
  · rw [if_pos q]; subst q; rfl
  · rw [if_neg q]
    simp only [List.map_cons, List.mem_cons] at h ⊢
    rw [pa (h.resolve_left q)]
theorem iD {o : bM} (Q : Nat × gl → Bool) : ∀ {ow : List bM}, o ∈ ow → o.G.countP Q ≤ (aH ow).countP Q
 | x :: ow, h => by
  rw [eU, List.countP_append]
  rcases List.mem_cons.1 h with rfl | h
  · omega
  · have := iD Q h
    omega
theorem mem_some {α : Type} {k : Int} : ∀ {m : List (Int × α)}, k ∈ m.map (·.1) → ∃ v, bH k m = some v
 | [], h => by simp at h
 | (n, v) :: m, h => by
  simp only [bH]
  by_cases q : k = n
  · rw [if_pos q]; exact ⟨v, rfl⟩
  · rw [if_neg q]
    simp only [List.map_cons, List.mem_cons] at h
    exact mem_some (h.resolve_left q)
theorem kO (fs : List (Int × Fi)) (k : Int) : aI (dg fs) k = (aI fs k).cX := by
 unfold aI dg
 induction fs with
 | nil => rfl
 | cons e l ih =>
  obtain ⟨n, f⟩ := e
  simp only [List.map_cons, bH]
  by_cases q : k = n
  · rw [if_pos q, if_pos q]; rfl
  · rw [if_neg q, if_neg q]; exact ih
theorem pq {D0 : Dk} {aq : List Int} {R0 : an} {q : yt} (h : yO D0 aq R0 q) (hq : q.i = (cN D0).length) (m : Int) : aI q.D.fs m = (bH m (iJ D0 aq (cN D0).length)).getD ⟨[], 0⟩ := by
 rw [h.get m, hq]
 by_cases hm : m ∈ cN D0
 · obtain ⟨v, hv⟩ := mem_some (m := iJ D0 aq (cN D0).length) (k := m) (by rw [mP D0 aq _ (Nat.le_refl _), List.take_length]; exact hm)
   rw [hv]; rfl
 · have : aI D0.fs m = ⟨[], 0⟩ := by
     unfold aI
     rw [eZ (fun e => hm (lI.2 e))]
     rfl
   rw [this]
theorem ll {D0 : Dk} {aq : List Int} {R0 : an} {q : yt} (h : yO D0 aq R0 q) (hq : q.i = (cN D0).length) (hnd : (cN D0).Nodup) {ow1 ow2 : List bM} {o : bM} {b : Nat} {f2 : Fi} (how : q.ow = ow1 ++ o :: ow2) (ha : o.a = some ⟨b, 0, none⟩) (hne : o.f.bs ≠ [])
  (hl : f2.bs.length = o.f.bs.length) (hd : f2.d = o.f.d) (hB : Bytes f2.bs) :
  dX ((aH ow1 ++ ((b, ⟨1, false, f2.bs.map B8⟩) :: aH ow2)) ++ R0) { q.D with fs := eT o.n f2 q.D.fs } q.mx ∧
   (∀ m, aI (eT o.n f2 q.D.fs) m = if m = o.n then f2 else aI q.D.fs m) ∧ ∀ m, (bH m (ow1.map bM.nf ++ (o.n, f2) :: ow2.map bM.nf)).getD ⟨[], 0⟩ = if m = o.n then f2 else aI q.D.fs m := by
 have hck := mP D0 aq q.i (Nat.le_of_eq hq)
 have hkeys : q.ow.map (·.n) = cN D0 := by
  have e1 : q.ow.map (·.n) = (q.ow.map bM.nf).map (·.1) := by rw [List.map_map]; rfl
  rw [e1, h.ow, hck, hq, List.take_length]
 have hond : (q.ow.map (·.n)).Nodup := by rw [hkeys]; exact hnd
 have hcnd : ((iJ D0 aq q.i).map (·.1)).Nodup := by rw [hck, hq, List.take_length]; exact hnd
 have hom : o ∈ q.ow := by rw [how]; simp
 have hown : ∀ o2 ∈ q.ow, aI q.D.fs o2.n = o2.f := fun o2 h2 => by
  rw [h.get, kN hcnd (by rw [← h.ow]; exact List.mem_map.2 ⟨o2, h2, rfl⟩)]
  rfl
 have hget : ∀ m, aI (eT o.n f2 q.D.fs) m = if m = o.n then f2 else aI q.D.fs m := fun m => by
  unfold aI
  rw [ib]
  split <;> rfl
 have hin : o.n ∈ q.D.fs.map (·.1) := by
  rw [← h.dk.di.rel.keys]
  exact List.mem_map.2 ⟨_, fK (h.val o hom hne), rfl⟩
 have hnk : (q.mx.kv.map (·.1)).Nodup := by rw [← lH]; exact h.dk.keys
 have hf0 : f2.bs ≠ [] := fun e => hne (List.length_eq_zero_iff.1 (by rw [← hl, e]; rfl))
 refine ⟨⟨⟨eW.of (by rw [pa hin]; exact h.dk.di.rel.keys) hnk fun k v f hv hf => ?_, jD h.dk.di.nd⟩, fun e he => ?_, h.dk.room, h.dk.left, ?_⟩, hget, fun m => ?_⟩
 · rw [ib] at hf
   by_cases hk : k = o.n
   · subst hk
     rw [if_pos rfl] at hf
     injection hf with hf
     subst hf
     rw [h.val o hom hne] at hv
     injection hv with hv
     subst hv
     refine ⟨o.a, o.c, by rw [hl, hd], ?_, (fun q => by rw [ha] at q; cases q), hB⟩
     rw [ha]
     exact .inr ⟨b, 0, ⟨1, false, f2.bs.map B8⟩, rfl, fun g hg => hg.mem (by simp), rfl, by show 0 + f2.bs.length * 1 ≤ (f2.bs.map B8).length; rw [List.length_map]; omega, by rw [List.drop_zero, Nat.mul_one]; exact List.take_of_length_le (by rw [List.length_map]; omega)⟩
   · rw [if_neg hk] at hf
     have hkin : k ∈ cN D0 := h.keys _ (fK hf)
     rw [← hkeys] at hkin
     obtain ⟨o2, h2, rfl⟩ := List.mem_map.1 hkin
     have hgf := hown o2 h2
     have hff : aI q.D.fs o2.n = f := by unfold aI; rw [hf]; rfl
     rw [hgf] at hff
     subst hff
     have hne2 : o2.f.bs ≠ [] := (h.dk.ok _ (fK hf)).2.1
     rw [h.val o2 h2 hne2] at hv
     injection hv with hv
     subst hv
     obtain ⟨hg2, hB2⟩ := h.row o2 h2
     refine ⟨o2.a, o2.c, rfl, ?_, fun q => (hg2.eh q).1, hB2⟩
     have hr := hg2.oK (R := ([] : an))
     rw [List.append_nil] at hr
     refine hr.inc fun g hg => hg.sub fun Q => ?_
     rw [how] at h2
     have : o2 ∈ ow1 ∨ o2 ∈ ow2 := by
      rcases List.mem_append.1 h2 with h2 | h2
      · exact .inl h2
      · rcases List.mem_cons.1 h2 with h2 | h2
        · exact absurd (by rw [h2]) hk
        · exact .inr h2
     simp only [List.countP_append, List.countP_cons]
     rcases this with h3 | h3
     · have := iD Q h3; omega
     · have := iD Q h3; omega
 · rcases jV he with q1 | q1
   · rw [q1]
     obtain ⟨v, hv⟩ := mem_some hin
     have h3 := h.dk.ok _ (fK hv)
     have h4 : v = o.f := by
      have := hown o hom
      unfold aI at this
      rw [hv] at this
      exact this
     rw [h4] at h3
     exact ⟨h3.1, hf0, by rw [hd]; exact h3.2.2.1, by rw [hd, hl]; exact h3.2.2.2⟩
   · exact h.dk.ok e q1
 · show used (eT o.n f2 q.D.fs) ≤ q.D.room
   rw [lL, hown o hom, hl]
   have := h.dk.used
   omega
 · rw [kf]
   have hn1 : (ow1.map bM.nf).map (·.1) = ow1.map (·.n) := by rw [List.map_map]; rfl
   have hn2 : (ow2.map bM.nf).map (·.1) = ow2.map (·.n) := by rw [List.map_map]; rfl
   by_cases hm : m = o.n
   · subst hm
     rw [if_pos rfl, eZ (m := ow1.map bM.nf)]
     · simp [bH]
     · rw [hn1]
       rw [how, List.map_append, List.nodup_append] at hond
       exact fun e => hond.2.2 _ e _ (by simp) rfl
   · have e : ∀ v : Fi, bH m ((o.n, v) :: ow2.map bM.nf) = bH m (ow2.map bM.nf) := fun v => by
       simp only [bH]
       rw [if_neg hm]
     rw [if_neg hm, pq h hq m, ← hq, ← h.ow, how, List.map_append, List.map_cons, kf, show bM.nf o = (o.n, o.f) from rfl, e, e]
structure Rd where
 room : Int
 B : List (List Int)
 F : List Int
 off : Bool
 cB : Int
def fj (g : Nat → Int) : Nat → Int
 | 0 => 0
 | n + 1 => fj g n + g n
def bS (M : Rd) (n : Nat) : Int := ((nth M.B n).length : Nat)
def fC (M : Rd) : Int := fj (bS M) 64
def ew (M : Rd) : Rd := { M with cB := max (M.cB - 1) (-2), off := M.off || decide (max (M.cB - 1) (-2) = -1) }
def cg (M : Rd) : Bool × Rd := if M.cB < 0 then (false, M) else ((ew M).off, ew M)
def cT (M : Rd) (n : Int) (b : List Int) : Rd := { M with B := M.B.set n.toNat (nth M.B n.toNat ++ b) }
def aE (M : Rd) (n : Int) (b : List Int) : Int × Rd :=
 if n < 0 ∨ n > 63 then (1, M) else if M.off = true then (23, M) else if fC M + b.length > M.room then (22, M)
 else (if (cg (cT M n b)).1 = true then 23 else 0, (cg (cT M n b)).2)
def l5 (M : Rd) : Rd := { M with F := (List.range 64).map (bS M) }
def bt (M : Rd) : Int × Rd := if M.off = true then (23, M) else if (cg M).1 = true then (23, (cg M).2) else (0, l5 (cg M).2)
def ct (M : Rd) (n size : Int) : Int × Rd :=
 if n < 0 ∨ n > 63 ∨ size < 0 ∨ size > bS M n.toNat then (1, M) else if M.off = true then (23, M) else if (cg M).1 = true then (23, (cg M).2)
 else (0, { (cg M).2 with B := (cg M).2.B.set n.toNat ((nth (cg M).2.B n.toNat).take size.toNat), F := (cg M).2.F.set n.toNat (min (nth (cg M).2.F n.toNat) size) })
def oP (M : Rd) (n : Int) : Rd := if M.off = true then M else { M with cB := max n (-1) }
def ng (D : Dk) (n : Int) : Dk := if D.off = true then D else { D with armed := decide (0 ≤ n), left := n }
structure mz (D : Dk) (M : Rd) : Prop where
 room : M.room = D.room
 off : M.off = D.off
 pl : (D.armed = true ∧ M.cB = D.left ∧ 0 ≤ D.left) ∨ (D.armed = false ∧ M.cB < 0 ∧ -2 ≤ M.cB)
 gL : M.B.length = 64
 eD : M.F.length = 64
 file : ∀ n : Nat, n < 64 → aI D.fs (n : Nat) = ⟨nth M.B n, nth M.F n⟩
theorem gb {g h : Nat → Int} : ∀ {n : Nat}, (∀ i, i < n → g i = h i) → fj g n = fj h n
 | 0, _ => rfl
 | n + 1, hh => by
  unfold fj
  rw [gb fun i hi => hh i (Nat.lt_succ_of_lt hi), hh n (Nat.lt_succ_self n)]
theorem nN (g : Nat → Int) (k : Nat) (a : Int) : ∀ n, fj (fun i => if i = k then a else g i) n = fj g n + (if k < n then a - g k else 0)
 | 0 => rfl
 | n + 1 => by
  unfold fj
  rw [nN g k a n]
  by_cases h1 : n = k
  · subst h1
    rw [if_pos rfl, if_neg (by omega), if_pos (by omega)]
    omega
  · rw [if_neg h1]
    by_cases h2 : k < n
    · rw [if_pos h2, if_pos (by omega)]; omega
    · rw [if_neg h2, if_neg (by omega)]; omega
theorem mu : ∀ {fs : List (Int × Fi)}, (fs.map (·.1)).Nodup → (∀ e ∈ fs, 0 ≤ e.1 ∧ e.1 < 64) → used fs = fj (fun n => ((aI fs (n : Nat)).bs.length : Nat)) 64
 | [], _, _ => by
  show (0 : Int) = fj (fun _ => (0 : Int)) 64
  decide
 | (k, f) :: l, hn, hr => by
  simp only [List.map_cons, List.nodup_cons] at hn
  have ih := mu hn.2 fun e he => hr e (List.mem_cons_of_mem _ he)
  have hk := hr (k, f) (List.mem_cons_self ..)
  have h0 : aI l k = ⟨[], 0⟩ := by unfold aI; rw [eZ hn.1]; rfl
  have e1 : fj (fun n => ((aI ((k, f) :: l) (n : Nat)).bs.length : Nat)) 64 = fj (fun i => if i = k.toNat then (f.bs.length : Int) else ((aI l (i : Nat)).bs.length : Nat)) 64 := gb fun i hi => by
   unfold aI
   simp only [bH]
   by_cases hik : ((i : Nat) : Int) = k
   · rw [if_pos hik, if_pos (by omega)]; rfl
   · rw [if_neg hik, if_neg (by omega)]
  rw [e1, nN, if_pos (by omega), ← ih]
  have e2 : (((aI l ((k.toNat : Nat) : Int)).bs.length : Nat) : Int) = 0 := by
   rw [show ((k.toNat : Nat) : Int) = k by omega, h0]; rfl
  show (f.bs.length : Int) + used l = _
  omega
theorem dX.mu {R : an} {D : Dk} {mx : bf} (h : dX R D mx) : Eng.used D.fs = fj (fun n => ((aI D.fs (n : Nat)).bs.length : Nat)) 64 := Eng.mu h.di.nd fun e he => (h.ok e he).1
theorem mz.used {R : an} {D : Dk} {M : Rd} {mx : bf} (h : mz D M) (hD : dX R D mx) : fC M = Eng.used D.fs := by
 rw [hD.mu]
 exact gb fun i hi => by unfold bS; rw [h.file i hi]
theorem bZ {α : Type} [Inhabited α] {l : List α} {k i : Nat} {x : α} (hk : k < l.length) : nth (l.set k x) i = if i = k then x else nth l i := by
 unfold nth
 simp only [List.getD_eq_getElem?_getD, List.getElem?_set]
 by_cases h : k = i
 · subst h; rw [if_pos rfl, if_pos hk, if_pos rfl]; rfl
 · rw [if_neg h, if_neg (Ne.symm h)]
theorem cO {α : Type} [Inhabited α] (g : Nat → α) {n i : Nat} (h : i < n) : nth ((List.range n).map g) i = g i := by
 rw [dx (by rw [List.length_map, List.length_range]; exact h)]
 simp
theorem ot {D : Dk} {M : Rd} (h : mz D M) (ho : D.off = false) : (cg M).1 = !(bE D).1 ∧ mz (bE D).2 (cg M).2 := by
 unfold bE cg
 rcases h.pl with ⟨ha, hp, hl⟩ | ⟨ha, hp, hp2⟩
 · rw [if_neg (show ¬ D.armed = false by rw [ha]; simp), if_neg (show ¬ M.cB < 0 by omega)]
   by_cases hz : D.left - 1 < 0
   · have hm : max (M.cB - 1) (-2) = -1 := by omega
     rw [if_pos hz]
     refine ⟨by simp [ew, hm], h.room, by simp [ew, hm], .inr ⟨rfl, ?_, ?_⟩, h.gL, h.eD, h.file⟩
     · show max (M.cB - 1) (-2) < 0; omega
     · show -2 ≤ max (M.cB - 1) (-2); omega
   · have hm : max (M.cB - 1) (-2) = D.left - 1 := by omega
     have hne : ¬ max (M.cB - 1) (-2) = -1 := by omega
     rw [if_neg hz]
     refine ⟨by simp [ew, hne, h.off, ho], h.room, by simp [ew, hne, h.off], .inl ⟨ha, hm, by show 0 ≤ D.left - 1; omega⟩, h.gL, h.eD, h.file⟩
 · rw [if_pos ha, if_pos hp]
   exact ⟨rfl, h⟩
theorem rX {R : an} {D : Dk} {M : Rd} {mx : bf} (h : mz D M) (hD : dX R D mx) (n : Int) (b : List Int) : (aE M n b).1 = (bL D n b).1 ∧ mz (bL D n b).2 (aE M n b).2 := by
 have hu := h.used hD
 unfold bL aE
 by_cases h1 : ¬ (0 ≤ n ∧ n < 64)
 · rw [if_pos h1, if_pos (show n < 0 ∨ n > 63 by omega)]; exact ⟨rfl, h⟩
 rw [if_neg h1, if_neg (show ¬ (n < 0 ∨ n > 63) by omega)]
 by_cases h2 : D.off = true
 · rw [if_pos h2, if_pos (show M.off = true by rw [h.off]; exact h2)]; exact ⟨rfl, h⟩
 rw [if_neg h2, if_neg (show ¬ M.off = true by rw [h.off]; exact h2)]
 by_cases h3 : (b.length : Int) > D.room - Eng.used D.fs
 · rw [if_pos h3, if_pos (show fC M + b.length > M.room by rw [hu, h.room]; omega)]; exact ⟨rfl, h⟩
 rw [if_neg h3, if_neg (show ¬ fC M + b.length > M.room by rw [hu, h.room]; omega)]
 obtain ⟨k, rfl⟩ : ∃ k : Nat, n = (k : Int) := ⟨n.toNat, by omega⟩
 have hk : k < 64 := by omega
 have hs : mz (gA D (k : Nat) b) (cT M (k : Nat) b) := ⟨h.room, h.off, h.pl, by unfold cT; simp only [List.length_set]; exact h.gL, h.eD, fun i hi => by
  show aI (gU D.fs (k : Nat) _) (i : Nat) = _
  rw [lM hD.di.nd]
  unfold cT
  simp only [Int.toNat_natCast]
  rw [bZ (by rw [h.gL]; exact hk), h.file k hk]
  have hd := hD.kY ((k : Nat) : Int)
  rw [h.file k hk] at hd
  by_cases hik : i = k
  · subst hik
    rw [if_pos rfl, if_pos rfl]
    split
    · rename_i hb0
      simp only at hb0 hd
      rw [(List.append_eq_nil_iff.1 hb0).1] at hd
      have : nth M.F i = 0 := by simp at hd; omega
      rw [hb0, this]
    · rfl
  · rw [if_neg (by omega), if_neg hik, h.file i hi]⟩
 have hoff : (gA D (k : Nat) b).off = false := by
  show D.off = false
  simpa using h2
 obtain ⟨e1, e2⟩ := ot hs hoff
 refine ⟨?_, e2⟩
 rw [e1]
 cases (bE (gA D (k : Nat) b)).1 <;> rfl
theorem q9 {D : Dk} {M : Rd} (h : mz D M) : (bt M).1 = (bT D).1 ∧ mz (bT D).2 (bt M).2 := by
 unfold bT bt
 by_cases h2 : D.off = true
 · rw [if_pos h2, if_pos (show M.off = true by rw [h.off]; exact h2)]; exact ⟨rfl, h⟩
 rw [if_neg h2, if_neg (show ¬ M.off = true by rw [h.off]; exact h2)]
 obtain ⟨e1, e2⟩ := ot h (by simpa using h2)
 rw [e1]
 cases hs : (bE D).1
 · rw [if_pos (show (!false) = true from rfl), if_pos (show false = false from rfl)]; exact ⟨rfl, e2⟩
 · rw [if_neg (show ¬ (!true) = true by simp), if_neg (show ¬ true = false by simp)]
   refine ⟨rfl, e2.room, e2.off, e2.pl, e2.gL, by unfold l5; simp, fun i hi => ?_⟩
   show aI (dg (bE D).2.fs) (i : Nat) = _
   rw [kO, e2.file i hi]
   unfold l5
   simp only
   rw [cO _ hi]
   rfl
theorem uE {R : an} {D : Dk} {M : Rd} {mx : bf} (h : mz D M) (hD : dX R D mx) (n size : Int) : (ct M n size).1 = (cA D n size).1 ∧ mz (cA D n size).2 (ct M n size).2 := by
 unfold cA ct
 by_cases h0 : ¬ (0 ≤ n ∧ n < 64)
 · rw [if_pos (show n < 0 ∨ n > 63 ∨ size < 0 ∨ size > bS M n.toNat by omega), if_pos (show ¬ (0 ≤ n ∧ n < 64) ∨ size < 0 ∨ size > ((aI D.fs n).bs.length : Int) from .inl h0)]; exact ⟨rfl, h⟩
 obtain ⟨k, rfl⟩ : ∃ k : Nat, n = (k : Int) := ⟨n.toNat, by omega⟩
 have hk : k < 64 := by omega
 have hl : bS M k = ((aI D.fs (k : Nat)).bs.length : Nat) := by unfold bS; rw [h.file k hk]
 simp only [Int.toNat_natCast]
 rw [hl]
 by_cases h1 : size < 0 ∨ size > ((aI D.fs (k : Nat)).bs.length : Int)
 · rw [if_pos (show ((k : Nat) : Int) < 0 ∨ ((k : Nat) : Int) > 63 ∨ size < 0 ∨ size > ((aI D.fs (k : Nat)).bs.length : Int) by omega), if_pos (show ¬ (0 ≤ ((k : Nat) : Int) ∧ ((k : Nat) : Int) < 64) ∨ size < 0 ∨ size > ((aI D.fs (k : Nat)).bs.length : Int) by omega)]; exact ⟨rfl, h⟩
 rw [if_neg (show ¬ (((k : Nat) : Int) < 0 ∨ ((k : Nat) : Int) > 63 ∨ size < 0 ∨ size > ((aI D.fs (k : Nat)).bs.length : Int)) by omega), if_neg (show ¬ (¬ (0 ≤ ((k : Nat) : Int) ∧ ((k : Nat) : Int) < 64) ∨ size < 0 ∨ size > ((aI D.fs (k : Nat)).bs.length : Int)) by omega)]
 by_cases h2 : D.off = true
 · rw [if_pos h2, if_pos (show M.off = true by rw [h.off]; exact h2)]; exact ⟨rfl, h⟩
 rw [if_neg h2, if_neg (show ¬ M.off = true by rw [h.off]; exact h2)]
 obtain ⟨e1, e2⟩ := ot h (by simpa using h2)
 rw [e1]
 cases hs : (bE D).1
 · rw [if_pos (show (!false) = true from rfl), if_pos (show false = false from rfl)]; exact ⟨rfl, e2⟩
 · rw [if_neg (show ¬ (!true) = true by simp), if_neg (show ¬ true = false by simp)]
   obtain ⟨q1, q2⟩ := eV D
   have hk2 := e2.file k hk
   rw [q1] at hk2
   refine ⟨rfl, e2.room, e2.off, e2.pl, by simp only [List.length_set]; exact e2.gL, by simp only [List.length_set]; exact e2.eD, fun i hi => ?_⟩
   show aI (gU D.fs (k : Nat) _) (i : Nat) = _
   rw [lM hD.di.nd]
   simp only
   rw [bZ (by rw [e2.gL]; exact hk), bZ (by rw [e2.eD]; exact hk)]
   have hd := hD.kY ((k : Nat) : Int)
   by_cases hik : i = k
   · subst hik
     rw [if_pos rfl, if_pos rfl, if_pos rfl, hk2]
     rw [hk2] at hd
     simp only at hd ⊢
     split
     · rename_i hb0
       have hlz := congrArg List.length hb0
       rw [List.length_take] at hlz
       rw [hk2] at h1
       simp only [List.length_nil] at hlz h1
       rw [hb0]
       congr 1
       omega
     · rfl
   · rw [if_neg (by omega), if_neg hik, if_neg hik]
     have := e2.file i hi
     rw [q1] at this
     exact this
theorem wy {D : Dk} {M : Rd} (h : mz D M) (n : Int) : mz (ng D n) (oP M n) := by
 unfold ng oP
 by_cases h2 : D.off = true
 · rw [if_pos h2, if_pos (show M.off = true by rw [h.off]; exact h2)]; exact h
 rw [if_neg h2, if_neg (show ¬ M.off = true by rw [h.off]; exact h2)]
 refine ⟨h.room, h.off, ?_, h.gL, h.eD, h.file⟩
 by_cases hn : 0 ≤ n
 · exact .inl ⟨decide_eq_true hn, by show max n (-1) = n; omega, hn⟩
 · exact .inr ⟨decide_eq_false hn, by show max n (-1) < 0; omega, by show -2 ≤ max n (-1); omega⟩
def um (D0 : Dk) (aq : List Int) (flip : Int) (d bm : Nat) (R R0 : an) (O' : an) : Prop :=
 ∃ mx' N D', O' = bu d bm D' mx' (N ++ R) ∧ dX (N ++ R0) D' mx' ∧ D'.room = D0.room ∧ D'.off = false ∧ D'.armed = false ∧ ∀ m, aI D'.fs m = ((bH m (dF D0 aq flip)).getD ⟨[], 0⟩).cX
theorem m7 (D0 : Dk) (aq : List Int) (M : Nat) (h : ∀ n, (aI D0.fs n).bs.length ≤ M) : ∀ i, av (iJ D0 aq i) ≤ i * M
 | 0 => Nat.zero_le _
 | i + 1 => by
  have h1 := m7 D0 aq M h i
  have h2 := h (nth (cN D0) i)
  rw [iV, dM, Nat.succ_mul]
  have h3 : av [cutAt D0 aq i] ≤ M := by
   show bp (jJ aq i (aI D0.fs (nth (cN D0) i))) + 0 ≤ M
   unfold bp jJ
   simp only [List.length_take]
   omega
  omega
theorem iz (a : Int) (k : Nat) : 0 ≤ gO a k ∧ gO a k < 256 := rA _
theorem bK.qf {A N R : an} {sz : Nat} {a : Option Addr} {n : Nat} {cs : List Value} (h : bK (A ++ R) sz a n cs) : bK (A ++ (N ++ R)) sz a n cs :=
 h.inc fun g hg => hg.sub (by intro Q; simp only [List.countP_append]; omega)
theorem eW.qf {A N R : an} {m : List (Int × Value)} {fs : List (Int × Fi)} (h : eW (A ++ R) m fs) : eW (A ++ (N ++ R)) m fs := by
 induction h with
 | nil => exact .nil
 | cons h1 _ ih =>
  obtain ⟨a, c, h2, h3, h4⟩ := h1
  exact .cons ⟨a, c, h2, h3.qf, h4⟩ ih
theorem rD (R : an) {R0 : an} (d bm : Nat) (D0 : Dk) (mx0 : bf) (aq : List Int) (ak : Option Addr) (ck : Nat) (flip : Int) (hD : dX R0 D0 mx0) (hi : ∀ Q : Nat × gl → Bool, R0.countP Q ≤ R.countP Q) (hroom : D0.room ≤ 1000000) (hf64 : dG flip) (hk64 : ∀ n ∈ aq, dG n) (hkl : hJ aq)
  (hk : Src R 1 (.slice ak aq.length ck) aq.length (aq.map I)) :
  Spec Tryz.prog false 11 #[Ptr d 0, .slice ak aq.length ck, I flip] (bu d bm D0 mx0 R) fun v O' => um D0 aq flip d bm R R0 O' := by
 have hnd := sU hD
 have hfl := qO hD
 have hfl2 : (cN D0).length ≤ 1000000 := by
  have h1 := lE hD.ok
  have h2 := hD.used
  have h4 : (cN D0).length = D0.fs.length := by
   unfold cN
   rw [(gZ _).length_eq, List.length_map]
  omega
 refine Spec.enter (args := [_, _, _]) (m := 107) Tryz.func11 rfl rfl (by decide +kernel) fun h0 => ?_
 refine WX.seq (WX.region rfl (za rfl (ae.nil (Fin.aa (WX.seq (WX.seq (WX.region rfl (zm rfl ?_))))))))
 refine ae.cl (O1 := _) Met.none rfl (ah Tryz.func29 (by decide +kernel)) rfl (fun _ h => h) (vI _ R d bm D0 mx0 hD) (fun v O' hp => ?_)
 obtain ⟨a15, c15, G15, rfl, hG15, rfl⟩ := hp
 refine ae.len Met.none rfl Tryz.underlying22 (zm rfl (ae.nil (Fin.aa (WX.block ?_))))
 obtain ⟨B, hB⟩ : ∃ B, B = G15 ++ R := ⟨_, rfl⟩
 have hsF : Src B 1 (.slice a15 (cN D0).length c15) (cN D0).length ((cN D0).map I) := hB ▸ hG15.src
 have hsK : Src B 1 (.slice ak aq.length ck) aq.length (aq.map I) := hB ▸ Src.app hk
 have hiB : ∀ Q : Nat × gl → Bool, R0.countP Q ≤ B.countP Q := fun Q => by
  have := hi Q
  rw [hB, List.countP_append]
  omega
 refine WX.re (O' := bu d bm D0 mx0 ([] ++ ([] ++ B))) ?_ (by rw [hB]; exact aC)
 refine WX.loop (fun q : yt => [(0, Ptr d 0), (1, .slice ak aq.length ck), (2, I flip), (6, .slice q.a (cG q.ow).length q.c), (15, .slice a15 (cN D0).length c15), (16, I ((cN D0).length : Nat)), (17, I (q.i : Nat))]) (fun q => bu d bm q.D q.mx (q.G ++ (aH q.ow ++ B))) (yO D0 aq R0) (fun q => (cN D0).length - q.i) ⟨0, [], D0, mx0, none, 0, []⟩ ⟨Nat.zero_le _, rfl, (fun o ho => by simp at ho), (fun o ho => by simp at ho), (fun m => rfl), (fun e he => lI.2 (List.mem_map.2 ⟨e, he, rfl⟩)), hD, ⟨rfl, rfl, rfl, rfl⟩, .nil⟩ (fun s hs => hs.tl [] 0) (fun q hq => ?_)
 obtain ⟨i, ow, D, mx, a6, c6, G6⟩ := q
 obtain ⟨hin, how, hgr, hval, hget, hkeys, hDi, hsame, hloose⟩ := hq
 simp only at hin how hgr hval hget hkeys hDi hsame hloose
 dsimp only
 have hlsum : (cG ow).length ≤ i * 1000000 := by
  rw [jr, how]
  exact m7 D0 aq 1000000 (fun n => by
   have h1 := mn D0.fs n
   have h2 := hD.used
   omega) i
 refine WX.seq (WX.region rfl (zb rfl rfl rfl (ae.nil (Fin.aa (WX.seq ?_)))))
 refine WX.cond rfl (fun hc0 => ?_) (fun hc0 => ?_)
 · try simp only [aB] at hc0
   refine WX.skip (Fin.aa (WX.seq (WX.block (WX.seq ?_))))
   have hik : i < (cN D0).length := by omega
   obtain ⟨n, hn⟩ : ∃ n, n = nth (cN D0) i := ⟨_, rfl⟩
   have hnin : n ∈ cN D0 := hn ▸ dK hik
   have hn64 := sc hD hnin
   have hnot : n ∉ (iJ D0 aq i).map (·.1) := by rw [mP D0 aq i (by omega), hn]; exact n4 hnd hik
   have hfn : aI D.fs n = aI D0.fs n := by rw [hget n, eZ hnot]; rfl
   obtain ⟨fa, fc, hfv, hrow0, hnil, hfB⟩ := hDi.di.get n
   obtain ⟨f, hf⟩ : ∃ f, f = aI D.fs n := ⟨_, rfl⟩
   have hfd := hDi.kY n
   have hflen := hDi.nk n
   rw [← hf] at hfv hrow0 hfB hfd hflen hfn
   have hrow := hrow0.inc (R := G6 ++ (aH ow ++ B)) (fun g hg => hg.sub (by intro Q; have := hiB Q; simp only [List.countP_append]; omega))
   obtain ⟨kk, hkk⟩ : ∃ kk, kk = lf aq i f := ⟨_, rfl⟩
   have hkr := jU aq i hfd
   obtain ⟨cb, hcb⟩ : ∃ cb, cb = (jJ aq i f).bs := ⟨_, rfl⟩
   have hcl := rz aq i hfd
   rw [← hcb, ← hkk] at hcl
   rw [← hkk] at hkr
   have htk : f.bs.take cb.length = cb := by
    rw [hcb]
    show f.bs.take (f.bs.take _).length = f.bs.take _
    rw [List.length_take, ← List.take_take, List.take_length]
   refine WX.region rfl (zm rfl ?_)
   first | refine ae.ix Met.none rfl rfl bh cj ?_ | refine ae.eH Met.none rfl rfl bh cj ?_
   first | refine ae.ld Met.none rfl bY ?_ (hv := (show ((cN D0).map I)[i]? = some (I n) from by rw [hn]; exact bB _ _ _ hik)) | refine ae.ba Met.none rfl bY ?_ (hv := (show ((cN D0).map I)[i]? = some (I n) from by rw [hn]; exact bB _ _ _ hik))
   refine za rfl (za rfl (zR rfl (zm rfl (zn rfl ?_))))
   first | refine ae.fieldAddr Met.none rfl Tryz.underlying62 rfl ja rfl ?_ | refine ae.bQ Met.none rfl Tryz.underlying62 rfl ja ?_
   first | refine ae.ld Met.none rfl fF ?_ | refine ae.ba Met.none rfl fF ?_
   refine zm rfl ?_
   refine ae.lookup Met.none rfl rfl lA ie at_ (show _ = cJ fa f.bs.length fc f.d from hfv) ?_
   refine ae.alloc (c := [_, _]) Met.none ie rfl (fun b9 => ?_)
   refine ae.st (vs := [_, _]) (c' := [_, _]) (j := 0) Met.none rfl rfl rfl pR ?_ (hj := rfl)
   refine zR rfl (za rfl (ae.nil (Fin.aa (WX.seq (WX.seq (WX.region rfl (zm rfl (zm rfl (ae.len Met.none rfl Tryz.underlying22 (zb rfl rfl rfl (ae.nil (Fin.aa ?_))))))))))))
   refine WX.cond rfl (fun hc1 => ?_) (fun hc1 => ?_)
   · try simp only [aB] at hc1
     have hik2 : i < aq.length := by omega
     refine WX.draw rfl ?_
     refine zm rfl (zm rfl ?_)
     first | refine ae.ix Met.none rfl rfl bh cj ?_ | refine ae.eH Met.none rfl rfl bh cj ?_
     first | refine ae.ld Met.none rfl bY ?_ (hv := (bB _ _ _ (by omega))) | refine ae.ba Met.none rfl bY ?_ (hv := (bB _ _ _ (by omega)))
     refine ae.fieldAddr (off' := 0) Met.none rfl Tryz.underlying66 rfl aO rfl ?_
     first | refine ae.ld Met.none rfl aD ?_ | refine ae.ba Met.none rfl aD ?_
     refine ae.len Met.none rfl Tryz.underlying39 ?_
     refine ae.fieldAddr (off' := 1) Met.none rfl Tryz.underlying66 rfl cj rfl ?_
     first | refine ae.ld Met.none rfl bY ?_ | refine ae.ba Met.none rfl bY ?_
     refine zb rfl rfl nj ?_
     refine ae.min Met.none rfl rfl ?_
     refine ae.max Met.none rfl rfl ?_
     refine za rfl (ae.nil (Fin.aa (WX.seq ?_)))
     have hcat : ∃ z : Int, z = kk := ⟨_, rfl⟩
     have hkk2 : kk = if i < aq.length then max 0 (min (nth aq i) (f.bs.length - f.d)) else 0 := hkk
     first | rw [if_pos hik2] at hkk2 | rw [if_neg (by omega)] at hkk2
     refine WX.region rfl ?_
     refine ae.fieldAddr (off' := 0) Met.none rfl Tryz.underlying66 rfl aO rfl ?_
     first | refine ae.ld Met.none rfl aD ?_ | refine ae.ba Met.none rfl aD ?_
     refine ae.fieldAddr (off' := 1) Met.none rfl Tryz.underlying66 rfl cj rfl ?_
     first | refine ae.ld Met.none rfl bY ?_ | refine ae.ba Met.none rfl bY ?_
     refine zm rfl (zb rfl rfl dH ?_)
     refine ae.pre (m := cb.length) Met.none rfl rfl aQ ea (bK.cons (bK.cons (bK.cons hrow))) hnil ?_
     refine ae.cl (O1 := _) Met.none rfl (ah Tryz.func30 (by decide +kernel)) rfl (fun _ h => h) (iW _ cb fa cb.length (by omega) (fun q => by
     have := hrow.eh q
     have h2 : cb.length = 0 := by omega
     exact List.length_eq_zero_iff.1 h2) (Src.cons (Src.cons (Src.cons (by
     have hpre := hrow.pre (m := cb.length) (by omega)
     rw [Nat.mul_one, ← List.map_take, htk] at hpre
     exact hpre.src hpre.eh))))) (fun v O' hp => ?_)
     obtain ⟨a51, c51, G51, rfl, hG51, rfl⟩ := hp
     refine ae.re (O' := (b9, ⟨0, false, [.slice fa f.bs.length fc, I f.d]⟩) :: bu d bm D mx (G6 ++ ((aH ow ++ G51) ++ B))) ?_
     refine ae.fieldAddr (off' := 0) Met.none rfl Tryz.underlying66 rfl aO rfl ?_
     refine ae.st (vs := [_]) (c' := [_, _]) (j := 0) Met.none rfl rfl rfl aO ?_ (hj := rfl)
     refine ae.nil (Fin.aa (WX.seq (WX.seq (WX.region rfl ?_))))
     refine ae.fieldAddr (off' := 1) Met.none rfl Tryz.underlying66 rfl cj rfl ?_
     first | refine ae.ld Met.none rfl bY ?_ | refine ae.ba Met.none rfl bY ?_
     refine za rfl (ae.nil (Fin.aa (WX.block ?_)))
     obtain ⟨dn, hdn⟩ : ∃ dn : Nat, f.d = (dn : Int) := ⟨f.d.toNat, by omega⟩
     have hsC : Src ((aH ow ++ G51) ++ B) 1 (.slice a51 cb.length c51) cb.length (cb.map B8) := by rw [List.append_assoc]; exact Src.app hG51.src
     rw [hdn]
     refine WX.loop (fun q : Nat × Option Addr × Nat × an => [(0, Ptr d 0), (1, .slice ak aq.length ck), (2, I flip), (6, .slice q.2.1 ((cG ow).length + q.1) q.2.2.1), (8, I n), (9, Ptr b9 0), (11, I ((dn + q.1 : Nat) : Int)), (15, .slice a15 (cN D0).length c15), (16, I ((cN D0).length : Nat)), (17, I (i : Nat))]) (fun q => (b9, ⟨0, false, [.slice a51 cb.length c51, I (dn : Int)]⟩) :: bu d bm D mx (q.2.2.2 ++ ((aH ow ++ G51) ++ B))) (fun q => dn + q.1 ≤ cb.length ∧ Grow 1 q.2.1 ((cG ow).length + q.1) q.2.2.1 (cG ow ++ dP a51 dn q.1) q.2.2.2) (fun q => cb.length - q.1) (0, a6, c6, G6) ⟨by show dn + 0 ≤ _; omega, by rw [show dP a51 dn 0 = [] from rfl, List.append_nil]; exact hloose⟩ (fun s hs => hs.tl [] 0) (fun q hq => ?_)
     obtain ⟨j, a7, c7, G7⟩ := q
     obtain ⟨hj, hG7⟩ := hq
     simp only at hj hG7
     dsimp only
     refine WX.seq (WX.seq (WX.region rfl (zm rfl ?_)))
     refine ae.fieldAddr (off' := 0) Met.none rfl Tryz.underlying66 rfl aO rfl ?_
     first | refine ae.ld Met.none rfl aD ?_ | refine ae.ba Met.none rfl aD ?_
     refine ae.len Met.none rfl Tryz.underlying39 (zb rfl rfl rfl (ae.nil (Fin.aa ?_)))
     refine WX.cond rfl (fun hc2 => ?_) (fun hc2 => ?_)
     · try simp only [aB] at hc2
       refine WX.skip (Fin.aa (WX.seq (WX.block ?_)))
       obtain ⟨b51, rfl, hG51e, hcl51⟩ : ∃ b51, a51 = some ⟨b51, 0, none⟩ ∧ G51 = [(b51, ⟨1, false, cb.map B8⟩)] ∧ (cb.map B8).length = cb.length * 1 := by
        rcases hG51 with ⟨_, h0, _⟩ | h
        · omega
        · exact h
       refine WX.region rfl (zm rfl ?_)
       refine ae.fieldAddr (off' := 0) Met.none rfl Tryz.underlying66 rfl aO rfl ?_
       first | refine ae.ld Met.none rfl aD ?_ | refine ae.ba Met.none rfl aD ?_
       refine zm rfl ?_
       first | refine ae.ix Met.none rfl rfl aQ ea ?_ | refine ae.eH Met.none rfl rfl aQ ea ?_
       refine ae.buildSlice (c := [_]) Met.none rfl mN tE pM (by decide) (by decide) rfl rfl rfl rfl (fun b67 => ?_)
       refine ae.mS [_, _, _, _] Met.none rfl rfl s8 mN tE yJ pM (Src.lit (cs := [_])) (fun a68 c68 G68 hG68 => ?_)
       refine za rfl (ae.nil (Fin.ag (Fin.aa (WX.region rfl (zm rfl (zb rfl rfl dH (za rfl (ae.nil ?_))))))))
       refine Fin.aj (j + 1, a68, c68, G68) ⟨by simp only; omega, ?_⟩ (by simp only; omega) (fun s hs => hs.tl [] 1)
       simp only
       rw [mc, ← List.append_assoc, show ji (some ⟨b51, 0, none⟩) (dn + j) = Ptr b51 (dn + j) from by unfold ji; simp]
       exact hG68
     · try simp only [aB] at hc2
       refine WX.exit (Fin.aF (Fin.aN (Fin.aK rfl (Fin.aa ?_))))
       have hjl : j = cb.length - dn := by omega
       obtain ⟨o, ho⟩ : ∃ o : bM, o = ⟨n, jJ aq i f, a51, c51, G51⟩ := ⟨_, rfl⟩
       have hof : o.f.bs = cb ∧ o.f.d = f.d := by rw [ho]; exact ⟨hcb.symm, rfl⟩
       have hoG : Grow 1 o.a o.f.bs.length o.c (o.f.bs.map B8) o.G := by rw [hof.1, ho]; exact hG51
       have hlo : bp o.f = j := by
        unfold bp
        rw [hof.1, hof.2, hdn, Int.toNat_natCast, hjl]
       have hlv : cG (ow ++ [o]) = cG ow ++ dP a51 dn j := by
        rw [nK]
        show cG ow ++ (dP o.a o.f.d.toNat (bp o.f) ++ []) = _
        rw [List.append_nil, hlo, hof.2, hdn, Int.toNat_natCast, ho]
       have hro : aH (ow ++ [o]) = aH ow ++ G51 := by
        rw [eb]
        show aH ow ++ (o.G ++ []) = _
        rw [List.append_nil, ho]
       have hlvl : (cG ow).length + j = (cG (ow ++ [o])).length := by rw [hlv, List.length_append, fD]
       have hcut : cutAt D0 aq i = (n, o.f) := by
        unfold cutAt
        rw [← hn, ← hfn, ho]
       have hfile : eA (aH (ow ++ [o]) ++ R0) (cJ a51 cb.length c51 f.d) o.f := ⟨a51, c51, by rw [hof.1, hof.2], by
        rw [hro, List.append_assoc, hof.1]
        exact bK.app hG51.oK, fun q => (hG51.eh q).1, by
        rw [hof.1, ← htk]
        exact gm hfB⟩
       have hcbl : o.f.bs.length = cb.length := by rw [hof.1]
       have hnk : (mx.kv.map (·.1)).Nodup := by rw [← lH]; exact hDi.keys
       have hDn : dX (aH (ow ++ [o]) ++ R0) { D with fs := gU D.fs n o.f } (iv mx n (cJ a51 cb.length c51 f.d) cb.length) := by
        have h0 : dX (aH (ow ++ [o]) ++ R0) D mx := ⟨⟨by
         rw [hro, List.append_assoc]
         exact hDi.di.rel.qf, hDi.di.nd⟩, hDi.ok, hDi.room, hDi.left, hDi.used⟩
        have h1 := h0.set n hfile hn64 ⟨by rw [hof.2]; omega, by rw [hof.1, hof.2]; omega⟩ (by
         have := hDi.used
         rw [hcbl, ← hf]
         omega)
        rw [hcbl] at h1
        exact h1
       refine WX.region rfl (zm rfl (zm rfl ?_))
       refine ae.yP (vs := [_, _]) Met.none rfl ta pR ?_
       refine ae.cl (O1 := bu d bm D mx ((b9, ⟨0, false, [.slice a51 cb.length c51, I (dn : Int)]⟩) :: (G7 ++ ((aH ow ++ G51) ++ B)))) Met.none rfl (ah Tryz.func31 (by decide +kernel)) rfl aC (qh _ d bm D mx n a51 cb.length c51 (dn : Int)) (fun v O' hp => ?_)
       obtain rfl := hp
       refine ae.nil (Fin.ag (Fin.aa (WX.region rfl (zb rfl rfl dH (zm rfl (ae.nil ?_))))))
       rw [← hdn]
       refine Fin.aj (⟨i + 1, ow ++ [o], { D with fs := gU D.fs n o.f }, iv mx n (cJ a51 cb.length c51 f.d) cb.length, a7, c7, G7⟩ : yt) ⟨by simp only; omega, ?_, ?_, ?_, ?_, ?_, hDn, hsame, ?_⟩ (by simp only; omega) ?_
       · simp only
         rw [List.map_append, how, iV, hcut, ho]
         rfl
       · intro o' h'
         rcases List.mem_append.1 h' with q | q
         · exact hgr o' q
         · rw [List.mem_singleton] at q; subst q; exact ⟨hoG, by rw [hof.1, ← htk]; exact gm hfB⟩
       · intro o' h' hne
         simp only
         rw [rq hnk]
         rcases List.mem_append.1 h' with q | q
         · rw [if_neg (fun e => hnot (by rw [← how, List.map_map]; exact List.mem_map.2 ⟨o', q, e⟩))]
           exact hval o' q hne
         · rw [List.mem_singleton] at q
           subst q
           rw [if_pos (by rw [ho]), if_neg (fun e => hne (by rw [hof.1]; exact List.length_eq_zero_iff.1 e)), hof.1, hof.2]
           rw [ho]
       · intro m
         simp only
         rw [lM hDi.di.nd, iV, kf, hcut]
         by_cases hm : m = n
         · subst hm
           rw [if_pos rfl, eZ hnot]
           simp only [bH, if_pos, Option.or, Option.getD_some]
           split
           · rename_i hb0
             have h5 : o.f.d = 0 := by
              rw [hof.1] at hb0
              rw [hof.2]
              rw [hb0] at hcl
              simp at hcl
              omega
             cases hof' : o.f with
             | mk b' d' => rw [hof'] at hb0 h5; simp only at hb0 h5; rw [hb0, h5]
           · rfl
         · rw [if_neg hm, hget m]
           simp only [bH, if_neg hm]
           cases bH m (iJ D0 aq i) <;> rfl
       · intro e he
         rcases mem_set he with q | q
         · rw [q]; exact hnin
         · exact hkeys e q
       · simp only
         rw [← hlvl, hlv]
         exact hG7
       · simp only
         rw [hro, ← hlvl]
         exact (fun s hs => hs.tl [0, 1] 3)
   · try simp only [aB] at hc1
     refine WX.skip (Fin.aa (WX.seq ?_))
     have hcat : ∃ z : Int, z = kk := ⟨_, rfl⟩
     have hkk2 : kk = if i < aq.length then max 0 (min (nth aq i) (f.bs.length - f.d)) else 0 := hkk
     first | rw [if_pos hik2] at hkk2 | rw [if_neg (by omega)] at hkk2
     refine WX.region rfl ?_
     refine ae.fieldAddr (off' := 0) Met.none rfl Tryz.underlying66 rfl aO rfl ?_
     first | refine ae.ld Met.none rfl aD ?_ | refine ae.ba Met.none rfl aD ?_
     refine ae.fieldAddr (off' := 1) Met.none rfl Tryz.underlying66 rfl cj rfl ?_
     first | refine ae.ld Met.none rfl bY ?_ | refine ae.ba Met.none rfl bY ?_
     refine zm rfl (zb rfl rfl dH ?_)
     refine ae.pre (m := cb.length) Met.none rfl rfl aQ ea (bK.cons (bK.cons (bK.cons hrow))) hnil ?_
     refine ae.cl (O1 := _) Met.none rfl (ah Tryz.func30 (by decide +kernel)) rfl (fun _ h => h) (iW _ cb fa cb.length (by omega) (fun q => by
     have := hrow.eh q
     have h2 : cb.length = 0 := by omega
     exact List.length_eq_zero_iff.1 h2) (Src.cons (Src.cons (Src.cons (by
     have hpre := hrow.pre (m := cb.length) (by omega)
     rw [Nat.mul_one, ← List.map_take, htk] at hpre
     exact hpre.src hpre.eh))))) (fun v O' hp => ?_)
     obtain ⟨a51, c51, G51, rfl, hG51, rfl⟩ := hp
     refine ae.re (O' := (b9, ⟨0, false, [.slice fa f.bs.length fc, I f.d]⟩) :: bu d bm D mx (G6 ++ ((aH ow ++ G51) ++ B))) ?_
     refine ae.fieldAddr (off' := 0) Met.none rfl Tryz.underlying66 rfl aO rfl ?_
     refine ae.st (vs := [_]) (c' := [_, _]) (j := 0) Met.none rfl rfl rfl aO ?_ (hj := rfl)
     refine ae.nil (Fin.aa (WX.seq (WX.seq (WX.region rfl ?_))))
     refine ae.fieldAddr (off' := 1) Met.none rfl Tryz.underlying66 rfl cj rfl ?_
     first | refine ae.ld Met.none rfl bY ?_ | refine ae.ba Met.none rfl bY ?_
     refine za rfl (ae.nil (Fin.aa (WX.block ?_)))
     obtain ⟨dn, hdn⟩ : ∃ dn : Nat, f.d = (dn : Int) := ⟨f.d.toNat, by omega⟩
     have hsC : Src ((aH ow ++ G51) ++ B) 1 (.slice a51 cb.length c51) cb.length (cb.map B8) := by rw [List.append_assoc]; exact Src.app hG51.src
     rw [hdn]
     refine WX.loop (fun q : Nat × Option Addr × Nat × an => [(0, Ptr d 0), (1, .slice ak aq.length ck), (2, I flip), (6, .slice q.2.1 ((cG ow).length + q.1) q.2.2.1), (8, I n), (9, Ptr b9 0), (11, I ((dn + q.1 : Nat) : Int)), (15, .slice a15 (cN D0).length c15), (16, I ((cN D0).length : Nat)), (17, I (i : Nat))]) (fun q => (b9, ⟨0, false, [.slice a51 cb.length c51, I (dn : Int)]⟩) :: bu d bm D mx (q.2.2.2 ++ ((aH ow ++ G51) ++ B))) (fun q => dn + q.1 ≤ cb.length ∧ Grow 1 q.2.1 ((cG ow).length + q.1) q.2.2.1 (cG ow ++ dP a51 dn q.1) q.2.2.2) (fun q => cb.length - q.1) (0, a6, c6, G6) ⟨by show dn + 0 ≤ _; omega, by rw [show dP a51 dn 0 = [] from rfl, List.append_nil]; exact hloose⟩ (fun s hs => hs.tl [] 0) (fun q hq => ?_)
     obtain ⟨j, a7, c7, G7⟩ := q
     obtain ⟨hj, hG7⟩ := hq
     simp only at hj hG7
     dsimp only
     refine WX.seq (WX.seq (WX.region rfl (zm rfl ?_)))
     refine ae.fieldAddr (off' := 0) Met.none rfl Tryz.underlying66 rfl aO rfl ?_
     first | refine ae.ld Met.none rfl aD ?_ | refine ae.ba Met.none rfl aD ?_
     refine ae.len Met.none rfl Tryz.underlying39 (zb rfl rfl rfl (ae.nil (Fin.aa ?_)))
     refine WX.cond rfl (fun hc2 => ?_) (fun hc2 => ?_)
     · try simp only [aB] at hc2
       refine WX.skip (Fin.aa (WX.seq (WX.block ?_)))
       obtain ⟨b51, rfl, hG51e, hcl51⟩ : ∃ b51, a51 = some ⟨b51, 0, none⟩ ∧ G51 = [(b51, ⟨1, false, cb.map B8⟩)] ∧ (cb.map B8).length = cb.length * 1 := by
        rcases hG51 with ⟨_, h0, _⟩ | h
        · omega
        · exact h
       refine WX.region rfl (zm rfl ?_)
       refine ae.fieldAddr (off' := 0) Met.none rfl Tryz.underlying66 rfl aO rfl ?_
       first | refine ae.ld Met.none rfl aD ?_ | refine ae.ba Met.none rfl aD ?_
       refine zm rfl ?_
       first | refine ae.ix Met.none rfl rfl aQ ea ?_ | refine ae.eH Met.none rfl rfl aQ ea ?_
       refine ae.buildSlice (c := [_]) Met.none rfl mN tE pM (by decide) (by decide) rfl rfl rfl rfl (fun b67 => ?_)
       refine ae.mS [_, _, _, _] Met.none rfl rfl s8 mN tE yJ pM (Src.lit (cs := [_])) (fun a68 c68 G68 hG68 => ?_)
       refine za rfl (ae.nil (Fin.ag (Fin.aa (WX.region rfl (zm rfl (zb rfl rfl dH (za rfl (ae.nil ?_))))))))
       refine Fin.aj (j + 1, a68, c68, G68) ⟨by simp only; omega, ?_⟩ (by simp only; omega) (fun s hs => hs.tl [] 1)
       simp only
       rw [mc, ← List.append_assoc, show ji (some ⟨b51, 0, none⟩) (dn + j) = Ptr b51 (dn + j) from by unfold ji; simp]
       exact hG68
     · try simp only [aB] at hc2
       refine WX.exit (Fin.aF (Fin.aN (Fin.aK rfl (Fin.aa ?_))))
       have hjl : j = cb.length - dn := by omega
       obtain ⟨o, ho⟩ : ∃ o : bM, o = ⟨n, jJ aq i f, a51, c51, G51⟩ := ⟨_, rfl⟩
       have hof : o.f.bs = cb ∧ o.f.d = f.d := by rw [ho]; exact ⟨hcb.symm, rfl⟩
       have hoG : Grow 1 o.a o.f.bs.length o.c (o.f.bs.map B8) o.G := by rw [hof.1, ho]; exact hG51
       have hlo : bp o.f = j := by
        unfold bp
        rw [hof.1, hof.2, hdn, Int.toNat_natCast, hjl]
       have hlv : cG (ow ++ [o]) = cG ow ++ dP a51 dn j := by
        rw [nK]
        show cG ow ++ (dP o.a o.f.d.toNat (bp o.f) ++ []) = _
        rw [List.append_nil, hlo, hof.2, hdn, Int.toNat_natCast, ho]
       have hro : aH (ow ++ [o]) = aH ow ++ G51 := by
        rw [eb]
        show aH ow ++ (o.G ++ []) = _
        rw [List.append_nil, ho]
       have hlvl : (cG ow).length + j = (cG (ow ++ [o])).length := by rw [hlv, List.length_append, fD]
       have hcut : cutAt D0 aq i = (n, o.f) := by
        unfold cutAt
        rw [← hn, ← hfn, ho]
       have hfile : eA (aH (ow ++ [o]) ++ R0) (cJ a51 cb.length c51 f.d) o.f := ⟨a51, c51, by rw [hof.1, hof.2], by
        rw [hro, List.append_assoc, hof.1]
        exact bK.app hG51.oK, fun q => (hG51.eh q).1, by
        rw [hof.1, ← htk]
        exact gm hfB⟩
       have hcbl : o.f.bs.length = cb.length := by rw [hof.1]
       have hnk : (mx.kv.map (·.1)).Nodup := by rw [← lH]; exact hDi.keys
       have hDn : dX (aH (ow ++ [o]) ++ R0) { D with fs := gU D.fs n o.f } (iv mx n (cJ a51 cb.length c51 f.d) cb.length) := by
        have h0 : dX (aH (ow ++ [o]) ++ R0) D mx := ⟨⟨by
         rw [hro, List.append_assoc]
         exact hDi.di.rel.qf, hDi.di.nd⟩, hDi.ok, hDi.room, hDi.left, hDi.used⟩
        have h1 := h0.set n hfile hn64 ⟨by rw [hof.2]; omega, by rw [hof.1, hof.2]; omega⟩ (by
         have := hDi.used
         rw [hcbl, ← hf]
         omega)
        rw [hcbl] at h1
        exact h1
       refine WX.region rfl (zm rfl (zm rfl ?_))
       refine ae.yP (vs := [_, _]) Met.none rfl ta pR ?_
       refine ae.cl (O1 := bu d bm D mx ((b9, ⟨0, false, [.slice a51 cb.length c51, I (dn : Int)]⟩) :: (G7 ++ ((aH ow ++ G51) ++ B)))) Met.none rfl (ah Tryz.func31 (by decide +kernel)) rfl aC (qh _ d bm D mx n a51 cb.length c51 (dn : Int)) (fun v O' hp => ?_)
       obtain rfl := hp
       refine ae.nil (Fin.ag (Fin.aa (WX.region rfl (zb rfl rfl dH (zm rfl (ae.nil ?_))))))
       rw [← hdn]
       refine Fin.aj (⟨i + 1, ow ++ [o], { D with fs := gU D.fs n o.f }, iv mx n (cJ a51 cb.length c51 f.d) cb.length, a7, c7, G7⟩ : yt) ⟨by simp only; omega, ?_, ?_, ?_, ?_, ?_, hDn, hsame, ?_⟩ (by simp only; omega) ?_
       · simp only
         rw [List.map_append, how, iV, hcut, ho]
         rfl
       · intro o' h'
         rcases List.mem_append.1 h' with q | q
         · exact hgr o' q
         · rw [List.mem_singleton] at q; subst q; exact ⟨hoG, by rw [hof.1, ← htk]; exact gm hfB⟩
       · intro o' h' hne
         simp only
         rw [rq hnk]
         rcases List.mem_append.1 h' with q | q
         · rw [if_neg (fun e => hnot (by rw [← how, List.map_map]; exact List.mem_map.2 ⟨o', q, e⟩))]
           exact hval o' q hne
         · rw [List.mem_singleton] at q
           subst q
           rw [if_pos (by rw [ho]), if_neg (fun e => hne (by rw [hof.1]; exact List.length_eq_zero_iff.1 e)), hof.1, hof.2]
           rw [ho]
       · intro m
         simp only
         rw [lM hDi.di.nd, iV, kf, hcut]
         by_cases hm : m = n
         · subst hm
           rw [if_pos rfl, eZ hnot]
           simp only [bH, if_pos, Option.or, Option.getD_some]
           split
           · rename_i hb0
             have h5 : o.f.d = 0 := by
              rw [hof.1] at hb0
              rw [hof.2]
              rw [hb0] at hcl
              simp at hcl
              omega
             cases hof' : o.f with
             | mk b' d' => rw [hof'] at hb0 h5; simp only at hb0 h5; rw [hb0, h5]
           · rfl
         · rw [if_neg hm, hget m]
           simp only [bH, if_neg hm]
           cases bH m (iJ D0 aq i) <;> rfl
       · intro e he
         rcases mem_set he with q | q
         · rw [q]; exact hnin
         · exact hkeys e q
       · simp only
         rw [← hlvl, hlv]
         exact hG7
       · simp only
         rw [hro, ← hlvl]
         exact (fun s hs => hs.tl [0, 1] 3)
 · try simp only [aB] at hc0
   refine WX.exit (Fin.aF (Fin.aN (Fin.aK rfl (Fin.aa (WX.seq (WX.seq ?_))))))
   have hie : i = (cN D0).length := by omega
   have hC : yO D0 aq R0 ⟨i, ow, D, mx, a6, c6, G6⟩ := ⟨hin, how, hgr, hval, hget, hkeys, hDi, hsame, hloose⟩
   have hcg := pq hC hie
   have hls : (cG ow).length = av (iJ D0 aq (cN D0).length) := by rw [jr, how, hie]
   have hlb : (cG ow).length ≤ 1000000000000 := by omega
   refine WX.region rfl (zm rfl (ae.len Met.none rfl Tryz.underlying63 (zb rfl rfl ug (za rfl (zR rfl (zm rfl (zb rfl rfl rfl (zm rfl ?_))))))))
   refine ae.split (d := 79) rfl (fun hg79 => ?_) (fun hg79 => ?_)
   · try simp only [aB] at hg79
     refine ae.move (Met.some rfl rfl rfl) rfl (ae.bin (Met.some rfl rfl rfl) rfl rfl rfl (ae.bC Met.none rfl rfl (ae.nil (Fin.aa ?_))))
     refine WX.cond rfl (fun hc3 => ?_) (fun hc3 => ?_)
     · try simp only [aB] at hc3
       refine WX.seq ?_
       obtain ⟨fl, hfle⟩ : ∃ fl : Nat, flip = (fl : Int) := ⟨flip.toNat, by omega⟩
       obtain ⟨q, hq⟩ : ∃ q, q = fl % (8 * (cG ow).length) := ⟨_, rfl⟩
       have hqm : flip.tmod (8 * ((cG ow).length : Int)) = (q : Int) := by
        rw [hfle, Int.tmod_eq_emod_of_nonneg (by omega), hq, Int.natCast_emod, Int.natCast_mul]
        rfl
       have hqlt : q < 8 * (cG ow).length := by rw [hq]; exact Nat.mod_lt _ (by omega)
       have hq8 : (q : Int).tdiv 8 = ((q / 8 : Nat) : Int) := by rw [Int.tdiv_eq_ediv_of_nonneg (by omega)]; omega
       have hq8m : (q : Int).tmod 8 = ((q % 8 : Nat) : Int) := by rw [Int.tmod_eq_emod_of_nonneg (by omega)]; omega
       obtain ⟨ow1, o, ow2, r, how2, hr, hpv, hfc⟩ := oE (7 - q % 8) ow (q / 8) (by rw [← jr]; omega)
       have hom : o ∈ ow := by rw [how2]; simp
       obtain ⟨hoG, hoB⟩ := hgr o hom
       have hrl : o.f.d.toNat + r < o.f.bs.length := by unfold bp at hr; omega
       have hone : o.f.bs ≠ [] := fun e => by rw [e] at hrl; simp at hrl
       obtain ⟨b, hoa, hoGe⟩ : ∃ b, o.a = some ⟨b, 0, none⟩ ∧ o.G = [(b, ⟨1, false, o.f.bs.map B8⟩)] := by
        rcases hoG with ⟨_, h0, _⟩ | ⟨b, h1, h2, _⟩
        · omega
        · exact ⟨b, h1, h2⟩
       obtain ⟨z, hz⟩ : ∃ z, z = o.f.d.toNat + r := ⟨_, rfl⟩
       rw [← hz] at hrl hpv hfc
       rw [hoa, show ji (some ⟨b, 0, none⟩) z = Ptr b z from by unfold ji; simp] at hpv
       have hrs : aH ow = aH ow1 ++ ([(b, ⟨1, false, o.f.bs.map B8⟩)] ++ aH ow2) := by rw [how2, eb, eU, hoGe]
       rw [hrs]
       refine WX.re (O' := (b, ⟨1, false, o.f.bs.map B8⟩) :: bu d bm D mx (G6 ++ ((aH ow1 ++ aH ow2) ++ B))) ?_
       refine WX.region rfl (zm rfl (zm rfl ?_))
       refine ae.rem Met.none rfl rfl (by omega) ?_
       rw [hqm]
       refine za rfl (ae.nil (Fin.aa ?_))
       refine WX.draw rfl ?_
       refine zm rfl (zm rfl ?_)
       refine ae.qu Met.none rfl rfl ?_ (hr := (show IntKind.wrap .i64 ((q : Int).tdiv 8) = ((q / 8 : Nat) : Int) from by rw [hq8]; exact wrap_i64 (by omega) (by omega)))
       first | refine ae.ix Met.none rfl rfl mN tE ?_ | refine ae.eH Met.none rfl rfl mN tE ?_
       first | refine ae.ld Met.none rfl xr ?_ (hv := hpv) | refine ae.ba Met.none rfl xr ?_ (hv := hpv)
       refine zn rfl ?_
       first | refine ae.ld Met.none rfl iU ?_ | refine ae.ba Met.none rfl iU ?_
       refine zm rfl ?_
       refine ae.rem Met.none rfl rfl (by omega) ?_
       rw [hq8m]
       refine zb rfl rfl nj ?_
       refine ae.shl Met.none rfl rfl (by omega) ?_
       rw [show ((7 : Int) - ((q % 8 : Nat) : Int)).toNat = 7 - q % 8 from by omega]
       refine ae.bin Met.none rfl rfl (show _ = some (B8 (gO (nth o.f.bs z) (7 - q % 8))) from rfl) (zn rfl ?_)
       refine ae.st (vs := [_]) (j := 0) Met.none rfl rfl rfl ea ?_ (hj := rfl)
       refine ae.nil (Fin.aa (WX.seq ?_))
       first
       | obtain ⟨f2, hf2⟩ : ∃ f2 : Fi, f2 = ⟨o.f.bs.set z (gO (nth o.f.bs z) (7 - q % 8)), o.f.d⟩ := ⟨_, rfl⟩
         have hz8 := iz (nth o.f.bs z) (7 - q % 8)
         obtain ⟨hDf, hgf, hgc⟩ := ll hC hie hnd (f2 := f2) how2 hoa hone (by rw [hf2]; exact List.length_set) (by rw [hf2]) (by
          rw [hf2]
          intro y hy
          rcases List.mem_or_eq_of_mem_set hy with p | p
          · exact hoB y p
          · rw [p]; exact hz8)
         have hcc : dF D0 aq flip = ow1.map bM.nf ++ (o.n, f2) :: ow2.map bM.nf := by
          unfold dF
          simp only
          rw [← hls, if_pos (by omega), show flip.toNat = fl by omega, ← hq, hf2, ← hfc, how, hie]
         obtain ⟨Df, hDfe⟩ : ∃ Df : Dk, Df = { D with fs := eT o.n f2 D.fs } := ⟨_, rfl⟩
         obtain ⟨NN, hNN⟩ : ∃ NN, NN = aH ow1 ++ ((b, ⟨1, false, f2.bs.map B8⟩) :: aH ow2) := ⟨_, rfl⟩
         have hDk : dX (NN ++ R0) Df mx := by rw [hNN, hDfe]; exact hDf
         have hgg : ∀ m, aI Df.fs m = (bH m (dF D0 aq flip)).getD ⟨[], 0⟩ := fun m => by rw [hDfe, hcc]; exact (hgf m).trans (hgc m).symm
         have hrm : Df.room = D0.room := by rw [hDfe]; exact hsame.1
         refine WX.re (O' := bu d bm Df mx (NN ++ R)) ?_ (by rw [hDfe, hNN, hB, hf2]; exact aC)
       | obtain ⟨Df, hDfe⟩ : ∃ Df : Dk, Df = D := ⟨_, rfl⟩
         obtain ⟨NN, hNN⟩ : ∃ NN, NN = aH ow := ⟨_, rfl⟩
         have hDk : dX (NN ++ R0) Df mx := by rw [hNN, hDfe]; exact hDi
         have hgg : ∀ m, aI Df.fs m = (bH m (dF D0 aq flip)).getD ⟨[], 0⟩ := fun m => by
          have hcc : dF D0 aq flip = iJ D0 aq (cN D0).length := by
           unfold dF
           simp only
           rw [← hls, if_neg (by omega)]
          rw [hcc, hDfe]
          exact hcg m
         have hrm : Df.room = D0.room := by rw [hDfe]; exact hsame.1
         refine WX.re (O' := bu d bm Df mx (NN ++ R)) ?_ (by rw [hDfe, hNN, hB]; exact aC)
       refine WX.region rfl (zm rfl ?_)
       refine ae.cl (O1 := _) Met.none rfl (ah Tryz.func32 (by decide +kernel)) rfl (fun _ h => h) (kC _ d bm Df mx hDk) (fun v O' hp => ?_)
       obtain ⟨rfl, hO⟩ := hp
       subst O'
       refine ae.nil (Fin.aa (WX.region rfl (zm rfl (zm rfl (zn rfl ?_)))))
       first | refine ae.fieldAddr Met.none rfl Tryz.underlying62 rfl dm rfl ?_ | refine ae.bQ Met.none rfl Tryz.underlying62 rfl dm ?_
       refine ae.st (vs := [_]) (j := 0) Met.none rfl rfl rfl dm ?_ (hj := rfl)
       refine zn rfl ?_
       first | refine ae.fieldAddr Met.none rfl Tryz.underlying62 rfl dm rfl ?_ | refine ae.bQ Met.none rfl Tryz.underlying62 rfl dm ?_
       refine ae.st (vs := [_]) (j := 0) Met.none rfl rfl rfl dm ?_ (hj := rfl)
       refine ae.nil ?_
       exact Fin.result (O' := bu d bm ⟨Df.room, false, false, Df.left, dg Df.fs⟩ mx.cX (NN ++ R)) (.inl rfl) rfl rfl au ⟨mx.cX, NN, ⟨Df.room, false, false, Df.left, dg Df.fs⟩, rfl, ⟨hDk.cX.di, hDk.cX.ok, hDk.cX.room, (fun e => by cases e), hDk.cX.used⟩, hrm, rfl, rfl, fun m => by
        rw [kO, hgg]⟩
     · try simp only [aB] at hc3
       refine WX.skip (Fin.aa (WX.seq ?_))
       first
       | obtain ⟨f2, hf2⟩ : ∃ f2 : Fi, f2 = ⟨o.f.bs.set z (gO (nth o.f.bs z) (7 - q % 8)), o.f.d⟩ := ⟨_, rfl⟩
         have hz8 := iz (nth o.f.bs z) (7 - q % 8)
         obtain ⟨hDf, hgf, hgc⟩ := ll hC hie hnd (f2 := f2) how2 hoa hone (by rw [hf2]; exact List.length_set) (by rw [hf2]) (by
          rw [hf2]
          intro y hy
          rcases List.mem_or_eq_of_mem_set hy with p | p
          · exact hoB y p
          · rw [p]; exact hz8)
         have hcc : dF D0 aq flip = ow1.map bM.nf ++ (o.n, f2) :: ow2.map bM.nf := by
          unfold dF
          simp only
          rw [← hls, if_pos (by omega), show flip.toNat = fl by omega, ← hq, hf2, ← hfc, how, hie]
         obtain ⟨Df, hDfe⟩ : ∃ Df : Dk, Df = { D with fs := eT o.n f2 D.fs } := ⟨_, rfl⟩
         obtain ⟨NN, hNN⟩ : ∃ NN, NN = aH ow1 ++ ((b, ⟨1, false, f2.bs.map B8⟩) :: aH ow2) := ⟨_, rfl⟩
         have hDk : dX (NN ++ R0) Df mx := by rw [hNN, hDfe]; exact hDf
         have hgg : ∀ m, aI Df.fs m = (bH m (dF D0 aq flip)).getD ⟨[], 0⟩ := fun m => by rw [hDfe, hcc]; exact (hgf m).trans (hgc m).symm
         have hrm : Df.room = D0.room := by rw [hDfe]; exact hsame.1
         refine WX.re (O' := bu d bm Df mx (NN ++ R)) ?_ (by rw [hDfe, hNN, hB, hf2]; exact aC)
       | obtain ⟨Df, hDfe⟩ : ∃ Df : Dk, Df = D := ⟨_, rfl⟩
         obtain ⟨NN, hNN⟩ : ∃ NN, NN = aH ow := ⟨_, rfl⟩
         have hDk : dX (NN ++ R0) Df mx := by rw [hNN, hDfe]; exact hDi
         have hgg : ∀ m, aI Df.fs m = (bH m (dF D0 aq flip)).getD ⟨[], 0⟩ := fun m => by
          have hcc : dF D0 aq flip = iJ D0 aq (cN D0).length := by
           unfold dF
           simp only
           rw [← hls, if_neg (by omega)]
          rw [hcc, hDfe]
          exact hcg m
         have hrm : Df.room = D0.room := by rw [hDfe]; exact hsame.1
         refine WX.re (O' := bu d bm Df mx (NN ++ R)) ?_ (by rw [hDfe, hNN, hB]; exact aC)
       refine WX.region rfl (zm rfl ?_)
       refine ae.cl (O1 := _) Met.none rfl (ah Tryz.func32 (by decide +kernel)) rfl (fun _ h => h) (kC _ d bm Df mx hDk) (fun v O' hp => ?_)
       obtain ⟨rfl, hO⟩ := hp
       subst O'
       refine ae.nil (Fin.aa (WX.region rfl (zm rfl (zm rfl (zn rfl ?_)))))
       first | refine ae.fieldAddr Met.none rfl Tryz.underlying62 rfl dm rfl ?_ | refine ae.bQ Met.none rfl Tryz.underlying62 rfl dm ?_
       refine ae.st (vs := [_]) (j := 0) Met.none rfl rfl rfl dm ?_ (hj := rfl)
       refine zn rfl ?_
       first | refine ae.fieldAddr Met.none rfl Tryz.underlying62 rfl dm rfl ?_ | refine ae.bQ Met.none rfl Tryz.underlying62 rfl dm ?_
       refine ae.st (vs := [_]) (j := 0) Met.none rfl rfl rfl dm ?_ (hj := rfl)
       refine ae.nil ?_
       exact Fin.result (O' := bu d bm ⟨Df.room, false, false, Df.left, dg Df.fs⟩ mx.cX (NN ++ R)) (.inl rfl) rfl rfl au ⟨mx.cX, NN, ⟨Df.room, false, false, Df.left, dg Df.fs⟩, rfl, ⟨hDk.cX.di, hDk.cX.ok, hDk.cX.room, (fun e => by cases e), hDk.cX.used⟩, hrm, rfl, rfl, fun m => by
        rw [kO, hgg]⟩
   · try simp only [aB] at hg79
     refine zs 2 79 rfl rfl rfl (zs 2 79 rfl rfl rfl (ae.bd Met.none rfl rfl (ae.nil (Fin.aa ?_))))
     refine WX.cond rfl (fun hc3 => nomatch hc3) (fun hc3 => ?_)
     refine WX.skip (Fin.aa (WX.seq ?_))
     first
     | obtain ⟨f2, hf2⟩ : ∃ f2 : Fi, f2 = ⟨o.f.bs.set z (gO (nth o.f.bs z) (7 - q % 8)), o.f.d⟩ := ⟨_, rfl⟩
       have hz8 := iz (nth o.f.bs z) (7 - q % 8)
       obtain ⟨hDf, hgf, hgc⟩ := ll hC hie hnd (f2 := f2) how2 hoa hone (by rw [hf2]; exact List.length_set) (by rw [hf2]) (by
        rw [hf2]
        intro y hy
        rcases List.mem_or_eq_of_mem_set hy with p | p
        · exact hoB y p
        · rw [p]; exact hz8)
       have hcc : dF D0 aq flip = ow1.map bM.nf ++ (o.n, f2) :: ow2.map bM.nf := by
        unfold dF
        simp only
        rw [← hls, if_pos (by omega), show flip.toNat = fl by omega, ← hq, hf2, ← hfc, how, hie]
       obtain ⟨Df, hDfe⟩ : ∃ Df : Dk, Df = { D with fs := eT o.n f2 D.fs } := ⟨_, rfl⟩
       obtain ⟨NN, hNN⟩ : ∃ NN, NN = aH ow1 ++ ((b, ⟨1, false, f2.bs.map B8⟩) :: aH ow2) := ⟨_, rfl⟩
       have hDk : dX (NN ++ R0) Df mx := by rw [hNN, hDfe]; exact hDf
       have hgg : ∀ m, aI Df.fs m = (bH m (dF D0 aq flip)).getD ⟨[], 0⟩ := fun m => by rw [hDfe, hcc]; exact (hgf m).trans (hgc m).symm
       have hrm : Df.room = D0.room := by rw [hDfe]; exact hsame.1
       refine WX.re (O' := bu d bm Df mx (NN ++ R)) ?_ (by rw [hDfe, hNN, hB, hf2]; exact aC)
     | obtain ⟨Df, hDfe⟩ : ∃ Df : Dk, Df = D := ⟨_, rfl⟩
       obtain ⟨NN, hNN⟩ : ∃ NN, NN = aH ow := ⟨_, rfl⟩
       have hDk : dX (NN ++ R0) Df mx := by rw [hNN, hDfe]; exact hDi
       have hgg : ∀ m, aI Df.fs m = (bH m (dF D0 aq flip)).getD ⟨[], 0⟩ := fun m => by
        have hcc : dF D0 aq flip = iJ D0 aq (cN D0).length := by
         unfold dF
         simp only
         rw [← hls, if_neg (by omega)]
        rw [hcc, hDfe]
        exact hcg m
       have hrm : Df.room = D0.room := by rw [hDfe]; exact hsame.1
       refine WX.re (O' := bu d bm Df mx (NN ++ R)) ?_ (by rw [hDfe, hNN, hB]; exact aC)
     refine WX.region rfl (zm rfl ?_)
     refine ae.cl (O1 := _) Met.none rfl (ah Tryz.func32 (by decide +kernel)) rfl (fun _ h => h) (kC _ d bm Df mx hDk) (fun v O' hp => ?_)
     obtain ⟨rfl, hO⟩ := hp
     subst O'
     refine ae.nil (Fin.aa (WX.region rfl (zm rfl (zm rfl (zn rfl ?_)))))
     first | refine ae.fieldAddr Met.none rfl Tryz.underlying62 rfl dm rfl ?_ | refine ae.bQ Met.none rfl Tryz.underlying62 rfl dm ?_
     refine ae.st (vs := [_]) (j := 0) Met.none rfl rfl rfl dm ?_ (hj := rfl)
     refine zn rfl ?_
     first | refine ae.fieldAddr Met.none rfl Tryz.underlying62 rfl dm rfl ?_ | refine ae.bQ Met.none rfl Tryz.underlying62 rfl dm ?_
     refine ae.st (vs := [_]) (j := 0) Met.none rfl rfl rfl dm ?_ (hj := rfl)
     refine ae.nil ?_
     exact Fin.result (O' := bu d bm ⟨Df.room, false, false, Df.left, dg Df.fs⟩ mx.cX (NN ++ R)) (.inl rfl) rfl rfl au ⟨mx.cX, NN, ⟨Df.room, false, false, Df.left, dg Df.fs⟩, rfl, ⟨hDk.cX.di, hDk.cX.ok, hDk.cX.room, (fun e => by cases e), hDk.cX.used⟩, hrm, rfl, rfl, fun m => by
      rw [kO, hgg]⟩
def aL (M : Rd) : List Nat := (List.range 64).filter fun i => decide (0 < (nth M.B i).length)
def rm (M : Rd) (n : Nat) : Fi := ⟨nth M.B n, nth M.F n⟩
def gk (M : Rd) (aq : List Int) (i : Nat) : Int × Fi := (((nth (aL M) i : Nat) : Int), jJ aq i (rm M (nth (aL M) i)))
def aV (M : Rd) (aq : List Int) (i : Nat) : List (Int × Fi) := (List.range i).map (gk M aq)
def ca (M : Rd) (aq : List Int) (flip : Int) : List (Int × Fi) :=
 let l := aV M aq (aL M).length
 let m := 8 * av l
 if 0 ≤ flip ∧ 0 < m then fU (flip.toNat % m / 8) (7 - flip.toNat % m % 8) l else l
def bV (M : Rd) (aq : List Int) (flip : Int) : Rd :=
 { room := M.room, off := false, cB := -1, B := (List.range 64).map fun n => ((bH ((n : Nat) : Int) (ca M aq flip)).getD ⟨[], 0⟩).bs, F := (List.range 64).map fun n => ((((bH ((n : Nat) : Int) (ca M aq flip)).getD ⟨[], 0⟩).bs.length : Nat) : Int) }
theorem dS {M : Rd} {n : Nat} : n ∈ aL M ↔ n < 64 ∧ nth M.B n ≠ [] := by
 unfold aL
 rw [List.mem_filter, List.mem_range, decide_eq_true_eq, List.length_pos_iff]
theorem sC {D : Dk} {M : Rd} {R : an} {mx : bf} (h : mz D M) (hD : dX R D mx) : cN D = (aL M).map fun n => ((n : Nat) : Int) := by
 have tr : ∀ a b c : Int, decide (a ≤ b) = true → decide (b ≤ c) = true → decide (a ≤ c) = true := fun a b c h1 h2 => by simp only [decide_eq_true_eq] at *; omega
 have to : ∀ a b : Int, (decide (a ≤ b) || decide (b ≤ a)) = true := fun a b => by simp only [Bool.or_eq_true, decide_eq_true_eq]; omega
 have hs1 : (cN D).Pairwise fun a b => decide (a ≤ b) = true := List.pairwise_mergeSort tr to _
 have hs2 : ((aL M).map fun n => ((n : Nat) : Int)).Pairwise fun a b => decide (a ≤ b) = true := by
  refine List.pairwise_map.2 ((List.pairwise_lt_range.filter _).imp fun q => ?_)
  simp only [decide_eq_true_eq]
  omega
 have hnd2 : ((aL M).map fun n => ((n : Nat) : Int)).Nodup := by
  refine List.pairwise_map.2 ((List.pairwise_lt_range.filter _).imp fun q => ?_)
  omega
 have hp : (cN D).Perm ((aL M).map fun n => ((n : Nat) : Int)) := by
  refine (List.perm_ext_iff_of_nodup (sU hD) hnd2).2 fun m => ?_
  rw [lI, List.mem_map, List.mem_map]
  constructor
  · rintro ⟨e, he, rfl⟩
    obtain ⟨h1, h2, _⟩ := hD.ok e he
    refine ⟨e.1.toNat, dS.2 ⟨by omega, ?_⟩, by omega⟩
    have h3 : aI D.fs e.1 = e.2 := by unfold aI; rw [kN hD.di.nd (v := e.2) he]; rfl
    have h4 := h.file e.1.toNat (by omega)
    rw [show ((e.1.toNat : Nat) : Int) = e.1 by omega, h3] at h4
    intro hz
    exact h2 (by rw [h4, hz])
  · rintro ⟨n, hn, rfl⟩
    obtain ⟨h1, h2⟩ := dS.1 hn
    have h4 := h.file n h1
    cases hg : bH ((n : Nat) : Int) D.fs with
    | none =>
     unfold aI at h4
     rw [hg] at h4
     injection h4 with h5 _
     exact absurd h5.symm h2
    | some f => exact ⟨_, fK hg, rfl⟩
 refine List.Perm.eq_of_pairwise (le := fun a b => decide (a ≤ b) = true) (fun a b _ _ h1 h2 => ?_) hs1 hs2 hp
 simp only [decide_eq_true_eq] at h1 h2
 omega
theorem vQ {D : Dk} {M : Rd} {R : an} {mx : bf} (h : mz D M) (hD : dX R D mx) (aq : List Int) (flip : Int) : dF D aq flip = ca M aq flip := by
 have hf := sC h hD
 have hl : (cN D).length = (aL M).length := by rw [hf, List.length_map]
 have hc : iJ D aq (cN D).length = aV M aq (aL M).length := by
  unfold iJ aV
  rw [hl]
  refine List.map_congr_left fun i hi => ?_
  have hi := List.mem_range.1 hi
  have hn : nth (cN D) i = ((nth (aL M) i : Nat) : Int) := by
   rw [dx (by rw [hl]; exact hi), dx hi]
   simp only [hf, List.getElem_map]
  have hr := (dS.1 (dK hi)).1
  unfold cutAt gk
  rw [hn, h.file _ hr]
  rfl
 unfold dF ca
 rw [hc]
theorem o0 {D D' : Dk} {M : Rd} {R : an} {mx : bf} (h : mz D M) (hD : dX R D mx) {aq : List Int} {flip : Int} (h1 : D'.room = D.room) (h2 : D'.off = false) (h3 : D'.armed = false) (h4 : ∀ m, aI D'.fs m = ((bH m (dF D aq flip)).getD ⟨[], 0⟩).cX) : mz D' (bV M aq flip) := by
 refine ⟨by rw [h1]; exact h.room, h2.symm, .inr ⟨h3, by show (-1 : Int) < 0; decide, by show (-2 : Int) ≤ -1; decide⟩, by unfold bV; simp, by unfold bV; simp, fun i hi => ?_⟩
 rw [h4, vQ h hD]
 unfold bV
 simp only
 rw [cO _ hi, cO _ hi]
 rfl
theorem yd (R : an) (d bm : Nat) (D : Dk) (mx : bf) (n : Int) : Spec Tryz.prog false 9 #[Ptr d 0, I n] (bu d bm D mx R) fun v O' => O' = bu d bm (ng D n) mx R := by
 refine Spec.enter (args := [_, _]) (m := 18) Tryz.func9 rfl rfl (by decide +kernel) fun h0 => ?_
 refine WX.seq (WX.region rfl (zm rfl (zn rfl ?_)))
 first | refine ae.fieldAddr Met.none rfl Tryz.underlying62 rfl dm rfl ?_ | refine ae.bQ Met.none rfl Tryz.underlying62 rfl dm ?_
 first | refine ae.ld Met.none rfl cV ?_ | refine ae.ba Met.none rfl cV ?_
 refine ae.not Met.none rfl (ae.nil (Fin.aa ?_))
 refine WX.cond rfl (fun hc0 => ?_) (fun hc0 => ?_)
 · try simp only [aB] at hc0
   refine WX.region rfl (zm rfl (zm rfl (zm rfl (zb rfl rfl rfl (zm rfl (zn rfl ?_))))))
   first | refine ae.fieldAddr Met.none rfl Tryz.underlying62 rfl dm rfl ?_ | refine ae.bQ Met.none rfl Tryz.underlying62 rfl dm ?_
   refine ae.st (vs := [_]) (j := 0) Met.none rfl rfl rfl dm ?_ (hj := rfl)
   refine zn rfl ?_
   first | refine ae.fieldAddr Met.none rfl Tryz.underlying62 rfl cj rfl ?_ | refine ae.bQ Met.none rfl Tryz.underlying62 rfl cj ?_
   refine ae.st (vs := [_]) (j := 0) Met.none rfl rfl rfl cj ?_ (hj := rfl)
   refine ae.nil ?_
   first
   | exact Fin.result (O' := bu d bm { D with armed := decide (0 ≤ n), left := n } mx R) (.inl rfl) rfl rfl au (by unfold ng; rw [if_neg (by simp [hc0])])
   | exact Fin.result (O' := bu d bm D mx R) (.inl rfl) rfl rfl au (by unfold ng; rw [if_pos hc0])
 · try simp only [aB] at hc0
   refine WX.skip ?_
   first
   | exact Fin.result (O' := bu d bm { D with armed := decide (0 ≤ n), left := n } mx R) (.inl rfl) rfl rfl au (by unfold ng; rw [if_neg (by simp [hc0])])
   | exact Fin.result (O' := bu d bm D mx R) (.inl rfl) rfl rfl au (by unfold ng; rw [if_pos hc0])
theorem dX.arm {R : an} {D : Dk} {mx : bf} (h : dX R D mx) {n : Int} (hn : n < 9223372036854775808) : dX R (ng D n) mx := by
 unfold ng
 split
 · exact h
 · exact ⟨h.di, h.ok, h.room, (fun q => ⟨by simpa using q, hn⟩), h.used⟩
theorem dX.new {room : Int} (h : 0 ≤ room ∧ room ≤ 16777216) : dX [] ⟨room, false, false, 0, []⟩ .new := ⟨.new, (fun e he => by simp at he), h, (fun q => by cases q), h.1⟩
theorem oZ (p k : Nat) : ∀ (l : List (Int × Fi)) (m : Int), (bH m (fU p k l) = none ∧ bH m l = none) ∨ ∃ f f', bH m l = some f ∧ bH m (fU p k l) = some f' ∧ f'.d = f.d ∧ f'.bs.length = f.bs.length ∧ f'.bs.take f.d.toNat = f.bs.take f.d.toNat
 | [], m => .inl ⟨rfl, rfl⟩
 | (n, f) :: l, m => by
  unfold fU
  by_cases hp : p < bp f
  · rw [if_pos hp]
    simp only [bH]
    by_cases hm : m = n
    · rw [if_pos hm, if_pos hm]
      refine .inr ⟨_, _, rfl, rfl, rfl, List.length_set, ?_⟩
      simp only
      rw [List.take_set_of_le (by omega)]
    · rw [if_neg hm, if_neg hm]
      rcases (show bH m l = none ∨ ∃ f, bH m l = some f from by cases bH m l <;> simp) with h | ⟨g, h⟩
      · exact .inl ⟨h, h⟩
      · exact .inr ⟨g, g, h, h, rfl, rfl, rfl⟩
  · rw [if_neg hp]
    simp only [bH]
    by_cases hm : m = n
    · rw [if_pos hm, if_pos hm]
      exact .inr ⟨_, _, rfl, rfl, rfl, rfl, rfl⟩
    · rw [if_neg hm, if_neg hm]
      exact oZ (p - bp f) k l m
abbrev aW (r rb rf : Nat) (M : Rd) (vs : List Value) (R : an) : an := (r, ⟨0, false, [I M.room, Row rb 0 64 64, Row rf 0 64 64, .bool M.off, I M.cB]⟩) :: (rb, ⟨1, false, vs⟩) :: (rf, ⟨1, false, M.F.map I⟩) :: R
def lO (R : an) (v : Value) (x : List Int) : Prop := ∃ a c, v = .slice a x.length c ∧ bK R 1 a x.length (x.map B8) ∧ (a = none → c = 0) ∧ Bytes x
structure fJ (R : an) (M : Rd) (vs : List Value) : Prop where
 ik : vs.length = 64
 gL : M.B.length = 64
 eD : M.F.length = 64
 file : ∀ n, n < 64 → lO R (nth vs n) (nth M.B n)
 room : 0 ≤ M.room ∧ M.room ≤ 16777216
 used : fC M ≤ M.room
 cB : -2 ≤ M.cB ∧ M.cB < 9223372036854775808
 jX : ∀ n, n < 64 → 0 ≤ nth M.F n ∧ nth M.F n ≤ ((nth M.B n).length : Nat)
theorem ni {g : Nat → Int} (h : ∀ i, 0 ≤ g i) : ∀ n, 0 ≤ fj g n
 | 0 => Int.le_refl _
 | n + 1 => by
  have := ni h n
  have := h n
  unfold fj
  omega
theorem kj {g : Nat → Int} (h : ∀ i, 0 ≤ g i) : ∀ {n i : Nat}, i ≤ n → fj g i ≤ fj g n
 | 0, i, hi => by
  have : i = 0 := by omega
  subst this
  exact Int.le_refl _
 | n + 1, i, hi => by
  by_cases q : i = n + 1
  · subst q; exact Int.le_refl _
  · have h1 := kj h (n := n) (i := i) (by omega)
    have h2 := h n
    exact Int.le_trans h1 (by show fj g n ≤ fj g n + g n; omega)
theorem vM {g : Nat → Int} (h : ∀ i, 0 ≤ g i) {n i : Nat} (hi : i < n) : g i ≤ fj g n := by
 have h1 := kj h (n := n) (i := i + 1) hi
 have h2 := ni h i
 have h3 : fj g (i + 1) = fj g i + g i := rfl
 omega
theorem jG (M : Rd) (i : Nat) : 0 ≤ bS M i := Int.natCast_nonneg _
theorem fJ.len {R : an} {M : Rd} {vs : List Value} (h : fJ R M vs) {n : Nat} (hn : n < 64) : (nth M.B n).length ≤ 16777216 := by
 have h1 : ((nth M.B n).length : Int) ≤ fC M := vM (jG M) hn
 have h2 := h.used
 have h3 := h.room
 omega
theorem lO.app {R N : an} {v : Value} {x : List Int} (h : lO R v x) : lO (N ++ R) v x := by
 obtain ⟨a, c, h1, h2, h3⟩ := h
 exact ⟨a, c, h1, h2.app, h3⟩
theorem fJ.app {R N : an} {M : Rd} {vs : List Value} (h : fJ R M vs) : fJ (N ++ R) M vs := ⟨h.ik, h.gL, h.eD, fun n hn => (h.file n hn).app, h.room, h.used, h.cB, h.jX⟩
theorem vU (R : an) {R0 : an} (r rb rf : Nat) (M : Rd) (vs : List Value) (h : fJ R0 M vs) : Spec Tryz.prog true 52 #[Ptr r 0] (aW r rb rf M vs R) fun v O' => v = I (fC M) ∧ O' = aW r rb rf M vs R := by
 refine Spec.enter (args := [_]) (m := 20) Tryz.func52 rfl rfl (by decide +kernel) fun h0 => ?_
 refine WX.seq (WX.region rfl (za rfl (zR rfl (za rfl (ae.nil (Fin.aa (WX.seq (WX.seq (WX.region rfl (za rfl (ae.nil (Fin.aa (WX.block ?_)))))))))))))
 refine WX.loop (fun i : Nat => [(0, Ptr r 0), (3, I (fj (bS M) i)), (4, I (i : Int))]) (fun _ => aW r rb rf M vs R) (fun i => i ≤ 64) (fun i => 64 - i) 0 (by decide) (fun s hs => hs.tl [] 0) (fun i hi => ?_)
 refine WX.seq (WX.seq (WX.region rfl (zm rfl (zb rfl rfl rfl (ae.nil (Fin.aa ?_))))))
 refine WX.cond rfl (fun hc0 => ?_) (fun hc0 => ?_)
 · try simp only [aB] at hc0
   refine WX.skip (Fin.aa (WX.seq (WX.block ?_)))
   have hi64 : i < 64 := by omega
   obtain ⟨a, c, ev, _⟩ := h.file i hi64
   have hv : vs[i]? = some (.slice a (nth M.B i).length c) := by rw [← ev]; exact dq (by rw [h.ik]; exact hi64)
   have hs1 := kj (jG M) (n := 64) (i := i + 1) (by omega)
   have hs2 := ni (jG M) i
   have hs3 : fj (bS M) (i + 1) = fj (bS M) i + ((nth M.B i).length : Nat) := rfl
   have hu := h.used
   have hr := h.room
   unfold fC at hu
   refine WX.region rfl (zm rfl (zm rfl (zn rfl ?_)))
   first | refine ae.fieldAddr Met.none rfl Tryz.underlying50 rfl cH rfl ?_ | refine ae.bQ Met.none rfl Tryz.underlying50 rfl cH ?_
   first | refine ae.ld Met.none rfl bJ ?_ | refine ae.ba Met.none rfl bJ ?_
   refine zm rfl ?_
   first | refine ae.ix Met.none rfl rfl aR aO ?_ | refine ae.eH Met.none rfl rfl aR aO ?_
   first | refine ae.ld Met.none rfl aD ?_ (hv := hv) | refine ae.ba Met.none rfl aD ?_ (hv := hv)
   refine ae.len Met.none rfl Tryz.underlying39 (zb rfl rfl dH (za rfl (ae.nil (Fin.ag (Fin.aa (WX.region rfl (zm rfl (zb rfl rfl dH (za rfl (ae.nil ?_))))))))))
   exact Fin.aj (i + 1) (by omega) (by omega) (fun s hs => by rw [hs3]; exact hs.tl [] 0)
 · try simp only [aB] at hc0
   refine WX.exit (Fin.aF (Fin.aN (Fin.aK rfl (Fin.aa (WX.seq ?_)))))
   have hie : i = 64 := by omega
   rw [hie]
   refine WX.region rfl (zm rfl (za rfl (ae.nil (Fin.aa (WX.ret ?_)))))
   exact Fin.result (.inr rfl) rfl rfl au ⟨rfl, rfl⟩
theorem uh (R : an) {R0 : an} (r rb rf : Nat) (M : Rd) (vs : List Value) (h : fJ R0 M vs) : Spec Tryz.prog false 65 #[Ptr r 0] (aW r rb rf M vs R) fun v O' => v = .bool (ew M).off ∧ O' = aW r rb rf (ew M) vs R := by
 have hp := h.cB
 refine Spec.enter (args := [_]) (m := 24) Tryz.func65 rfl rfl (by decide +kernel) fun h0 => ?_
 refine WX.seq (WX.region rfl (za rfl (zR rfl (zm rfl (zm rfl (zn rfl ?_))))))
 first | refine ae.fieldAddr Met.none rfl Tryz.underlying50 rfl cj rfl ?_ | refine ae.bQ Met.none rfl Tryz.underlying50 rfl cj ?_
 first | refine ae.ld Met.none rfl bY ?_ | refine ae.ba Met.none rfl bY ?_
 refine zb rfl rfl nj ?_
 refine ae.max Met.none rfl rfl ?_
 refine zn rfl ?_
 first | refine ae.fieldAddr Met.none rfl Tryz.underlying50 rfl cj rfl ?_ | refine ae.bQ Met.none rfl Tryz.underlying50 rfl cj ?_
 refine ae.st (vs := [_]) (j := 0) Met.none rfl rfl rfl cj ?_ (hj := rfl)
 refine ae.nil (Fin.aa (WX.seq (WX.seq (WX.region rfl (zm rfl (zn rfl ?_))))))
 first | refine ae.fieldAddr Met.none rfl Tryz.underlying50 rfl cj rfl ?_ | refine ae.bQ Met.none rfl Tryz.underlying50 rfl cj ?_
 first | refine ae.ld Met.none rfl bY ?_ | refine ae.ba Met.none rfl bY ?_
 refine zb rfl rfl rfl (ae.nil (Fin.aa ?_))
 refine WX.cond rfl (fun hc0 => ?_) (fun hc0 => ?_)
 · try simp only [aB] at hc0
   refine WX.region rfl (zm rfl (zn rfl ?_))
   first | refine ae.fieldAddr Met.none rfl Tryz.underlying50 rfl dm rfl ?_ | refine ae.bQ Met.none rfl Tryz.underlying50 rfl dm ?_
   refine ae.st (vs := [_]) (j := 0) Met.none rfl rfl rfl dm ?_ (hj := rfl)
   refine zR rfl (zm rfl (zn rfl ?_))
   first | refine ae.fieldAddr Met.none rfl Tryz.underlying50 rfl dm rfl ?_ | refine ae.bQ Met.none rfl Tryz.underlying50 rfl dm ?_
   first | refine ae.ld Met.none rfl cV ?_ | refine ae.ba Met.none rfl cV ?_
   refine za rfl (ae.nil (Fin.aa (WX.ret ?_)))
   first
   | exact Fin.result (O' := aW r rb rf ⟨M.room, M.B, M.F, true, max (M.cB - 1) (-2)⟩ vs R) (.inr rfl) rfl rfl au (by
     have he : ew M = ⟨M.room, M.B, M.F, true, max (M.cB - 1) (-2)⟩ := by unfold ew; rw [decide_eq_true hc0, Bool.or_true]
     rw [he]
     exact ⟨rfl, rfl⟩)
   | exact Fin.result (O' := aW r rb rf ⟨M.room, M.B, M.F, M.off, max (M.cB - 1) (-2)⟩ vs R) (.inr rfl) rfl rfl au (by
     have he : ew M = ⟨M.room, M.B, M.F, M.off, max (M.cB - 1) (-2)⟩ := by unfold ew; rw [decide_eq_false hc0, Bool.or_false]
     rw [he]
     exact ⟨rfl, rfl⟩)
 · try simp only [aB] at hc0
   refine WX.skip (Fin.aa (WX.seq (WX.region rfl (zm rfl (zn rfl ?_)))))
   first | refine ae.fieldAddr Met.none rfl Tryz.underlying50 rfl dm rfl ?_ | refine ae.bQ Met.none rfl Tryz.underlying50 rfl dm ?_
   first | refine ae.ld Met.none rfl cV ?_ | refine ae.ba Met.none rfl cV ?_
   refine za rfl (ae.nil (Fin.aa (WX.ret ?_)))
   first
   | exact Fin.result (O' := aW r rb rf ⟨M.room, M.B, M.F, true, max (M.cB - 1) (-2)⟩ vs R) (.inr rfl) rfl rfl au (by
     have he : ew M = ⟨M.room, M.B, M.F, true, max (M.cB - 1) (-2)⟩ := by unfold ew; rw [decide_eq_true hc0, Bool.or_true]
     rw [he]
     exact ⟨rfl, rfl⟩)
   | exact Fin.result (O' := aW r rb rf ⟨M.room, M.B, M.F, M.off, max (M.cB - 1) (-2)⟩ vs R) (.inr rfl) rfl rfl au (by
     have he : ew M = ⟨M.room, M.B, M.F, M.off, max (M.cB - 1) (-2)⟩ := by unfold ew; rw [decide_eq_false hc0, Bool.or_false]
     rw [he]
     exact ⟨rfl, rfl⟩)
theorem oz (R : an) {R0 : an} (r rb rf : Nat) (M : Rd) (vs : List Value) (h : fJ R0 M vs) : Spec Tryz.prog false 47 #[Ptr r 0] (aW r rb rf M vs R) fun v O' => v = .bool (cg M).1 ∧ O' = aW r rb rf (cg M).2 vs R := by
 refine Spec.enter (args := [_]) (m := 10) Tryz.func47 rfl rfl (by decide +kernel) fun h0 => ?_
 refine WX.seq (WX.region rfl (za rfl (ae.nil (Fin.aa (WX.seq (WX.seq (WX.region rfl (zm rfl (zn rfl ?_)))))))))
 first | refine ae.fieldAddr Met.none rfl Tryz.underlying50 rfl cj rfl ?_ | refine ae.bQ Met.none rfl Tryz.underlying50 rfl cj ?_
 first | refine ae.ld Met.none rfl bY ?_ | refine ae.ba Met.none rfl bY ?_
 refine zb rfl rfl rfl (ae.nil (Fin.aa ?_))
 refine WX.cond rfl (fun hc0 => ?_) (fun hc0 => ?_)
 · try simp only [aB] at hc0
   refine WX.seq (WX.region rfl (za rfl (ae.nil (Fin.aa (WX.ret (Fin.az ?_))))))
   first
   | exact Fin.result (O' := aW r rb rf M vs R) (.inr rfl) rfl rfl au (by unfold cg; rw [if_pos hc0]; exact ⟨rfl, rfl⟩)
   | exact Fin.result (O' := aW r rb rf (ew M) vs R) (.inr rfl) rfl rfl au (by unfold cg; rw [if_neg (by omega)]; exact ⟨rfl, rfl⟩)
 · try simp only [aB] at hc0
   refine WX.skip (Fin.aa (WX.seq (WX.region rfl (zm rfl ?_))))
   refine ae.cl (O1 := _) Met.none rfl (ah Tryz.func65 (by decide +kernel)) rfl (fun _ h => h) (uh R r rb rf M vs h) (fun v O' hp => ?_)
   obtain ⟨rfl, hO⟩ := hp
   subst O'
   refine za rfl (ae.nil (Fin.aa (WX.ret ?_)))
   first
   | exact Fin.result (O' := aW r rb rf M vs R) (.inr rfl) rfl rfl au (by unfold cg; rw [if_pos hc0]; exact ⟨rfl, rfl⟩)
   | exact Fin.result (O' := aW r rb rf (ew M) vs R) (.inr rfl) rfl rfl au (by unfold cg; rw [if_neg (by omega)]; exact ⟨rfl, rfl⟩)
theorem oA (M : Rd) : (cg M).2.B = M.B ∧ (cg M).2.F = M.F ∧ (cg M).2.room = M.room := by
 unfold cg
 split <;> exact ⟨rfl, rfl, rfl⟩
theorem fJ.step {R : an} {M : Rd} {vs : List Value} (h : fJ R M vs) : fJ R (cg M).2 vs := by
 obtain ⟨h1, h2, h3⟩ := oA M
 refine ⟨h.ik, by rw [h1]; exact h.gL, by rw [h2]; exact h.eD, fun n hn => by rw [h1]; exact h.file n hn, by rw [h3]; exact h.room, ?_, ?_, fun n hn => by rw [h1, h2]; exact h.jX n hn⟩
 · have : fC (cg M).2 = fC M := by unfold fC bS; rw [h1]
   rw [this, h3]
   exact h.used
 · have := h.cB
   unfold cg ew
   split
   · exact this
   · simp only; omega
theorem wT (R : an) (r rb rf : Nat) (M : Rd) (vs : List Value) (n : Int) : Spec Tryz.prog false 10 #[Ptr r 0, I n] (aW r rb rf M vs R) fun v O' => O' = aW r rb rf (oP M n) vs R := by
 refine Spec.enter (args := [_, _]) (m := 14) Tryz.func10 rfl rfl (by decide +kernel) fun h0 => ?_
 refine WX.seq (WX.region rfl (zm rfl (zn rfl ?_)))
 first | refine ae.fieldAddr Met.none rfl Tryz.underlying50 rfl dm rfl ?_ | refine ae.bQ Met.none rfl Tryz.underlying50 rfl dm ?_
 first | refine ae.ld Met.none rfl cV ?_ | refine ae.ba Met.none rfl cV ?_
 refine ae.not Met.none rfl (ae.nil (Fin.aa ?_))
 refine WX.cond rfl (fun hc0 => ?_) (fun hc0 => ?_)
 · try simp only [aB] at hc0
   refine WX.region rfl (zm rfl (zm rfl ?_))
   refine ae.max Met.none rfl rfl ?_
   refine zn rfl ?_
   first | refine ae.fieldAddr Met.none rfl Tryz.underlying50 rfl cj rfl ?_ | refine ae.bQ Met.none rfl Tryz.underlying50 rfl cj ?_
   refine ae.st (vs := [_]) (j := 0) Met.none rfl rfl rfl cj ?_ (hj := rfl)
   refine ae.nil ?_
   first
   | exact Fin.result (O' := aW r rb rf { M with cB := max n (-1) } vs R) (.inl rfl) rfl rfl au (by unfold oP; rw [if_neg (by simp [hc0])])
   | exact Fin.result (O' := aW r rb rf M vs R) (.inl rfl) rfl rfl au (by unfold oP; rw [if_pos hc0])
 · try simp only [aB] at hc0
   refine WX.skip ?_
   first
   | exact Fin.result (O' := aW r rb rf { M with cB := max n (-1) } vs R) (.inl rfl) rfl rfl au (by unfold oP; rw [if_neg (by simp [hc0])])
   | exact Fin.result (O' := aW r rb rf M vs R) (.inl rfl) rfl rfl au (by unfold oP; rw [if_pos hc0])
theorem fJ.arm {R : an} {M : Rd} {vs : List Value} (h : fJ R M vs) {n : Int} (hn : n < 9223372036854775808) : fJ R (oP M n) vs := by
 unfold oP
 split
 · exact h
 · exact ⟨h.ik, h.gL, h.eD, h.file, h.room, h.used, ⟨by show -2 ≤ max n (-1); omega, by show max n (-1) < _; omega⟩, h.jX⟩
theorem jA {c : List Value} {k : Nat} {v : Value} (h : k < c.length) : dj c k [v] = c.set k v := by
 have := gh (fun x : Value => x) c k v h
 rw [List.map_id'', List.map_id''] at this
 · exact this
 · exact fun _ => rfl
 · exact fun _ => rfl
def iO (room : Int) : Rd := ⟨room, List.replicate 64 [], List.replicate 64 0, false, -1⟩
def wR : List Value := List.replicate 64 (.slice none 0 0)
theorem dT {α : Type} [Inhabited α] {a : α} {n i : Nat} (h : i < n) : nth (List.replicate n a) i = a := by
 rw [dx (by rw [List.length_replicate]; exact h), List.getElem_replicate]
theorem fJ.new {room : Int} (h : 0 ≤ room ∧ room ≤ 16777216) : fJ [] (iO room) wR := by
 refine ⟨by unfold wR; simp, by unfold iO; simp, by unfold iO; simp, fun n hn => ?_, h, ?_, ⟨by show (-2 : Int) ≤ -1; decide, by show (-1 : Int) < _; decide⟩, fun n hn => ?_⟩
 · unfold wR iO
   simp only
   rw [dT hn, dT hn]
   exact ⟨none, 0, rfl, .inl ⟨rfl, rfl, rfl⟩, fun _ => rfl, fun x hx => by simp at hx⟩
 · have : fC (iO room) = fj (fun _ => 0) 64 := gb fun i hi => by
     unfold bS iO
     simp only
     rw [dT hi]
     rfl
   rw [this]
   exact h.1
 · unfold iO
   simp only
   rw [dT hn, dT hn]
   exact ⟨Int.le_refl _, Int.le_refl _⟩
theorem wv (O : an) (room : Int) : Spec Tryz.prog false 6 #[I room] O fun v O' => ∃ r rb rf, v = Ptr r 0 ∧ O' = aW r rb rf (iO room) wR O := by
 refine Spec.enter (args := [_]) (m := 8) Tryz.func6 rfl rfl (by decide +kernel) fun h0 => ?_
 refine WX.seq (WX.region rfl (za rfl (ae.nil (Fin.aa (WX.seq ?_)))))
 refine WX.draw rfl ?_
 refine zm rfl ?_
 refine ae.makeSlice Met.none rfl rfl aR aO wJ ki (by omega) (by omega) (by omega) rfl (by decide) (by first | rw [Int.toNat_natCast] | exact rfl) (rF _ _) (fun b4 => ?_)
 refine ae.makeSlice Met.none rfl rfl bh cj yv ij (by omega) (by omega) (by omega) rfl (by decide) (by first | rw [Int.toNat_natCast] | exact rfl) (by first | exact oH I 0 _ | exact oH Value.bool false _ | exact rfl) (fun b5 => ?_)
 refine ae.build (c := [_, _, _, _, _]) Met.none rfl xM vB rfl ?_
 refine ae.box (c := [_, _, _, _, _]) Met.none rfl rfl rfl (fun b7 => ?_)
 refine za rfl (ae.nil (Fin.aa (WX.ret ?_)))
 exact Fin.result (O' := aW b7 b4 b5 (iO room) wR O) (.inr rfl) rfl rfl (fun _ hs => hs.tl [0, 2, 1] 3) ⟨b7, b4, b5, rfl, rfl⟩
theorem uJ {M : Rd} {k : Nat} (hk : k < 64) (hl : M.B.length = 64) (x : List Int) (F : List Int) (off : Bool) (p : Int) : fC ⟨M.room, M.B.set k x, F, off, p⟩ = fC M + (x.length : Nat) - bS M k := by
 have : fC ⟨M.room, M.B.set k x, F, off, p⟩ = fj (fun i => if i = k then ((x.length : Nat) : Int) else bS M i) 64 := gb fun i hi => by
  show (((nth (M.B.set k x) i).length : Nat) : Int) = _
  rw [bZ (by rw [hl]; exact hk)]
  split <;> rfl
 rw [this, nN, if_pos hk]
 unfold fC
 omega
theorem fJ.set {R : an} {M : Rd} {vs : List Value} (h : fJ R M vs) {k : Nat} (hk : k < 64) {v : Value} {x : List Int} {F : List Int} {off : Bool} {p : Int} (hv : lO R v x) (hu : fC M + (x.length : Nat) - bS M k ≤ M.room) (hF : F.length = 64) (hp : -2 ≤ p ∧ p < 9223372036854775808)
  (hf : ∀ n, n < 64 → 0 ≤ nth F n ∧ nth F n ≤ ((nth (M.B.set k x) n).length : Nat)) : fJ R ⟨M.room, M.B.set k x, F, off, p⟩ (vs.set k v) := by
 refine ⟨by rw [List.length_set]; exact h.ik, by simp only [List.length_set]; exact h.gL, hF, fun n hn => ?_, h.room, by rw [uJ hk h.gL]; exact hu, hp, hf⟩
 simp only
 rw [bZ (by rw [h.ik]; exact hk), bZ (by rw [h.gL]; exact hk)]
 split
 · exact hv
 · exact h.file n hn
theorem sj (R : an) {R0 : an} (r rb rf : Nat) (M : Rd) (vs : List Value) (file : Int) (b : List Int) (ab : Option Addr) (cb : Nat) (h : fJ R0 M vs) (hi : ∀ g, Sat g R → Sat g R0) (hb : Src R 1 (.slice ab b.length cb) b.length (b.map B8)) (hBb : Bytes b) (hbl : b.length ≤ 4611686018427387904) :
  Spec Tryz.prog false 37 #[Ptr r 0, I file, .slice ab b.length cb] (aW r rb rf M vs R) fun v O' => ∃ vs' N, v = I (aE M file b).1 ∧ O' = aW r rb rf (aE M file b).2 vs' (N ++ R) ∧ fJ (N ++ R0) (aE M file b).2 vs' := by
 have hu := h.used
 have hr := h.room
 have hun := ni (jG M) 64
 have hun : 0 ≤ fC M := hun
 refine Spec.enter (args := [_, _, _]) (m := 50) Tryz.func37 rfl rfl (by decide +kernel) fun h0 => ?_
 refine WX.seq (WX.region rfl (za rfl (ae.nil (Fin.aa (WX.seq (WX.seq (WX.region rfl (zm rfl (zb rfl rfl rfl (zm rfl ?_))))))))))
 refine ae.split (d := 11) rfl (fun hg11 => ?_) (fun hg11 => ?_)
 · try simp only [aB] at hg11
   refine zs 2 11 rfl rfl rfl (zs 2 11 rfl rfl rfl (ae.bC Met.none rfl rfl (ae.nil (Fin.aa ?_))))
   refine WX.cond rfl (fun hc0 => ?_) (fun hc0 => nomatch hc0)
   refine WX.seq (WX.region rfl (za rfl (ae.nil (Fin.aa (WX.ret (Fin.az ?_))))))
   first
   | exact Fin.result (O' := aW r rb rf M vs ([] ++ R)) (.inr rfl) rfl rfl au (by unfold aE; rw [if_pos (by omega)]; exact ⟨vs, [], rfl, rfl, h⟩)
   | exact Fin.result (O' := aW r rb rf M vs ([] ++ R)) (.inr rfl) rfl rfl au (by unfold aE; rw [if_neg (by omega), if_pos (by assumption)]; exact ⟨vs, [], rfl, rfl, h⟩)
   | exact Fin.result (O' := aW r rb rf M vs ([] ++ R)) (.inr rfl) rfl rfl au (by unfold aE; rw [if_neg (by omega), if_neg (by simp [hc1]), if_pos (by omega)]; exact ⟨vs, [], rfl, rfl, h⟩)
   | exact Fin.result (O' := aW r rb rf (cg (cT M file b)).2 _ (G45 ++ R)) (.inr rfl) rfl rfl au (by unfold aE; rw [if_neg (by omega), if_neg (by simp [hc1]), if_neg (by omega), if_pos hc3]; exact ⟨_, G45, rfl, rfl, hI.step⟩)
   | exact Fin.result (O' := aW r rb rf (cg (cT M file b)).2 _ (G45 ++ R)) (.inr rfl) rfl rfl au (by unfold aE; rw [if_neg (by omega), if_neg (by simp [hc1]), if_neg (by omega), if_neg (by simp [hc3])]; exact ⟨_, G45, rfl, rfl, hI.step⟩)
 · try simp only [aB] at hg11
   refine ae.move (Met.some rfl rfl rfl) rfl (ae.bin (Met.some rfl rfl rfl) rfl rfl rfl (ae.bd Met.none rfl rfl (ae.nil (Fin.aa ?_))))
   refine WX.cond rfl (fun hc0 => ?_) (fun hc0 => ?_)
   · try simp only [aB] at hc0
     refine WX.seq (WX.region rfl (za rfl (ae.nil (Fin.aa (WX.ret (Fin.az ?_))))))
     first
     | exact Fin.result (O' := aW r rb rf M vs ([] ++ R)) (.inr rfl) rfl rfl au (by unfold aE; rw [if_pos (by omega)]; exact ⟨vs, [], rfl, rfl, h⟩)
     | exact Fin.result (O' := aW r rb rf M vs ([] ++ R)) (.inr rfl) rfl rfl au (by unfold aE; rw [if_neg (by omega), if_pos (by assumption)]; exact ⟨vs, [], rfl, rfl, h⟩)
     | exact Fin.result (O' := aW r rb rf M vs ([] ++ R)) (.inr rfl) rfl rfl au (by unfold aE; rw [if_neg (by omega), if_neg (by simp [hc1]), if_pos (by omega)]; exact ⟨vs, [], rfl, rfl, h⟩)
     | exact Fin.result (O' := aW r rb rf (cg (cT M file b)).2 _ (G45 ++ R)) (.inr rfl) rfl rfl au (by unfold aE; rw [if_neg (by omega), if_neg (by simp [hc1]), if_neg (by omega), if_pos hc3]; exact ⟨_, G45, rfl, rfl, hI.step⟩)
     | exact Fin.result (O' := aW r rb rf (cg (cT M file b)).2 _ (G45 ++ R)) (.inr rfl) rfl rfl au (by unfold aE; rw [if_neg (by omega), if_neg (by simp [hc1]), if_neg (by omega), if_neg (by simp [hc3])]; exact ⟨_, G45, rfl, rfl, hI.step⟩)
   · try simp only [aB] at hc0
     refine WX.skip (Fin.aa (WX.seq (WX.seq (WX.region rfl (zm rfl (zn rfl ?_))))))
     first | refine ae.fieldAddr Met.none rfl Tryz.underlying50 rfl dm rfl ?_ | refine ae.bQ Met.none rfl Tryz.underlying50 rfl dm ?_
     first | refine ae.ld Met.none rfl cV ?_ | refine ae.ba Met.none rfl cV ?_
     refine ae.nil (Fin.aa ?_)
     refine WX.cond rfl (fun hc1 => ?_) (fun hc1 => ?_)
     · try simp only [aB] at hc1
       refine WX.seq (WX.region rfl (za rfl (ae.nil (Fin.aa (WX.ret (Fin.az ?_))))))
       first
       | exact Fin.result (O' := aW r rb rf M vs ([] ++ R)) (.inr rfl) rfl rfl au (by unfold aE; rw [if_pos (by omega)]; exact ⟨vs, [], rfl, rfl, h⟩)
       | exact Fin.result (O' := aW r rb rf M vs ([] ++ R)) (.inr rfl) rfl rfl au (by unfold aE; rw [if_neg (by omega), if_pos (by assumption)]; exact ⟨vs, [], rfl, rfl, h⟩)
       | exact Fin.result (O' := aW r rb rf M vs ([] ++ R)) (.inr rfl) rfl rfl au (by unfold aE; rw [if_neg (by omega), if_neg (by simp [hc1]), if_pos (by omega)]; exact ⟨vs, [], rfl, rfl, h⟩)
       | exact Fin.result (O' := aW r rb rf (cg (cT M file b)).2 _ (G45 ++ R)) (.inr rfl) rfl rfl au (by unfold aE; rw [if_neg (by omega), if_neg (by simp [hc1]), if_neg (by omega), if_pos hc3]; exact ⟨_, G45, rfl, rfl, hI.step⟩)
       | exact Fin.result (O' := aW r rb rf (cg (cT M file b)).2 _ (G45 ++ R)) (.inr rfl) rfl rfl au (by unfold aE; rw [if_neg (by omega), if_neg (by simp [hc1]), if_neg (by omega), if_neg (by simp [hc3])]; exact ⟨_, G45, rfl, rfl, hI.step⟩)
     · try simp only [aB] at hc1
       refine WX.skip (Fin.aa (WX.seq (WX.seq ?_)))
       refine WX.draw rfl ?_
       refine zm rfl ?_
       refine ae.cl (O1 := _) Met.none rfl (ah Tryz.func52 (by decide +kernel)) rfl (fun _ h => h) (vU R r rb rf M vs h) (fun v O' hp => ?_)
       obtain ⟨rfl, hO⟩ := hp
       subst O'
       refine zm rfl (ae.len Met.none rfl Tryz.underlying39 (zb rfl rfl dH (zm rfl (zn rfl ?_))))
       first | refine ae.fieldAddr Met.none rfl Tryz.underlying50 rfl cj rfl ?_ | refine ae.bQ Met.none rfl Tryz.underlying50 rfl cj ?_
       first | refine ae.ld Met.none rfl bY ?_ | refine ae.ba Met.none rfl bY ?_
       refine zb rfl rfl rfl (ae.nil (Fin.aa ?_))
       refine WX.cond rfl (fun hc2 => ?_) (fun hc2 => ?_)
       · try simp only [aB] at hc2
         refine WX.seq (WX.region rfl (za rfl (ae.nil (Fin.aa (WX.ret (Fin.az ?_))))))
         first
         | exact Fin.result (O' := aW r rb rf M vs ([] ++ R)) (.inr rfl) rfl rfl au (by unfold aE; rw [if_pos (by omega)]; exact ⟨vs, [], rfl, rfl, h⟩)
         | exact Fin.result (O' := aW r rb rf M vs ([] ++ R)) (.inr rfl) rfl rfl au (by unfold aE; rw [if_neg (by omega), if_pos (by assumption)]; exact ⟨vs, [], rfl, rfl, h⟩)
         | exact Fin.result (O' := aW r rb rf M vs ([] ++ R)) (.inr rfl) rfl rfl au (by unfold aE; rw [if_neg (by omega), if_neg (by simp [hc1]), if_pos (by omega)]; exact ⟨vs, [], rfl, rfl, h⟩)
         | exact Fin.result (O' := aW r rb rf (cg (cT M file b)).2 _ (G45 ++ R)) (.inr rfl) rfl rfl au (by unfold aE; rw [if_neg (by omega), if_neg (by simp [hc1]), if_neg (by omega), if_pos hc3]; exact ⟨_, G45, rfl, rfl, hI.step⟩)
         | exact Fin.result (O' := aW r rb rf (cg (cT M file b)).2 _ (G45 ++ R)) (.inr rfl) rfl rfl au (by unfold aE; rw [if_neg (by omega), if_neg (by simp [hc1]), if_neg (by omega), if_neg (by simp [hc3])]; exact ⟨_, G45, rfl, rfl, hI.step⟩)
       · try simp only [aB] at hc2
         refine WX.skip (Fin.aa (WX.seq (WX.region rfl (za rfl (ae.nil (Fin.aa (WX.seq ?_)))))))
         have hk : file.toNat < 64 := by omega
         obtain ⟨fa, fc, hfv, hrow0, hnil, hB⟩ := h.file _ hk
         have hrow := hrow0.inc hi
         have hfl := h.len hk
         have hv : vs[file.toNat]? = some (.slice fa (nth M.B file.toNat).length fc) := by rw [← hfv]; exact dq (by rw [h.ik]; exact hk)
         refine WX.region rfl (zm rfl (zm rfl (zn rfl ?_)))
         first | refine ae.fieldAddr Met.none rfl Tryz.underlying50 rfl cH rfl ?_ | refine ae.bQ Met.none rfl Tryz.underlying50 rfl cH ?_
         first | refine ae.ld Met.none rfl bJ ?_ | refine ae.ba Met.none rfl bJ ?_
         refine zm rfl ?_
         first | refine ae.ix Met.none rfl rfl aR aO ?_ | refine ae.eH Met.none rfl rfl aR aO ?_
         first | refine ae.ld Met.none rfl aD ?_ (hv := hv) | refine ae.ba Met.none rfl aD ?_ (hv := hv)
         refine ae.mS ([]) Met.none rfl rfl dQ aQ ea qt dA (Src.cons (Src.cons (Src.cons (hrow.src hnil)))) (fun a37 c37 G37 hG37 => ?_) (hm := (by rw [List.length_map]; omega)) (hg := (Grow.nil (sz := 1)))
         refine za rfl (ae.nil (Fin.aa (WX.seq ?_)))
         refine WX.re (O' := aW r rb rf M vs (G37 ++ R)) ?_
         refine WX.draw rfl ?_
         refine zm rfl (zn rfl ?_)
         first | refine ae.fieldAddr Met.none rfl Tryz.underlying50 rfl cH rfl ?_ | refine ae.bQ Met.none rfl Tryz.underlying50 rfl cH ?_
         first | refine ae.ld Met.none rfl bJ ?_ | refine ae.ba Met.none rfl bJ ?_
         refine zm rfl (zm rfl (zm rfl ?_))
         refine ae.mS [_, _, _] Met.none rfl rfl dQ aQ ea qt dA (Src.cons (Src.cons (Src.cons (Src.app hb)))) (fun a45 c45 G45 hG45 => ?_) (hm := (by rw [List.length_map]; omega))
         first | refine ae.ix Met.none rfl rfl aR aO ?_ | refine ae.eH Met.none rfl rfl aR aO ?_
         refine ae.st (vs := [_]) (j := 1) Met.none rfl rfl rfl aO ?_ (hj := rfl) (hl := (by show file.toNat + 1 ≤ vs.length; rw [h.ik]; omega)) (hc := (jA (by rw [h.ik]; exact hk)))
         refine ae.nil (Fin.aa (WX.seq ?_))
         have hx : 0 + (nth M.B file.toNat).length + b.length = (nth M.B file.toNat ++ b).length := by rw [List.length_append]; omega
         have hvn : lO (G45 ++ R0) (.slice a45 (0 + (nth M.B file.toNat).length + b.length) c45) (nth M.B file.toNat ++ b) := by
          have h1 := hG45.oK (R := R0)
          rw [List.nil_append, ← List.map_append, hx] at h1
          rw [hx]
          exact ⟨a45, c45, rfl, h1, fun q => (hG45.eh q).1, fun y hy => by
           rcases List.mem_append.1 hy with q | q
           · exact hB y q
           · exact hBb y q⟩
         have hI : fJ (G45 ++ R0) (cT M file b) (vs.set file.toNat (.slice a45 (0 + (nth M.B file.toNat).length + b.length) c45)) := (h.app (N := G45)).set hk hvn (by unfold bS; rw [List.length_append]; omega) h.eD h.cB (fun n hn => by
          have h1 := h.jX n hn
          rw [bZ (by rw [h.gL]; exact hk)]
          split
          · rename_i q; subst q; rw [List.length_append]; omega
          · exact h1)
         refine WX.region rfl (zm rfl ?_)
         refine ae.cl (O1 := _) Met.none rfl (ah Tryz.func47 (by decide +kernel)) rfl (fun _ h => h) (oz (G45 ++ R) r rb rf (cT M file b) _ hI) (fun v O' hp => ?_)
         obtain ⟨rfl, hO⟩ := hp
         subst O'
         refine za rfl (ae.nil (Fin.aa (WX.seq (WX.seq (WX.region rfl (zm rfl (ae.nil (Fin.aa ?_))))))))
         refine WX.cond rfl (fun hc3 => ?_) (fun hc3 => ?_)
         · try simp only [aB] at hc3
           refine WX.seq (WX.region rfl (za rfl (ae.nil (Fin.aa (WX.ret (Fin.az ?_))))))
           first
           | exact Fin.result (O' := aW r rb rf M vs ([] ++ R)) (.inr rfl) rfl rfl au (by unfold aE; rw [if_pos (by omega)]; exact ⟨vs, [], rfl, rfl, h⟩)
           | exact Fin.result (O' := aW r rb rf M vs ([] ++ R)) (.inr rfl) rfl rfl au (by unfold aE; rw [if_neg (by omega), if_pos (by assumption)]; exact ⟨vs, [], rfl, rfl, h⟩)
           | exact Fin.result (O' := aW r rb rf M vs ([] ++ R)) (.inr rfl) rfl rfl au (by unfold aE; rw [if_neg (by omega), if_neg (by simp [hc1]), if_pos (by omega)]; exact ⟨vs, [], rfl, rfl, h⟩)
           | exact Fin.result (O' := aW r rb rf (cg (cT M file b)).2 _ (G45 ++ R)) (.inr rfl) rfl rfl au (by unfold aE; rw [if_neg (by omega), if_neg (by simp [hc1]), if_neg (by omega), if_pos hc3]; exact ⟨_, G45, rfl, rfl, hI.step⟩)
           | exact Fin.result (O' := aW r rb rf (cg (cT M file b)).2 _ (G45 ++ R)) (.inr rfl) rfl rfl au (by unfold aE; rw [if_neg (by omega), if_neg (by simp [hc1]), if_neg (by omega), if_neg (by simp [hc3])]; exact ⟨_, G45, rfl, rfl, hI.step⟩)
         · try simp only [aB] at hc3
           refine WX.skip (Fin.aa (WX.seq (WX.region rfl (za rfl (ae.nil (Fin.aa (WX.ret ?_)))))))
           first
           | exact Fin.result (O' := aW r rb rf M vs ([] ++ R)) (.inr rfl) rfl rfl au (by unfold aE; rw [if_pos (by omega)]; exact ⟨vs, [], rfl, rfl, h⟩)
           | exact Fin.result (O' := aW r rb rf M vs ([] ++ R)) (.inr rfl) rfl rfl au (by unfold aE; rw [if_neg (by omega), if_pos (by assumption)]; exact ⟨vs, [], rfl, rfl, h⟩)
           | exact Fin.result (O' := aW r rb rf M vs ([] ++ R)) (.inr rfl) rfl rfl au (by unfold aE; rw [if_neg (by omega), if_neg (by simp [hc1]), if_pos (by omega)]; exact ⟨vs, [], rfl, rfl, h⟩)
           | exact Fin.result (O' := aW r rb rf (cg (cT M file b)).2 _ (G45 ++ R)) (.inr rfl) rfl rfl au (by unfold aE; rw [if_neg (by omega), if_neg (by simp [hc1]), if_neg (by omega), if_pos hc3]; exact ⟨_, G45, rfl, rfl, hI.step⟩)
           | exact Fin.result (O' := aW r rb rf (cg (cT M file b)).2 _ (G45 ++ R)) (.inr rfl) rfl rfl au (by unfold aE; rw [if_neg (by omega), if_neg (by simp [hc1]), if_neg (by omega), if_neg (by simp [hc3])]; exact ⟨_, G45, rfl, rfl, hI.step⟩)
def eM (M : Rd) (i : Nat) : List Int := (List.range i).map (bS M) ++ M.F.drop i
theorem kR {M : Rd} (h : M.F.length = 64) {i : Nat} (hi : i ≤ 64) : (eM M i).length = 64 := by
 unfold eM
 rw [List.length_append, List.length_map, List.length_range, List.length_drop]
 omega
theorem kK {M : Rd} (h : M.F.length = 64) {i : Nat} (hi : i < 64) : (eM M i).set i (bS M i) = eM M (i + 1) := by
 unfold eM
 rw [List.set_append_right _ _ (by simp)]
 simp only [List.length_map, List.length_range, Nat.sub_self]
 rw [List.drop_eq_getElem_cons (by omega), List.set_cons_zero, List.range_succ, List.map_append]
 simp
theorem kB {M : Rd} (h : M.F.length = 64) : eM M 64 = (List.range 64).map (bS M) := by
 unfold eM
 rw [List.drop_of_length_le (by omega), List.append_nil]
theorem fJ.rL {R : an} {M : Rd} {vs : List Value} (h : fJ R M vs) : fJ R (l5 M) vs :=
 ⟨h.ik, h.gL, by unfold l5; simp, h.file, h.room, h.used, h.cB, fun n hn => by
  unfold l5
  simp only
  rw [cO _ hn]
  exact ⟨jG M n, Int.le_refl _⟩⟩
theorem j9 (R : an) {R0 : an} (r rb rf : Nat) (M : Rd) (vs : List Value) (h : fJ R0 M vs) : Spec Tryz.prog false 28 #[Ptr r 0] (aW r rb rf M vs R) fun v O' => v = I (bt M).1 ∧ O' = aW r rb rf (bt M).2 vs R ∧ fJ R0 (bt M).2 vs := by
 refine Spec.enter (args := [_]) (m := 30) Tryz.func28 rfl rfl (by decide +kernel) fun h0 => ?_
 refine WX.seq (WX.region rfl (za rfl (ae.nil (Fin.aa (WX.seq (WX.seq (WX.region rfl (zm rfl (zn rfl ?_)))))))))
 first | refine ae.fieldAddr Met.none rfl Tryz.underlying50 rfl dm rfl ?_ | refine ae.bQ Met.none rfl Tryz.underlying50 rfl dm ?_
 first | refine ae.ld Met.none rfl cV ?_ | refine ae.ba Met.none rfl cV ?_
 refine ae.nil (Fin.aa ?_)
 refine WX.cond rfl (fun hc0 => ?_) (fun hc0 => ?_)
 · try simp only [aB] at hc0
   refine WX.seq (WX.region rfl (za rfl (ae.nil (Fin.aa (WX.ret (Fin.az ?_))))))
   first
   | exact Fin.result (O' := aW r rb rf M vs R) (.inr rfl) rfl rfl au (by unfold bt; rw [if_pos (by assumption)]; exact ⟨rfl, rfl, h⟩)
   | exact Fin.result (O' := aW r rb rf (cg M).2 vs R) (.inr rfl) rfl rfl au (by unfold bt; rw [if_neg (by simp [hc0]), if_pos hc1]; exact ⟨rfl, rfl, h.step⟩)
   | exact Fin.result (O' := aW r rb rf (l5 M2) vs R) (.inr rfl) rfl rfl au (by unfold bt; rw [if_neg (by simp [hc0]), if_neg (by simp [hc1]), ← hM2]; exact ⟨rfl, rfl, h2.rL⟩)
 · try simp only [aB] at hc0
   refine WX.skip (Fin.aa (WX.seq (WX.region rfl (zm rfl ?_))))
   refine ae.cl (O1 := _) Met.none rfl (ah Tryz.func47 (by decide +kernel)) rfl (fun _ h => h) (oz R r rb rf M vs h) (fun v O' hp => ?_)
   obtain ⟨rfl, hO⟩ := hp
   subst O'
   refine za rfl (ae.nil (Fin.aa (WX.seq (WX.seq (WX.region rfl (zm rfl (ae.nil (Fin.aa ?_))))))))
   refine WX.cond rfl (fun hc1 => ?_) (fun hc1 => ?_)
   · try simp only [aB] at hc1
     refine WX.seq (WX.region rfl (za rfl (ae.nil (Fin.aa (WX.ret (Fin.az ?_))))))
     first
     | exact Fin.result (O' := aW r rb rf M vs R) (.inr rfl) rfl rfl au (by unfold bt; rw [if_pos (by assumption)]; exact ⟨rfl, rfl, h⟩)
     | exact Fin.result (O' := aW r rb rf (cg M).2 vs R) (.inr rfl) rfl rfl au (by unfold bt; rw [if_neg (by simp [hc0]), if_pos hc1]; exact ⟨rfl, rfl, h.step⟩)
     | exact Fin.result (O' := aW r rb rf (l5 M2) vs R) (.inr rfl) rfl rfl au (by unfold bt; rw [if_neg (by simp [hc0]), if_neg (by simp [hc1]), ← hM2]; exact ⟨rfl, rfl, h2.rL⟩)
   · try simp only [aB] at hc1
     refine WX.skip (Fin.aa (WX.seq (WX.seq (WX.region rfl (za rfl (ae.nil (Fin.aa (WX.block ?_))))))))
     obtain ⟨M2, hM2⟩ : ∃ M2, M2 = (cg M).2 := ⟨_, rfl⟩
     have h2 : fJ R0 M2 vs := hM2 ▸ h.step
     rw [← hM2]
     refine WX.re (O' := aW r rb rf ⟨M2.room, M2.B, eM M2 0, M2.off, M2.cB⟩ vs R) ?_ (fun _ hs => hs)
     refine WX.loop (fun i : Nat => [(0, Ptr r 0), (4, I (i : Int))]) (fun i => aW r rb rf ⟨M2.room, M2.B, eM M2 i, M2.off, M2.cB⟩ vs R) (fun i => i ≤ 64) (fun i => 64 - i) 0 (by decide) (fun s hs => hs.tl [] 0) (fun i hi => ?_)
     refine WX.seq (WX.seq (WX.region rfl (zm rfl (zb rfl rfl rfl (ae.nil (Fin.aa ?_))))))
     refine WX.cond rfl (fun hc2 => ?_) (fun hc2 => ?_)
     · try simp only [aB] at hc2
       refine WX.skip (Fin.aa (WX.seq (WX.block ?_)))
       have hi64 : i < 64 := by omega
       obtain ⟨a, c, ev, _⟩ := h2.file i hi64
       have hv : vs[i]? = some (.slice a (nth M2.B i).length c) := by rw [← ev]; exact dq (by rw [h2.ik]; exact hi64)
       have hfl := kR h2.eD (i := i) (by omega)
       refine WX.draw rfl ?_
       refine zm rfl (zn rfl ?_)
       first | refine ae.fieldAddr Met.none rfl Tryz.underlying50 rfl gF rfl ?_ | refine ae.bQ Met.none rfl Tryz.underlying50 rfl gF ?_
       first | refine ae.ld Met.none rfl dW ?_ | refine ae.ba Met.none rfl dW ?_
       refine zm rfl (zm rfl (zn rfl ?_))
       first | refine ae.fieldAddr Met.none rfl Tryz.underlying50 rfl cH rfl ?_ | refine ae.bQ Met.none rfl Tryz.underlying50 rfl cH ?_
       first | refine ae.ld Met.none rfl bJ ?_ | refine ae.ba Met.none rfl bJ ?_
       refine zm rfl ?_
       first | refine ae.ix Met.none rfl rfl aR aO ?_ | refine ae.eH Met.none rfl rfl aR aO ?_
       first | refine ae.ld Met.none rfl aD ?_ (hv := hv) | refine ae.ba Met.none rfl aD ?_ (hv := hv)
       refine ae.len Met.none rfl Tryz.underlying39 ?_
       first | refine ae.ix Met.none rfl rfl bh cj ?_ | refine ae.eH Met.none rfl rfl bh cj ?_
       refine ae.st (vs := [_]) (j := 2) Met.none rfl rfl rfl cj ?_ (hj := rfl) (hl := (by rw [List.length_map, hfl]; show i + 1 ≤ 64; omega)) (hc := (gh I _ i (bS M2 i) (by rw [hfl]; exact hi64)))
       refine ae.nil (Fin.ag (Fin.aa (WX.region rfl (zm rfl (zb rfl rfl dH (za rfl (ae.nil ?_)))))))
       exact Fin.aj (i + 1) (by omega) (by omega) (fun s hs => by rw [← kK h2.eD hi64]; exact hs.tl [] 0)
     · try simp only [aB] at hc2
       refine WX.exit (Fin.aF (Fin.aN (Fin.aK rfl (Fin.aa (WX.seq ?_)))))
       have hie : i = 64 := by omega
       rw [hie, kB h2.eD]
       refine WX.region rfl (za rfl (ae.nil (Fin.aa (WX.ret ?_))))
       first
       | exact Fin.result (O' := aW r rb rf M vs R) (.inr rfl) rfl rfl au (by unfold bt; rw [if_pos (by assumption)]; exact ⟨rfl, rfl, h⟩)
       | exact Fin.result (O' := aW r rb rf (cg M).2 vs R) (.inr rfl) rfl rfl au (by unfold bt; rw [if_neg (by simp [hc0]), if_pos hc1]; exact ⟨rfl, rfl, h.step⟩)
       | exact Fin.result (O' := aW r rb rf (l5 M2) vs R) (.inr rfl) rfl rfl au (by unfold bt; rw [if_neg (by simp [hc0]), if_neg (by simp [hc1]), ← hM2]; exact ⟨rfl, rfl, h2.rL⟩)
theorem tF (R : an) {R0 : an} (r rb rf : Nat) (M : Rd) (vs : List Value) (file size : Int) (h : fJ R0 M vs) (hi : ∀ g, Sat g R → Sat g R0) : Spec Tryz.prog false 27 #[Ptr r 0, I file, I size] (aW r rb rf M vs R) fun v O' => ∃ vs', v = I (ct M file size).1 ∧ O' = aW r rb rf (ct M file size).2 vs' R ∧ fJ R0 (ct M file size).2 vs' := by
 have hfile : file.toNat < 64 → ∃ fa fc, vs[file.toNat]? = some (.slice fa (nth M.B file.toNat).length fc) ∧ bK R0 1 fa (nth M.B file.toNat).length ((nth M.B file.toNat).map B8) ∧ (fa = none → fc = 0) ∧ Bytes (nth M.B file.toNat) := fun hk => by
  obtain ⟨fa, fc, hfv, hrow0, hnil, hB⟩ := h.file _ hk
  exact ⟨fa, fc, by rw [← hfv]; exact dq (by rw [h.ik]; exact hk), hrow0, hnil, hB⟩
 refine Spec.enter (args := [_, _, _]) (m := 67) Tryz.func27 rfl rfl (by decide +kernel) fun h0 => ?_
 refine WX.seq (WX.region rfl (za rfl (ae.nil (Fin.aa (WX.seq (WX.seq (WX.region rfl (zm rfl (zb rfl rfl rfl (zm rfl ?_))))))))))
 refine ae.split (d := 10) rfl (fun hg10 => ?_) (fun hg10 => ?_)
 · try simp only [aB] at hg10
   refine zs 2 10 rfl rfl rfl (zs 2 10 rfl rfl rfl (ae.bC Met.none rfl rfl (zm rfl (zs 6 14 rfl rfl rfl (zs 6 14 rfl rfl rfl (ae.bC Met.none rfl rfl (zm rfl (zs 10 18 rfl rfl rfl (zs 10 18 rfl rfl rfl (zs 10 18 rfl rfl rfl (zs 10 18 rfl rfl rfl (zs 10 18 rfl rfl rfl (zs 10 18 rfl rfl rfl (zs 10 18 rfl rfl rfl (zs 10 18 rfl rfl rfl ?_)))))))))))))))
   refine zs 10 18 rfl rfl rfl (zs 10 18 rfl rfl rfl (ae.bC Met.none rfl rfl (ae.nil (Fin.aa ?_))))
   refine WX.cond rfl (fun hc0 => ?_) (fun hc0 => nomatch hc0)
   refine WX.seq (WX.region rfl (za rfl (ae.nil (Fin.aa (WX.ret (Fin.az ?_))))))
   first
   | exact Fin.result (O' := aW r rb rf M vs R) (.inr rfl) rfl rfl au (by unfold ct; rw [if_pos (by unfold bS; omega)]; exact ⟨vs, rfl, rfl, h⟩)
   | exact Fin.result (O' := aW r rb rf M vs R) (.inr rfl) rfl rfl au (by unfold ct; rw [if_neg (by unfold bS; omega), if_pos (by assumption)]; exact ⟨vs, rfl, rfl, h⟩)
   | exact Fin.result (O' := aW r rb rf (cg M).2 vs R) (.inr rfl) rfl rfl au (by unfold ct; rw [if_neg (by unfold bS; omega), if_neg (by simp [hc1]), if_pos hc2]; exact ⟨vs, rfl, rfl, h.step⟩)
   | exact Fin.result (O' := aW r rb rf ⟨M2.room, M2.B.set file.toNat ((nth M2.B file.toNat).take k), M2.F.set file.toNat (min (nth M2.F file.toNat) size), M2.off, M2.cB⟩ (vs.set file.toNat (.slice fa k k)) R) (.inr rfl) rfl rfl (fun _ hs => by rw [hF2]; exact hs) (by
     have hlk : ((nth M.B file.toNat).take k).length = k := by rw [List.length_take]; omega
     have hpre := hrow0.pre hkl
     rw [Nat.mul_one, ← List.map_take] at hpre
     have hvn : lO R0 (.slice fa k k) ((nth M.B file.toNat).take k) := ⟨fa, k, by rw [hlk], by rw [hlk]; exact hpre, hpre.eh, fun y hy => hB y (List.mem_of_mem_take hy)⟩
     have hI : fJ R0 ⟨M2.room, M2.B.set file.toNat ((nth M.B file.toNat).take k), M2.F.set file.toNat (min (nth M2.F file.toNat) size), M2.off, M2.cB⟩ (vs.set file.toNat (.slice fa k k)) := h2.set hk hvn (by
       have := h2.used
       have h9 : bS M2 file.toNat = ((nth M.B file.toNat).length : Nat) := by unfold bS; rw [hB2]
       rw [h9, hlk]
       omega) (by rw [List.length_set]; exact h2.eD) h2.cB (fun n hn => by
      have h1 := h2.jX n hn
      rw [bZ (by rw [h2.eD]; exact hk), bZ (by rw [h2.gL]; exact hk)]
      by_cases q : n = file.toNat
      · rw [if_pos q, if_pos q, hlk]
        rw [q] at h1
        omega
      · rw [if_neg q, if_neg q]; exact h1)
     unfold ct
     rw [if_neg (by unfold bS; omega), if_neg (by simp [hc1]), if_neg (by simp [hc2]), ← hM2, show size.toNat = k by omega]
     rw [← hB2] at hI
     exact ⟨_, rfl, rfl, hI⟩)
 · try simp only [aB] at hg10
   refine ae.move (Met.some rfl rfl rfl) rfl (ae.bin (Met.some rfl rfl rfl) rfl rfl rfl (ae.bd Met.none rfl rfl (zm rfl ?_)))
   refine ae.split (d := 14) rfl (fun hg14 => ?_) (fun hg14 => ?_)
   · try simp only [aB] at hg14
     refine zs 6 14 rfl rfl rfl (zs 6 14 rfl rfl rfl (ae.bC Met.none rfl rfl (zm rfl (zs 10 18 rfl rfl rfl (zs 10 18 rfl rfl rfl (zs 10 18 rfl rfl rfl (zs 10 18 rfl rfl rfl (zs 10 18 rfl rfl rfl (zs 10 18 rfl rfl rfl (zs 10 18 rfl rfl rfl (zs 10 18 rfl rfl rfl (zs 10 18 rfl rfl rfl (zs 10 18 rfl rfl rfl (ae.bC Met.none rfl rfl (ae.nil ?_)))))))))))))))
     refine Fin.aa ?_
     refine WX.cond rfl (fun hc0 => ?_) (fun hc0 => nomatch hc0)
     refine WX.seq (WX.region rfl (za rfl (ae.nil (Fin.aa (WX.ret (Fin.az ?_))))))
     first
     | exact Fin.result (O' := aW r rb rf M vs R) (.inr rfl) rfl rfl au (by unfold ct; rw [if_pos (by unfold bS; omega)]; exact ⟨vs, rfl, rfl, h⟩)
     | exact Fin.result (O' := aW r rb rf M vs R) (.inr rfl) rfl rfl au (by unfold ct; rw [if_neg (by unfold bS; omega), if_pos (by assumption)]; exact ⟨vs, rfl, rfl, h⟩)
     | exact Fin.result (O' := aW r rb rf (cg M).2 vs R) (.inr rfl) rfl rfl au (by unfold ct; rw [if_neg (by unfold bS; omega), if_neg (by simp [hc1]), if_pos hc2]; exact ⟨vs, rfl, rfl, h.step⟩)
     | exact Fin.result (O' := aW r rb rf ⟨M2.room, M2.B.set file.toNat ((nth M2.B file.toNat).take k), M2.F.set file.toNat (min (nth M2.F file.toNat) size), M2.off, M2.cB⟩ (vs.set file.toNat (.slice fa k k)) R) (.inr rfl) rfl rfl (fun _ hs => by rw [hF2]; exact hs) (by
       have hlk : ((nth M.B file.toNat).take k).length = k := by rw [List.length_take]; omega
       have hpre := hrow0.pre hkl
       rw [Nat.mul_one, ← List.map_take] at hpre
       have hvn : lO R0 (.slice fa k k) ((nth M.B file.toNat).take k) := ⟨fa, k, by rw [hlk], by rw [hlk]; exact hpre, hpre.eh, fun y hy => hB y (List.mem_of_mem_take hy)⟩
       have hI : fJ R0 ⟨M2.room, M2.B.set file.toNat ((nth M.B file.toNat).take k), M2.F.set file.toNat (min (nth M2.F file.toNat) size), M2.off, M2.cB⟩ (vs.set file.toNat (.slice fa k k)) := h2.set hk hvn (by
         have := h2.used
         have h9 : bS M2 file.toNat = ((nth M.B file.toNat).length : Nat) := by unfold bS; rw [hB2]
         rw [h9, hlk]
         omega) (by rw [List.length_set]; exact h2.eD) h2.cB (fun n hn => by
        have h1 := h2.jX n hn
        rw [bZ (by rw [h2.eD]; exact hk), bZ (by rw [h2.gL]; exact hk)]
        by_cases q : n = file.toNat
        · rw [if_pos q, if_pos q, hlk]
          rw [q] at h1
          omega
        · rw [if_neg q, if_neg q]; exact h1)
       unfold ct
       rw [if_neg (by unfold bS; omega), if_neg (by simp [hc1]), if_neg (by simp [hc2]), ← hM2, show size.toNat = k by omega]
       rw [← hB2] at hI
       exact ⟨_, rfl, rfl, hI⟩)
   · try simp only [aB] at hg14
     refine ae.move (Met.some rfl rfl rfl) rfl (ae.bin (Met.some rfl rfl rfl) rfl rfl rfl (ae.bd Met.none rfl rfl (zm rfl ?_)))
     refine ae.split (d := 18) rfl (fun hg18 => ?_) (fun hg18 => ?_)
     · try simp only [aB] at hg18
       refine zs 10 18 rfl rfl rfl (zs 10 18 rfl rfl rfl (zs 10 18 rfl rfl rfl (zs 10 18 rfl rfl rfl (zs 10 18 rfl rfl rfl (zs 10 18 rfl rfl rfl (zs 10 18 rfl rfl rfl (zs 10 18 rfl rfl rfl (zs 10 18 rfl rfl rfl (zs 10 18 rfl rfl rfl (ae.bC Met.none rfl rfl (ae.nil (Fin.aa ?_))))))))))))
       refine WX.cond rfl (fun hc0 => ?_) (fun hc0 => nomatch hc0)
       refine WX.seq (WX.region rfl (za rfl (ae.nil (Fin.aa (WX.ret (Fin.az ?_))))))
       first
       | exact Fin.result (O' := aW r rb rf M vs R) (.inr rfl) rfl rfl au (by unfold ct; rw [if_pos (by unfold bS; omega)]; exact ⟨vs, rfl, rfl, h⟩)
       | exact Fin.result (O' := aW r rb rf M vs R) (.inr rfl) rfl rfl au (by unfold ct; rw [if_neg (by unfold bS; omega), if_pos (by assumption)]; exact ⟨vs, rfl, rfl, h⟩)
       | exact Fin.result (O' := aW r rb rf (cg M).2 vs R) (.inr rfl) rfl rfl au (by unfold ct; rw [if_neg (by unfold bS; omega), if_neg (by simp [hc1]), if_pos hc2]; exact ⟨vs, rfl, rfl, h.step⟩)
       | exact Fin.result (O' := aW r rb rf ⟨M2.room, M2.B.set file.toNat ((nth M2.B file.toNat).take k), M2.F.set file.toNat (min (nth M2.F file.toNat) size), M2.off, M2.cB⟩ (vs.set file.toNat (.slice fa k k)) R) (.inr rfl) rfl rfl (fun _ hs => by rw [hF2]; exact hs) (by
         have hlk : ((nth M.B file.toNat).take k).length = k := by rw [List.length_take]; omega
         have hpre := hrow0.pre hkl
         rw [Nat.mul_one, ← List.map_take] at hpre
         have hvn : lO R0 (.slice fa k k) ((nth M.B file.toNat).take k) := ⟨fa, k, by rw [hlk], by rw [hlk]; exact hpre, hpre.eh, fun y hy => hB y (List.mem_of_mem_take hy)⟩
         have hI : fJ R0 ⟨M2.room, M2.B.set file.toNat ((nth M.B file.toNat).take k), M2.F.set file.toNat (min (nth M2.F file.toNat) size), M2.off, M2.cB⟩ (vs.set file.toNat (.slice fa k k)) := h2.set hk hvn (by
           have := h2.used
           have h9 : bS M2 file.toNat = ((nth M.B file.toNat).length : Nat) := by unfold bS; rw [hB2]
           rw [h9, hlk]
           omega) (by rw [List.length_set]; exact h2.eD) h2.cB (fun n hn => by
          have h1 := h2.jX n hn
          rw [bZ (by rw [h2.eD]; exact hk), bZ (by rw [h2.gL]; exact hk)]
          by_cases q : n = file.toNat
          · rw [if_pos q, if_pos q, hlk]
            rw [q] at h1
            omega
          · rw [if_neg q, if_neg q]; exact h1)
         unfold ct
         rw [if_neg (by unfold bS; omega), if_neg (by simp [hc1]), if_neg (by simp [hc2]), ← hM2, show size.toNat = k by omega]
         rw [← hB2] at hI
         exact ⟨_, rfl, rfl, hI⟩)
     · try simp only [aB] at hg18
       refine ae.move (Met.some rfl rfl rfl) rfl (ae.move (Met.some rfl rfl rfl) rfl (ae.nilCheck (Met.some rfl rfl rfl) rfl ?_))
       first | refine ae.fieldAddr (Met.some rfl rfl rfl) rfl Tryz.underlying50 rfl cH rfl ?_ | refine ae.bQ (Met.some rfl rfl rfl) rfl Tryz.underlying50 rfl cH ?_
       first | refine ae.ld (Met.some rfl rfl rfl) rfl bJ ?_ | refine ae.ba (Met.some rfl rfl rfl) rfl bJ ?_
       refine ae.move (Met.some rfl rfl rfl) rfl ?_
       first | refine ae.ix (Met.some rfl rfl rfl) rfl rfl aR aO ?_ | refine ae.eH (Met.some rfl rfl rfl) rfl rfl aR aO ?_
       have hk : file.toNat < 64 := by omega
       obtain ⟨fa, fc, hv, hrow0, hnil, hB⟩ := hfile hk
       have hrow := hrow0.inc hi
       first | refine ae.ld (Met.some rfl rfl rfl) rfl aD ?_ (hv := hv) | refine ae.ba (Met.some rfl rfl rfl) rfl aD ?_ (hv := hv)
       refine ae.len (Met.some rfl rfl rfl) rfl Tryz.underlying39 (ae.bin (Met.some rfl rfl rfl) rfl rfl rfl (ae.bd Met.none rfl rfl (ae.nil (Fin.aa ?_))))
       refine WX.cond rfl (fun hc0 => ?_) (fun hc0 => ?_)
       · try simp only [aB] at hc0
         refine WX.seq (WX.region rfl (za rfl (ae.nil (Fin.aa (WX.ret (Fin.az ?_))))))
         first
         | exact Fin.result (O' := aW r rb rf M vs R) (.inr rfl) rfl rfl au (by unfold ct; rw [if_pos (by unfold bS; omega)]; exact ⟨vs, rfl, rfl, h⟩)
         | exact Fin.result (O' := aW r rb rf M vs R) (.inr rfl) rfl rfl au (by unfold ct; rw [if_neg (by unfold bS; omega), if_pos (by assumption)]; exact ⟨vs, rfl, rfl, h⟩)
         | exact Fin.result (O' := aW r rb rf (cg M).2 vs R) (.inr rfl) rfl rfl au (by unfold ct; rw [if_neg (by unfold bS; omega), if_neg (by simp [hc1]), if_pos hc2]; exact ⟨vs, rfl, rfl, h.step⟩)
         | exact Fin.result (O' := aW r rb rf ⟨M2.room, M2.B.set file.toNat ((nth M2.B file.toNat).take k), M2.F.set file.toNat (min (nth M2.F file.toNat) size), M2.off, M2.cB⟩ (vs.set file.toNat (.slice fa k k)) R) (.inr rfl) rfl rfl (fun _ hs => by rw [hF2]; exact hs) (by
           have hlk : ((nth M.B file.toNat).take k).length = k := by rw [List.length_take]; omega
           have hpre := hrow0.pre hkl
           rw [Nat.mul_one, ← List.map_take] at hpre
           have hvn : lO R0 (.slice fa k k) ((nth M.B file.toNat).take k) := ⟨fa, k, by rw [hlk], by rw [hlk]; exact hpre, hpre.eh, fun y hy => hB y (List.mem_of_mem_take hy)⟩
           have hI : fJ R0 ⟨M2.room, M2.B.set file.toNat ((nth M.B file.toNat).take k), M2.F.set file.toNat (min (nth M2.F file.toNat) size), M2.off, M2.cB⟩ (vs.set file.toNat (.slice fa k k)) := h2.set hk hvn (by
             have := h2.used
             have h9 : bS M2 file.toNat = ((nth M.B file.toNat).length : Nat) := by unfold bS; rw [hB2]
             rw [h9, hlk]
             omega) (by rw [List.length_set]; exact h2.eD) h2.cB (fun n hn => by
            have h1 := h2.jX n hn
            rw [bZ (by rw [h2.eD]; exact hk), bZ (by rw [h2.gL]; exact hk)]
            by_cases q : n = file.toNat
            · rw [if_pos q, if_pos q, hlk]
              rw [q] at h1
              omega
            · rw [if_neg q, if_neg q]; exact h1)
           unfold ct
           rw [if_neg (by unfold bS; omega), if_neg (by simp [hc1]), if_neg (by simp [hc2]), ← hM2, show size.toNat = k by omega]
           rw [← hB2] at hI
           exact ⟨_, rfl, rfl, hI⟩)
       · try simp only [aB] at hc0
         refine WX.skip (Fin.aa (WX.seq (WX.seq (WX.region rfl (zm rfl (zn rfl ?_))))))
         first | refine ae.fieldAddr Met.none rfl Tryz.underlying50 rfl dm rfl ?_ | refine ae.bQ Met.none rfl Tryz.underlying50 rfl dm ?_
         first | refine ae.ld Met.none rfl cV ?_ | refine ae.ba Met.none rfl cV ?_
         refine ae.nil (Fin.aa ?_)
         refine WX.cond rfl (fun hc1 => ?_) (fun hc1 => ?_)
         · try simp only [aB] at hc1
           refine WX.seq (WX.region rfl (za rfl (ae.nil (Fin.aa (WX.ret (Fin.az ?_))))))
           first
           | exact Fin.result (O' := aW r rb rf M vs R) (.inr rfl) rfl rfl au (by unfold ct; rw [if_pos (by unfold bS; omega)]; exact ⟨vs, rfl, rfl, h⟩)
           | exact Fin.result (O' := aW r rb rf M vs R) (.inr rfl) rfl rfl au (by unfold ct; rw [if_neg (by unfold bS; omega), if_pos (by assumption)]; exact ⟨vs, rfl, rfl, h⟩)
           | exact Fin.result (O' := aW r rb rf (cg M).2 vs R) (.inr rfl) rfl rfl au (by unfold ct; rw [if_neg (by unfold bS; omega), if_neg (by simp [hc1]), if_pos hc2]; exact ⟨vs, rfl, rfl, h.step⟩)
           | exact Fin.result (O' := aW r rb rf ⟨M2.room, M2.B.set file.toNat ((nth M2.B file.toNat).take k), M2.F.set file.toNat (min (nth M2.F file.toNat) size), M2.off, M2.cB⟩ (vs.set file.toNat (.slice fa k k)) R) (.inr rfl) rfl rfl (fun _ hs => by rw [hF2]; exact hs) (by
             have hlk : ((nth M.B file.toNat).take k).length = k := by rw [List.length_take]; omega
             have hpre := hrow0.pre hkl
             rw [Nat.mul_one, ← List.map_take] at hpre
             have hvn : lO R0 (.slice fa k k) ((nth M.B file.toNat).take k) := ⟨fa, k, by rw [hlk], by rw [hlk]; exact hpre, hpre.eh, fun y hy => hB y (List.mem_of_mem_take hy)⟩
             have hI : fJ R0 ⟨M2.room, M2.B.set file.toNat ((nth M.B file.toNat).take k), M2.F.set file.toNat (min (nth M2.F file.toNat) size), M2.off, M2.cB⟩ (vs.set file.toNat (.slice fa k k)) := h2.set hk hvn (by
               have := h2.used
               have h9 : bS M2 file.toNat = ((nth M.B file.toNat).length : Nat) := by unfold bS; rw [hB2]
               rw [h9, hlk]
               omega) (by rw [List.length_set]; exact h2.eD) h2.cB (fun n hn => by
              have h1 := h2.jX n hn
              rw [bZ (by rw [h2.eD]; exact hk), bZ (by rw [h2.gL]; exact hk)]
              by_cases q : n = file.toNat
              · rw [if_pos q, if_pos q, hlk]
                rw [q] at h1
                omega
              · rw [if_neg q, if_neg q]; exact h1)
             unfold ct
             rw [if_neg (by unfold bS; omega), if_neg (by simp [hc1]), if_neg (by simp [hc2]), ← hM2, show size.toNat = k by omega]
             rw [← hB2] at hI
             exact ⟨_, rfl, rfl, hI⟩)
         · try simp only [aB] at hc1
           refine WX.skip (Fin.aa (WX.seq (WX.region rfl (zm rfl ?_))))
           refine ae.cl (O1 := _) Met.none rfl (ah Tryz.func47 (by decide +kernel)) rfl (fun _ h => h) (oz R r rb rf M vs h) (fun v O' hp => ?_)
           obtain ⟨rfl, hO⟩ := hp
           subst O'
           refine za rfl (ae.nil (Fin.aa (WX.seq (WX.seq (WX.region rfl (zm rfl (ae.nil (Fin.aa ?_))))))))
           refine WX.cond rfl (fun hc2 => ?_) (fun hc2 => ?_)
           · try simp only [aB] at hc2
             refine WX.seq (WX.region rfl (za rfl (ae.nil (Fin.aa (WX.ret (Fin.az ?_))))))
             first
             | exact Fin.result (O' := aW r rb rf M vs R) (.inr rfl) rfl rfl au (by unfold ct; rw [if_pos (by unfold bS; omega)]; exact ⟨vs, rfl, rfl, h⟩)
             | exact Fin.result (O' := aW r rb rf M vs R) (.inr rfl) rfl rfl au (by unfold ct; rw [if_neg (by unfold bS; omega), if_pos (by assumption)]; exact ⟨vs, rfl, rfl, h⟩)
             | exact Fin.result (O' := aW r rb rf (cg M).2 vs R) (.inr rfl) rfl rfl au (by unfold ct; rw [if_neg (by unfold bS; omega), if_neg (by simp [hc1]), if_pos hc2]; exact ⟨vs, rfl, rfl, h.step⟩)
             | exact Fin.result (O' := aW r rb rf ⟨M2.room, M2.B.set file.toNat ((nth M2.B file.toNat).take k), M2.F.set file.toNat (min (nth M2.F file.toNat) size), M2.off, M2.cB⟩ (vs.set file.toNat (.slice fa k k)) R) (.inr rfl) rfl rfl (fun _ hs => by rw [hF2]; exact hs) (by
               have hlk : ((nth M.B file.toNat).take k).length = k := by rw [List.length_take]; omega
               have hpre := hrow0.pre hkl
               rw [Nat.mul_one, ← List.map_take] at hpre
               have hvn : lO R0 (.slice fa k k) ((nth M.B file.toNat).take k) := ⟨fa, k, by rw [hlk], by rw [hlk]; exact hpre, hpre.eh, fun y hy => hB y (List.mem_of_mem_take hy)⟩
               have hI : fJ R0 ⟨M2.room, M2.B.set file.toNat ((nth M.B file.toNat).take k), M2.F.set file.toNat (min (nth M2.F file.toNat) size), M2.off, M2.cB⟩ (vs.set file.toNat (.slice fa k k)) := h2.set hk hvn (by
                 have := h2.used
                 have h9 : bS M2 file.toNat = ((nth M.B file.toNat).length : Nat) := by unfold bS; rw [hB2]
                 rw [h9, hlk]
                 omega) (by rw [List.length_set]; exact h2.eD) h2.cB (fun n hn => by
                have h1 := h2.jX n hn
                rw [bZ (by rw [h2.eD]; exact hk), bZ (by rw [h2.gL]; exact hk)]
                by_cases q : n = file.toNat
                · rw [if_pos q, if_pos q, hlk]
                  rw [q] at h1
                  omega
                · rw [if_neg q, if_neg q]; exact h1)
               unfold ct
               rw [if_neg (by unfold bS; omega), if_neg (by simp [hc1]), if_neg (by simp [hc2]), ← hM2, show size.toNat = k by omega]
               rw [← hB2] at hI
               exact ⟨_, rfl, rfl, hI⟩)
           · try simp only [aB] at hc2
             refine WX.skip (Fin.aa (WX.seq ?_))
             obtain ⟨s1, s2, s3⟩ := oA M
             obtain ⟨M2, hM2⟩ : ∃ M2, M2 = (cg M).2 := ⟨_, rfl⟩
             have h2 : fJ R0 M2 vs := hM2 ▸ h.step
             have hB2 : M2.B = M.B := hM2 ▸ s1
             have hF2 : M2.F = M.F := hM2 ▸ s2
             obtain ⟨k, hkz⟩ : ∃ k : Nat, size = (k : Int) := ⟨size.toNat, by omega⟩
             have hkl : k ≤ (nth M.B file.toNat).length := by omega
             have hkn : file.toNat < M.F.length := by rw [h.eD]; exact hk
             rw [← hM2]
             rw [show M2 = ⟨M2.room, M2.B, M2.F, M2.off, M2.cB⟩ from rfl, hF2]
             dsimp only
             refine WX.draw rfl ?_
             refine zm rfl (zn rfl ?_)
             first | refine ae.fieldAddr Met.none rfl Tryz.underlying50 rfl cH rfl ?_ | refine ae.bQ Met.none rfl Tryz.underlying50 rfl cH ?_
             first | refine ae.ld Met.none rfl bJ ?_ | refine ae.ba Met.none rfl bJ ?_
             refine zm rfl (zm rfl (zn rfl ?_))
             first | refine ae.fieldAddr Met.none rfl Tryz.underlying50 rfl cH rfl ?_ | refine ae.bQ Met.none rfl Tryz.underlying50 rfl cH ?_
             first | refine ae.ld Met.none rfl bJ ?_ | refine ae.ba Met.none rfl bJ ?_
             refine zm rfl ?_
             first | refine ae.ix Met.none rfl rfl aR aO ?_ | refine ae.eH Met.none rfl rfl aR aO ?_
             first | refine ae.ld Met.none rfl aD ?_ (hv := hv) | refine ae.ba Met.none rfl aD ?_ (hv := hv)
             refine zm rfl ?_
             refine ae.pre (m := k) Met.none rfl rfl aQ ea (bK.cons (bK.cons (bK.cons hrow))) hnil ?_
             first | refine ae.ix Met.none rfl rfl aR aO ?_ | refine ae.eH Met.none rfl rfl aR aO ?_
             refine ae.st (vs := [_]) (j := 1) Met.none rfl rfl rfl aO ?_ (hj := rfl) (hl := (by show file.toNat + 1 ≤ vs.length; rw [h.ik]; omega)) (hc := (jA (by rw [h.ik]; exact hk)))
             refine ae.nil (Fin.aa (WX.seq ?_))
             refine WX.draw rfl ?_
             refine zm rfl (zn rfl ?_)
             first | refine ae.fieldAddr Met.none rfl Tryz.underlying50 rfl gF rfl ?_ | refine ae.bQ Met.none rfl Tryz.underlying50 rfl gF ?_
             first | refine ae.ld Met.none rfl dW ?_ | refine ae.ba Met.none rfl dW ?_
             refine zm rfl (zm rfl (zn rfl ?_))
             first | refine ae.fieldAddr Met.none rfl Tryz.underlying50 rfl gF rfl ?_ | refine ae.bQ Met.none rfl Tryz.underlying50 rfl gF ?_
             first | refine ae.ld Met.none rfl dW ?_ | refine ae.ba Met.none rfl dW ?_
             refine zm rfl ?_
             first | refine ae.ix Met.none rfl rfl bh cj ?_ | refine ae.eH Met.none rfl rfl bh cj ?_
             first | refine ae.ld Met.none rfl bY ?_ (hv := (bB I _ file.toNat hkn)) | refine ae.ba Met.none rfl bY ?_ (hv := (bB I _ file.toNat hkn))
             refine zm rfl ?_
             refine ae.min Met.none rfl rfl ?_
             first | refine ae.ix Met.none rfl rfl bh cj ?_ | refine ae.eH Met.none rfl rfl bh cj ?_
             refine ae.st (vs := [_]) (j := 2) Met.none rfl rfl rfl cj ?_ (hj := rfl) (hl := (by rw [List.length_map, h.eD]; show file.toNat + 1 ≤ 64; omega))
             refine zR rfl (za rfl (ae.nil (Fin.aa (WX.ret ?_))))
             first
             | exact Fin.result (O' := aW r rb rf M vs R) (.inr rfl) rfl rfl au (by unfold ct; rw [if_pos (by unfold bS; omega)]; exact ⟨vs, rfl, rfl, h⟩)
             | exact Fin.result (O' := aW r rb rf M vs R) (.inr rfl) rfl rfl au (by unfold ct; rw [if_neg (by unfold bS; omega), if_pos (by assumption)]; exact ⟨vs, rfl, rfl, h⟩)
             | exact Fin.result (O' := aW r rb rf (cg M).2 vs R) (.inr rfl) rfl rfl au (by unfold ct; rw [if_neg (by unfold bS; omega), if_neg (by simp [hc1]), if_pos hc2]; exact ⟨vs, rfl, rfl, h.step⟩)
             | exact Fin.result (O' := aW r rb rf ⟨M2.room, M2.B.set file.toNat ((nth M2.B file.toNat).take k), M2.F.set file.toNat (min (nth M2.F file.toNat) size), M2.off, M2.cB⟩ (vs.set file.toNat (.slice fa k k)) R) (.inr rfl) rfl rfl (fun _ hs => by rw [hF2]; exact hs) (by
               have hlk : ((nth M.B file.toNat).take k).length = k := by rw [List.length_take]; omega
               have hpre := hrow0.pre hkl
               rw [Nat.mul_one, ← List.map_take] at hpre
               have hvn : lO R0 (.slice fa k k) ((nth M.B file.toNat).take k) := ⟨fa, k, by rw [hlk], by rw [hlk]; exact hpre, hpre.eh, fun y hy => hB y (List.mem_of_mem_take hy)⟩
               have hI : fJ R0 ⟨M2.room, M2.B.set file.toNat ((nth M.B file.toNat).take k), M2.F.set file.toNat (min (nth M2.F file.toNat) size), M2.off, M2.cB⟩ (vs.set file.toNat (.slice fa k k)) := h2.set hk hvn (by
                 have := h2.used
                 have h9 : bS M2 file.toNat = ((nth M.B file.toNat).length : Nat) := by unfold bS; rw [hB2]
                 rw [h9, hlk]
                 omega) (by rw [List.length_set]; exact h2.eD) h2.cB (fun n hn => by
                have h1 := h2.jX n hn
                rw [bZ (by rw [h2.eD]; exact hk), bZ (by rw [h2.gL]; exact hk)]
                by_cases q : n = file.toNat
                · rw [if_pos q, if_pos q, hlk]
                  rw [q] at h1
                  omega
                · rw [if_neg q, if_neg q]; exact h1)
               unfold ct
               rw [if_neg (by unfold bS; omega), if_neg (by simp [hc1]), if_neg (by simp [hc2]), ← hM2, show size.toNat = k by omega]
               rw [← hB2] at hI
               exact ⟨_, rfl, rfl, hI⟩)
def jS (M : Rd) (i : Nat) : List Nat := (List.range i).filter fun i => decide (0 < (nth M.B i).length)
theorem ru (M : Rd) (i : Nat) : jS M (i + 1) = jS M i ++ (if 0 < (nth M.B i).length then [i] else []) := by
 unfold jS
 rw [List.range_succ, List.filter_append]
 by_cases h : 0 < (nth M.B i).length
 · rw [if_pos h]; simp [h]
 · rw [if_neg h]; simp [h]
theorem oB (M : Rd) (i : Nat) : (jS M i).length ≤ i := by
 unfold jS
 have := List.length_filter_le (fun i => decide (0 < (nth M.B i).length)) (List.range i)
 rw [List.length_range] at this
 exact this
def fg (l : List Nat) : List Value := l.map fun n => I ((n : Nat) : Int)
theorem tw (R : an) {R0 : an} (r rb rf : Nat) (M : Rd) (vs : List Value) (h : fJ R0 M vs) : Spec Tryz.prog false 33 #[Ptr r 0] (aW r rb rf M vs R) fun v O' => ∃ a c G, v = .slice a (aL M).length c ∧ Grow 1 a (aL M).length c (fg (aL M)) G ∧ O' = aW r rb rf M vs (G ++ R) := by
 refine Spec.enter (args := [_]) (m := 23) Tryz.func33 rfl rfl (by decide +kernel) fun h0 => ?_
 refine WX.seq (WX.region rfl (za rfl (zR rfl (za rfl (ae.nil (Fin.aa (WX.seq (WX.seq (WX.region rfl (za rfl (ae.nil (Fin.aa (WX.block ?_)))))))))))))
 refine WX.re (O' := aW r rb rf M vs ([] ++ R)) ?_
 refine WX.loop (fun q : Nat × Option Addr × Nat × an => [(0, Ptr r 0), (3, .slice q.2.1 (jS M q.1).length q.2.2.1), (4, I (q.1 : Int))]) (fun q => aW r rb rf M vs (q.2.2.2 ++ R)) (fun q => q.1 ≤ 64 ∧ Grow 1 q.2.1 (jS M q.1).length q.2.2.1 (fg (jS M q.1)) q.2.2.2) (fun q => 64 - q.1) (0, none, 0, []) ⟨Nat.zero_le _, .nil⟩ (fun s hs => hs.tl [] 0) (fun q hq => ?_)
 obtain ⟨i, a3, c3, G3⟩ := q
 obtain ⟨hi, hG3⟩ := hq
 simp only at hi hG3
 dsimp only
 have hfl := oB M i
 have hfs := ru M i
 refine WX.seq (WX.seq (WX.region rfl (zm rfl (zb rfl rfl rfl (ae.nil (Fin.aa ?_))))))
 refine WX.cond rfl (fun hc0 => ?_) (fun hc0 => ?_)
 · try simp only [aB] at hc0
   refine WX.skip (Fin.aa (WX.seq (WX.block (WX.seq ?_))))
   have hi64 : i < 64 := by omega
   obtain ⟨a, c, ev, _⟩ := h.file i hi64
   have hv : vs[i]? = some (.slice a (nth M.B i).length c) := by rw [← ev]; exact dq (by rw [h.ik]; exact hi64)
   refine WX.region rfl (zm rfl (zn rfl ?_))
   first | refine ae.fieldAddr Met.none rfl Tryz.underlying50 rfl cH rfl ?_ | refine ae.bQ Met.none rfl Tryz.underlying50 rfl cH ?_
   first | refine ae.ld Met.none rfl bJ ?_ | refine ae.ba Met.none rfl bJ ?_
   refine zm rfl ?_
   first | refine ae.ix Met.none rfl rfl aR aO ?_ | refine ae.eH Met.none rfl rfl aR aO ?_
   first | refine ae.ld Met.none rfl aD ?_ (hv := hv) | refine ae.ba Met.none rfl aD ?_ (hv := hv)
   refine ae.len Met.none rfl Tryz.underlying39 (zb rfl rfl rfl (ae.nil (Fin.aa ?_)))
   refine WX.cond rfl (fun hc1 => ?_) (fun hc1 => ?_)
   · try simp only [aB] at hc1
     rw [if_pos (by omega)] at hfs
     refine WX.region rfl (zm rfl (zm rfl ?_))
     refine ae.buildSlice (c := [_]) Met.none rfl bh cj ij (by decide) (by decide) rfl rfl rfl rfl (fun b20 => ?_)
     refine ae.mS [_, _, _, _] Met.none rfl rfl lJ bh cj yv ij (Src.lit (cs := [_])) (fun a21 c21 G21 hG21 => ?_)
     refine za rfl (ae.nil (Fin.ag (Fin.aa ?_)))
     first | refine WX.re (O' := aW r rb rf M vs (G21 ++ R)) ?_ | skip
     refine WX.region rfl (zm rfl (zb rfl rfl dH (za rfl (ae.nil ?_))))
     first
     | exact Fin.aj (i + 1, a21, c21, G21) ⟨by simp only; omega, by simp only; rw [hfs, List.length_append]; unfold fg at hG21 ⊢; rw [List.map_append]; exact hG21⟩ (by simp only; omega) (fun s hs => by dsimp only; rw [hfs, List.length_append]; exact hs.tl [] 0)
     | exact Fin.aj (i + 1, a3, c3, G3) ⟨by simp only; omega, by simp only; rw [hfs]; exact hG3⟩ (by simp only; omega) (fun s hs => by dsimp only; rw [hfs]; exact hs.tl [] 0)
   · try simp only [aB] at hc1
     rw [if_neg (by omega), List.append_nil] at hfs
     refine WX.skip (Fin.ag (Fin.aa ?_))
     first | refine WX.re (O' := aW r rb rf M vs (G21 ++ R)) ?_ | skip
     refine WX.region rfl (zm rfl (zb rfl rfl dH (za rfl (ae.nil ?_))))
     first
     | exact Fin.aj (i + 1, a21, c21, G21) ⟨by simp only; omega, by simp only; rw [hfs, List.length_append]; unfold fg at hG21 ⊢; rw [List.map_append]; exact hG21⟩ (by simp only; omega) (fun s hs => by dsimp only; rw [hfs, List.length_append]; exact hs.tl [] 0)
     | exact Fin.aj (i + 1, a3, c3, G3) ⟨by simp only; omega, by simp only; rw [hfs]; exact hG3⟩ (by simp only; omega) (fun s hs => by dsimp only; rw [hfs]; exact hs.tl [] 0)
 · try simp only [aB] at hc0
   refine WX.exit (Fin.aF (Fin.aN (Fin.aK rfl (Fin.aa (WX.seq ?_)))))
   have hie : i = 64 := by omega
   rw [hie] at hG3 ⊢
   refine WX.region rfl (zm rfl (za rfl (ae.nil (Fin.aa (WX.ret ?_)))))
   exact Fin.result (O' := aW r rb rf M vs (G3 ++ R)) (.inr rfl) rfl rfl au ⟨a3, c3, G3, rfl, hG3, rfl⟩
def fe (o : bM) (p k : Nat) : bM :=
 ⟨o.n, ⟨o.f.bs.set (o.f.d.toNat + p) (gO (nth o.f.bs (o.f.d.toNat + p)) k), o.f.d⟩, o.a, o.c, match o.a with
  | some ⟨b, _, _⟩ => [(b, ⟨1, false, (o.f.bs.set (o.f.d.toNat + p) (gO (nth o.f.bs (o.f.d.toNat + p)) k)).map B8⟩)]
  | none => []⟩
def fA (p k : Nat) : List bM → List bM
 | [] => []
 | o :: l => if p < bp o.f then fe o p k :: l else o :: fA (p - bp o.f) k l
theorem pC (k : Nat) : ∀ (p : Nat) (l : List bM), (fA p k l).map bM.nf = fU p k (l.map bM.nf)
 | _, [] => rfl
 | p, o :: l => by
  unfold fA
  rw [List.map_cons]
  unfold fU
  by_cases h : p < bp o.f
  · rw [if_pos h, if_pos (show p < bp (bM.nf o).2 from h)]; rfl
  · rw [if_neg h, if_neg (show ¬ p < bp (bM.nf o).2 from h), List.map_cons, pC k _ l]; rfl
theorem kr (k r : Nat) {o : bM} {l2 : List bM} (hr : r < bp o.f) : ∀ (l1 : List bM), fA (av (l1.map bM.nf) + r) k (l1 ++ o :: l2) = l1 ++ fe o r k :: l2
 | [] => by
  show fA (0 + r) k (o :: l2) = _
  rw [Nat.zero_add]
  unfold fA
  rw [if_pos hr]
  rfl
 | x :: l1 => by
  have e : av ((x :: l1).map bM.nf) = bp x.f + av (l1.map bM.nf) := rfl
  rw [List.cons_append, List.cons_append, e]
  conv => lhs; unfold fA
  rw [if_neg (by omega), show bp x.f + av (l1.map bM.nf) + r - bp x.f = av (l1.map bM.nf) + r by omega, kr k r hr l1]
structure we (M : Rd) (vs : List Value) (L : List (Int × Fi)) (ow : List bM) (ws : List Value) : Prop where
 nf : ow.map bM.nf = L
 len : ws.length = 64
 row : ∀ o ∈ ow, Grow 1 o.a o.f.bs.length o.c (o.f.bs.map B8) o.G ∧ Bytes o.f.bs ∧ (0 ≤ o.n ∧ o.n < 64) ∧ nth ws o.n.toNat = .slice o.a o.f.bs.length o.c
 other : ∀ n : Nat, n < 64 → ((n : Nat) : Int) ∉ ow.map (·.n) → nth ws n = nth vs n
theorem wb {M : Rd} {vs : List Value} {o : bM} {r k : Nat} {ws : List Value} (h : Grow 1 o.a o.f.bs.length o.c (o.f.bs.map B8) o.G ∧ Bytes o.f.bs ∧ (0 ≤ o.n ∧ o.n < 64) ∧ nth ws o.n.toNat = .slice o.a o.f.bs.length o.c) :
  Grow 1 (fe o r k).a (fe o r k).f.bs.length (fe o r k).c ((fe o r k).f.bs.map B8) (fe o r k).G ∧ Bytes (fe o r k).f.bs ∧ (0 ≤ (fe o r k).n ∧ (fe o r k).n < 64) ∧ nth ws (fe o r k).n.toNat = .slice (fe o r k).a (fe o r k).f.bs.length (fe o r k).c := by
 obtain ⟨h1, h2, h3, h4⟩ := h
 have hl : (fe o r k).f.bs.length = o.f.bs.length := List.length_set
 refine ⟨?_, ?_, h3, by rw [hl]; exact h4⟩
 · rw [hl]
   rcases h1 with ⟨a1, a2, a3, a4, a5⟩ | ⟨b, a1, a2, a3⟩
   · have hz : o.f.bs = [] := List.length_eq_zero_iff.1 a2
     refine .inl ⟨a1, a2, a3, ?_, ?_⟩
     · unfold fe; simp [hz]
     · unfold fe; simp only [a1]
   · refine .inr ⟨b, a1, ?_, ?_⟩
     · unfold fe; simp only [a1]
     · unfold fe
       simp only [List.length_map, List.length_set] at a3 ⊢
       omega
 · intro y hy
   rcases List.mem_or_eq_of_mem_set hy with p | p
   · exact h2 y p
   · rw [p]; exact iz _ _
theorem nF (k : Nat) {ws : List Value} : ∀ (p : Nat) (l : List bM), (∀ o ∈ l, Grow 1 o.a o.f.bs.length o.c (o.f.bs.map B8) o.G ∧ Bytes o.f.bs ∧ (0 ≤ o.n ∧ o.n < 64) ∧ nth ws o.n.toNat = .slice o.a o.f.bs.length o.c) → ∀ o ∈ fA p k l, Grow 1 o.a o.f.bs.length o.c (o.f.bs.map B8) o.G ∧ Bytes o.f.bs ∧ (0 ≤ o.n ∧ o.n < 64) ∧ nth ws o.n.toNat = .slice o.a o.f.bs.length o.c
 | _, [], h => fun o ho => by simp [fA] at ho
 | p, x :: l, h => by
  unfold fA
  intro o ho
  split at ho
  · rcases List.mem_cons.1 ho with rfl | ho
    · exact wb (M := ⟨0, [], [], false, 0⟩) (vs := []) (h x (List.mem_cons_self ..))
    · exact h o (List.mem_cons_of_mem _ ho)
  · rcases List.mem_cons.1 ho with rfl | ho
    · exact h o (List.mem_cons_self ..)
    · exact nF k (p - bp x.f) l (fun o' h' => h o' (List.mem_cons_of_mem _ h')) o ho
theorem m6 (k : Nat) : ∀ (p : Nat) (l : List bM), (fA p k l).map (·.n) = l.map (·.n)
 | _, [] => rfl
 | p, x :: l => by
  unfold fA
  split
  · rfl
  · rw [List.map_cons, List.map_cons, m6 k _ l]
theorem we.flip {M : Rd} {vs ws : List Value} {L : List (Int × Fi)} {ow : List bM} (h : we M vs L ow ws) (p k : Nat) : we M vs (fU p k L) (fA p k ow) ws :=
 ⟨by rw [pC, h.nf], h.len, nF k p ow h.row, fun n hn hk => h.other n hn (by rw [m6] at hk; exact hk)⟩
def nC (M : Rd) (L : List (Int × Fi)) : List (List Int) := (List.range 64).map fun n => ((bH ((n : Nat) : Int) L).getD ⟨[], 0⟩).bs
theorem we.file {M : Rd} {vs ws : List Value} {L : List (Int × Fi)} {ow : List bM} {R0 : an} (h : we M vs L ow ws) (hR : fJ R0 M vs) (hnd : (L.map (·.1)).Nodup) (hk : ∀ n : Nat, n < 64 → ((n : Nat) : Int) ∉ L.map (·.1) → nth M.B n = []) {n : Nat} (hn : n < 64) : lO (aH ow ++ R0) (nth ws n) (nth (nC M L) n) := by
 have hkeys : ow.map (·.n) = L.map (·.1) := by rw [← h.nf, List.map_map]; rfl
 unfold nC
 rw [cO _ hn]
 by_cases hin : ((n : Nat) : Int) ∈ ow.map (·.n)
 · obtain ⟨o, ho, hon⟩ := List.mem_map.1 hin
   obtain ⟨h1, h2, h3, h4⟩ := h.row o ho
   have hm : bH ((n : Nat) : Int) L = some o.f := kN hnd (by rw [← h.nf, ← hon]; exact List.mem_map.2 ⟨o, ho, rfl⟩)
   rw [hm]
   rw [show o.n.toNat = n by omega] at h4
   rw [h4]
   have hr := h1.oK (R := ([] : an))
   rw [List.append_nil] at hr
   exact ⟨o.a, o.c, rfl, hr.inc fun g hg => hg.sub fun Q => by
    have := iD Q ho
    simp only [List.countP_append]
    omega, fun q => (h1.eh q).1, h2⟩
 · have hz := hk n hn (by rw [← hkeys]; exact hin)
   rw [eZ (by rw [← hkeys]; exact hin), h.other n hn hin]
   have := hR.file n hn
   rw [hz] at this
   exact this.app
end Go.Proofs.YthekokdpplobhaaGreat.Eng

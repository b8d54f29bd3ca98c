/- The reference's disk in plain lists, and that both disks answer alike. | The reference's crash in plain lists. | Arm, On, Copy, Rot. | Append to a file of a disk. | The section's examples. | A disk that never fails, in plain lists. | The reference's disk: New, Used, Files, step, Append, Sync, Truncate, Arm. | The reference's disk: New, Append, Sync, Truncate, Files. | The reference's disk: Files, Copy. | The reference's crash, walked. | The reference's crash, walked. | Operations made from numbers; Ints; equal slices of ints. Own work; no condition. -/
import Derived.Test.YtahaplbdhgfobaaDiskRotsM1
import Derived.Test.YtahaplbdhgfobaaDiskRotsM2
import Derived.Test.YtahaplbdhgfobaaDiskRotsM3
set_option linter.unusedVariables false
set_option linter.unusedSimpArgs false
namespace Go.Proofs.Ytahaplbdhgfobaa.Eng
structure Rd where
 room : Int
 B : List (List Int)
 F : List Int
 off : Bool
 plan : Int
def sumR (g : Nat → Int) : Nat → Int
 | 0 => 0
 | n + 1 => sumR g n + g n
def lenR (M : Rd) (n : Nat) : Int := ((nth M.B n).length : Nat)
def usedR (M : Rd) : Int := sumR (lenR M) 64
def failsR (M : Rd) : Rd := { M with plan := max (M.plan - 1) (-2), off := M.off || decide (max (M.plan - 1) (-2) = -1) }
def stepR (M : Rd) : Bool × Rd := if M.plan < 0 then (false, M) else ((failsR M).off, failsR M)
def appendR1 (M : Rd) (n : Int) (b : List Int) : Rd := { M with B := M.B.set n.toNat (nth M.B n.toNat ++ b) }
def appendR (M : Rd) (n : Int) (b : List Int) : Int × Rd :=
 if n < 0 ∨ n > 63 then (1, M) else if M.off = true then (23, M) else if usedR M + b.length > M.room then (22, M)
 else (if (stepR (appendR1 M n b)).1 = true then 23 else 0, (stepR (appendR1 M n b)).2)
def firmR (M : Rd) : Rd := { M with F := (List.range 64).map (lenR M) }
def syncR (M : Rd) : Int × Rd := if M.off = true then (23, M) else if (stepR M).1 = true then (23, (stepR M).2) else (0, firmR (stepR M).2)
def truncR (M : Rd) (n size : Int) : Int × Rd :=
 if n < 0 ∨ n > 63 ∨ size < 0 ∨ size > lenR M n.toNat then (1, M) else if M.off = true then (23, M) else if (stepR M).1 = true then (23, (stepR M).2)
 else (0, { (stepR M).2 with B := (stepR M).2.B.set n.toNat ((nth (stepR M).2.B n.toNat).take size.toNat), F := (stepR M).2.F.set n.toNat (min (nth (stepR M).2.F n.toNat) size) })
def armR (M : Rd) (n : Int) : Rd := if M.off = true then M else { M with plan := max n (-1) }
def armD (D : Dk) (n : Int) : Dk := if D.off = true then D else { D with armed := decide (0 ≤ n), left := n }
structure Sim (D : Dk) (M : Rd) : Prop where
 room : M.room = D.room
 off : M.off = D.off
 pl : (D.armed = true ∧ M.plan = D.left ∧ 0 ≤ D.left) ∨ (D.armed = false ∧ M.plan < 0 ∧ -2 ≤ M.plan)
 lenB : M.B.length = 64
 lenF : M.F.length = 64
 file : ∀ n : Nat, n < 64 → getF D.fs (n : Nat) = ⟨nth M.B n, nth M.F n⟩
theorem sumR_congr {g h : Nat → Int} : ∀ {n : Nat}, (∀ i, i < n → g i = h i) → sumR g n = sumR h n
 | 0, _ => rfl
 | n + 1, hh => by
  unfold sumR
  rw [sumR_congr fun i hi => hh i (Nat.lt_succ_of_lt hi), hh n (Nat.lt_succ_self n)]
theorem sumR_upd (g : Nat → Int) (k : Nat) (a : Int) : ∀ n, sumR (fun i => if i = k then a else g i) n = sumR g n + (if k < n then a - g k else 0)
 | 0 => rfl
 | n + 1 => by
  unfold sumR
  rw [sumR_upd g k a n]
  by_cases h1 : n = k
  · subst h1
    rw [if_pos rfl, if_neg (by omega), if_pos (by omega)]
    omega
  · rw [if_neg h1]
    by_cases h2 : k < n
    · rw [if_pos h2, if_pos (by omega)]; omega
    · rw [if_neg h2, if_neg (by omega)]; omega
theorem used_sum : ∀ {fs : List (Int × Fi)}, (fs.map (·.1)).Nodup → (∀ e ∈ fs, 0 ≤ e.1 ∧ e.1 < 64) → used fs = sumR (fun n => ((getF fs (n : Nat)).bs.length : Nat)) 64
 | [], _, _ => by
  show (0 : Int) = sumR (fun _ => (0 : Int)) 64
  decide
 | (k, f) :: l, hn, hr => by
  simp only [List.map_cons, List.nodup_cons] at hn
  have ih := used_sum hn.2 fun e he => hr e (List.mem_cons_of_mem _ he)
  have hk := hr (k, f) (List.mem_cons_self ..)
  have h0 : getF l k = ⟨[], 0⟩ := by unfold getF; rw [mget_none hn.1]; rfl
  have e1 : sumR (fun n => ((getF ((k, f) :: l) (n : Nat)).bs.length : Nat)) 64 = sumR (fun i => if i = k.toNat then (f.bs.length : Int) else ((getF l (i : Nat)).bs.length : Nat)) 64 := sumR_congr fun i hi => by
   unfold getF
   simp only [mget]
   by_cases hik : ((i : Nat) : Int) = k
   · rw [if_pos hik, if_pos (by omega)]; rfl
   · rw [if_neg hik, if_neg (by omega)]
  rw [e1, sumR_upd, if_pos (by omega), ← ih]
  have e2 : (((getF l ((k.toNat : Nat) : Int)).bs.length : Nat) : Int) = 0 := by
   rw [show ((k.toNat : Nat) : Int) = k by omega, h0]; rfl
  show (f.bs.length : Int) + used l = _
  omega
theorem DkI.used_sum {R : Objs} {D : Dk} {mx : MapX} (h : DkI R D mx) : Eng.used D.fs = sumR (fun n => ((getF D.fs (n : Nat)).bs.length : Nat)) 64 := Eng.used_sum h.di.nd fun e he => (h.ok e he).1
theorem Sim.used {R : Objs} {D : Dk} {M : Rd} {mx : MapX} (h : Sim D M) (hD : DkI R D mx) : usedR M = Eng.used D.fs := by
 rw [hD.used_sum]
 exact sumR_congr fun i hi => by unfold lenR; rw [h.file i hi]
theorem nth_setE {α : Type} [Inhabited α] {l : List α} {k i : Nat} {x : α} (hk : k < l.length) : nth (l.set k x) i = if i = k then x else nth l i := by
 unfold nth
 simp only [List.getD_eq_getElem?_getD, List.getElem?_set]
 by_cases h : k = i
 · subst h; rw [if_pos rfl, if_pos hk, if_pos rfl]; rfl
 · rw [if_neg h, if_neg (Ne.symm h)]
theorem nth_map_range {α : Type} [Inhabited α] (g : Nat → α) {n i : Nat} (h : i < n) : nth ((List.range n).map g) i = g i := by
 rw [nth_get (by rw [List.length_map, List.length_range]; exact h)]
 simp
theorem sim_step {D : Dk} {M : Rd} (h : Sim D M) (ho : D.off = false) : (stepR M).1 = !(stepD D).1 ∧ Sim (stepD D).2 (stepR M).2 := by
 unfold stepD stepR
 rcases h.pl with ⟨ha, hp, hl⟩ | ⟨ha, hp, hp2⟩
 · rw [if_neg (show ¬ D.armed = false by rw [ha]; simp), if_neg (show ¬ M.plan < 0 by omega)]
   by_cases hz : D.left - 1 < 0
   · have hm : max (M.plan - 1) (-2) = -1 := by omega
     rw [if_pos hz]
     refine ⟨by simp [failsR, hm], h.room, by simp [failsR, hm], .inr ⟨rfl, ?_, ?_⟩, h.lenB, h.lenF, h.file⟩
     · show max (M.plan - 1) (-2) < 0; omega
     · show -2 ≤ max (M.plan - 1) (-2); omega
   · have hm : max (M.plan - 1) (-2) = D.left - 1 := by omega
     have hne : ¬ max (M.plan - 1) (-2) = -1 := by omega
     rw [if_neg hz]
     refine ⟨by simp [failsR, hne, h.off, ho], h.room, by simp [failsR, hne, h.off], .inl ⟨ha, hm, by show 0 ≤ D.left - 1; omega⟩, h.lenB, h.lenF, h.file⟩
 · rw [if_pos ha, if_pos hp]
   exact ⟨rfl, h⟩
theorem sim_append {R : Objs} {D : Dk} {M : Rd} {mx : MapX} (h : Sim D M) (hD : DkI R D mx) (n : Int) (b : List Int) : (appendR M n b).1 = (appendD D n b).1 ∧ Sim (appendD D n b).2 (appendR M n b).2 := by
 have hu := h.used hD
 unfold appendD appendR
 by_cases h1 : ¬ (0 ≤ n ∧ n < 64)
 · rw [if_pos h1, if_pos (show n < 0 ∨ n > 63 by omega)]; exact ⟨rfl, h⟩
 rw [if_neg h1, if_neg (show ¬ (n < 0 ∨ n > 63) by omega)]
 by_cases h2 : D.off = true
 · rw [if_pos h2, if_pos (show M.off = true by rw [h.off]; exact h2)]; exact ⟨rfl, h⟩
 rw [if_neg h2, if_neg (show ¬ M.off = true by rw [h.off]; exact h2)]
 by_cases h3 : (b.length : Int) > D.room - Eng.used D.fs
 · rw [if_pos h3, if_pos (show usedR M + b.length > M.room by rw [hu, h.room]; omega)]; exact ⟨rfl, h⟩
 rw [if_neg h3, if_neg (show ¬ usedR M + b.length > M.room by rw [hu, h.room]; omega)]
 obtain ⟨k, rfl⟩ : ∃ k : Nat, n = (k : Int) := ⟨n.toNat, by omega⟩
 have hk : k < 64 := by omega
 have hs : Sim (appD1 D (k : Nat) b) (appendR1 M (k : Nat) b) := ⟨h.room, h.off, h.pl, by unfold appendR1; simp only [List.length_set]; exact h.lenB, h.lenF, fun i hi => by
  show getF (setF D.fs (k : Nat) _) (i : Nat) = _
  rw [get_set' hD.di.nd]
  unfold appendR1
  simp only [Int.toNat_natCast]
  rw [nth_setE (by rw [h.lenB]; exact hk), h.file k hk]
  have hd := hD.get_d ((k : Nat) : Int)
  rw [h.file k hk] at hd
  by_cases hik : i = k
  · subst hik
    rw [if_pos rfl, if_pos rfl]
    split
    · rename_i hb0
      simp only at hb0 hd
      rw [(List.append_eq_nil_iff.1 hb0).1] at hd
      have : nth M.F i = 0 := by simp at hd; omega
      rw [hb0, this]
    · rfl
  · rw [if_neg (by omega), if_neg hik, h.file i hi]⟩
 have hoff : (appD1 D (k : Nat) b).off = false := by
  show D.off = false
  simpa using h2
 obtain ⟨e1, e2⟩ := sim_step hs hoff
 refine ⟨?_, e2⟩
 rw [e1]
 cases (stepD (appD1 D (k : Nat) b)).1 <;> rfl
theorem sim_sync {D : Dk} {M : Rd} (h : Sim D M) : (syncR M).1 = (syncD D).1 ∧ Sim (syncD D).2 (syncR M).2 := by
 unfold syncD syncR
 by_cases h2 : D.off = true
 · rw [if_pos h2, if_pos (show M.off = true by rw [h.off]; exact h2)]; exact ⟨rfl, h⟩
 rw [if_neg h2, if_neg (show ¬ M.off = true by rw [h.off]; exact h2)]
 obtain ⟨e1, e2⟩ := sim_step h (by simpa using h2)
 rw [e1]
 cases hs : (stepD D).1
 · rw [if_pos (show (!false) = true from rfl), if_pos (show false = false from rfl)]; exact ⟨rfl, e2⟩
 · rw [if_neg (show ¬ (!true) = true by simp), if_neg (show ¬ true = false by simp)]
   refine ⟨rfl, e2.room, e2.off, e2.pl, e2.lenB, by unfold firmR; simp, fun i hi => ?_⟩
   show getF (hardAll (stepD D).2.fs) (i : Nat) = _
   rw [get_hardE, e2.file i hi]
   unfold firmR
   simp only
   rw [nth_map_range _ hi]
   rfl
theorem sim_trunc {R : Objs} {D : Dk} {M : Rd} {mx : MapX} (h : Sim D M) (hD : DkI R D mx) (n size : Int) : (truncR M n size).1 = (truncD D n size).1 ∧ Sim (truncD D n size).2 (truncR M n size).2 := by
 unfold truncD truncR
 by_cases h0 : ¬ (0 ≤ n ∧ n < 64)
 · rw [if_pos (show n < 0 ∨ n > 63 ∨ size < 0 ∨ size > lenR M n.toNat by omega), if_pos (show ¬ (0 ≤ n ∧ n < 64) ∨ size < 0 ∨ size > ((getF D.fs n).bs.length : Int) from .inl h0)]; exact ⟨rfl, h⟩
 obtain ⟨k, rfl⟩ : ∃ k : Nat, n = (k : Int) := ⟨n.toNat, by omega⟩
 have hk : k < 64 := by omega
 have hl : lenR M k = ((getF D.fs (k : Nat)).bs.length : Nat) := by unfold lenR; rw [h.file k hk]
 simp only [Int.toNat_natCast]
 rw [hl]
 by_cases h1 : size < 0 ∨ size > ((getF D.fs (k : Nat)).bs.length : Int)
 · rw [if_pos (show ((k : Nat) : Int) < 0 ∨ ((k : Nat) : Int) > 63 ∨ size < 0 ∨ size > ((getF D.fs (k : Nat)).bs.length : Int) by omega), if_pos (show ¬ (0 ≤ ((k : Nat) : Int) ∧ ((k : Nat) : Int) < 64) ∨ size < 0 ∨ size > ((getF D.fs (k : Nat)).bs.length : Int) by omega)]; exact ⟨rfl, h⟩
 rw [if_neg (show ¬ (((k : Nat) : Int) < 0 ∨ ((k : Nat) : Int) > 63 ∨ size < 0 ∨ size > ((getF D.fs (k : Nat)).bs.length : Int)) by omega), if_neg (show ¬ (¬ (0 ≤ ((k : Nat) : Int) ∧ ((k : Nat) : Int) < 64) ∨ size < 0 ∨ size > ((getF D.fs (k : Nat)).bs.length : Int)) by omega)]
 by_cases h2 : D.off = true
 · rw [if_pos h2, if_pos (show M.off = true by rw [h.off]; exact h2)]; exact ⟨rfl, h⟩
 rw [if_neg h2, if_neg (show ¬ M.off = true by rw [h.off]; exact h2)]
 obtain ⟨e1, e2⟩ := sim_step h (by simpa using h2)
 rw [e1]
 cases hs : (stepD D).1
 · rw [if_pos (show (!false) = true from rfl), if_pos (show false = false from rfl)]; exact ⟨rfl, e2⟩
 · rw [if_neg (show ¬ (!true) = true by simp), if_neg (show ¬ true = false by simp)]
   obtain ⟨q1, q2⟩ := stepD_fs D
   have hk2 := e2.file k hk
   rw [q1] at hk2
   refine ⟨rfl, e2.room, e2.off, e2.pl, by simp only [List.length_set]; exact e2.lenB, by simp only [List.length_set]; exact e2.lenF, fun i hi => ?_⟩
   show getF (setF D.fs (k : Nat) _) (i : Nat) = _
   rw [get_set' hD.di.nd]
   simp only
   rw [nth_setE (by rw [e2.lenB]; exact hk), nth_setE (by rw [e2.lenF]; exact hk)]
   have hd := hD.get_d ((k : Nat) : Int)
   by_cases hik : i = k
   · subst hik
     rw [if_pos rfl, if_pos rfl, if_pos rfl, hk2]
     rw [hk2] at hd
     simp only at hd ⊢
     split
     · rename_i hb0
       have hlz := congrArg List.length hb0
       rw [List.length_take] at hlz
       rw [hk2] at h1
       simp only [List.length_nil] at hlz h1
       rw [hb0]
       congr 1
       omega
     · rfl
   · rw [if_neg (by omega), if_neg hik, if_neg hik]
     have := e2.file i hi
     rw [q1] at this
     exact this
theorem sim_arm {D : Dk} {M : Rd} (h : Sim D M) (n : Int) : Sim (armD D n) (armR M n) := by
 unfold armD armR
 by_cases h2 : D.off = true
 · rw [if_pos h2, if_pos (show M.off = true by rw [h.off]; exact h2)]; exact h
 rw [if_neg h2, if_neg (show ¬ M.off = true by rw [h.off]; exact h2)]
 refine ⟨h.room, h.off, ?_, h.lenB, h.lenF, h.file⟩
 by_cases hn : 0 ≤ n
 · exact .inl ⟨decide_eq_true hn, by show max n (-1) = n; omega, hn⟩
 · exact .inr ⟨decide_eq_false hn, by show max n (-1) < 0; omega, by show -2 ≤ max n (-1); omega⟩
end Go.Proofs.Ytahaplbdhgfobaa.Eng
set_option linter.unusedVariables false
set_option linter.unusedSimpArgs false
namespace Go.Proofs.Ytahaplbdhgfobaa.Eng
def filesR (M : Rd) : List Nat := (List.range 64).filter fun i => decide (0 < (nth M.B i).length)
def fiR (M : Rd) (n : Nat) : Fi := ⟨nth M.B n, nth M.F n⟩
def cutAtR (M : Rd) (keep : List Int) (i : Nat) : Int × Fi := (((nth (filesR M) i : Nat) : Int), cutF keep i (fiR M (nth (filesR M) i)))
def cutsR (M : Rd) (keep : List Int) (i : Nat) : List (Int × Fi) := (List.range i).map (cutAtR M keep)
def crashCR (M : Rd) (keep : List Int) (flip : Int) : List (Int × Fi) :=
 let l := cutsR M keep (filesR M).length
 let m := 8 * looseSum l
 if 0 ≤ flip ∧ 0 < m then flipC (flip.toNat % m / 8) (7 - flip.toNat % m % 8) l else l
def crashR (M : Rd) (keep : List Int) (flip : Int) : Rd :=
 { room := M.room, off := false, plan := -1, B := (List.range 64).map fun n => ((mget ((n : Nat) : Int) (crashCR M keep flip)).getD ⟨[], 0⟩).bs, F := (List.range 64).map fun n => ((((mget ((n : Nat) : Int) (crashCR M keep flip)).getD ⟨[], 0⟩).bs.length : Nat) : Int) }
theorem filesR_mem {M : Rd} {n : Nat} : n ∈ filesR M ↔ n < 64 ∧ nth M.B n ≠ [] := by
 unfold filesR
 rw [List.mem_filter, List.mem_range, decide_eq_true_eq, List.length_pos_iff]
theorem fnos_files {D : Dk} {M : Rd} {R : Objs} {mx : MapX} (h : Sim D M) (hD : DkI R D mx) : fnos D = (filesR M).map fun n => ((n : Nat) : Int) := by
 have tr : ∀ a b c : Int, decide (a ≤ b) = true → decide (b ≤ c) = true → decide (a ≤ c) = true := fun a b c h1 h2 => by simp only [decide_eq_true_eq] at *; omega
 have to : ∀ a b : Int, (decide (a ≤ b) || decide (b ≤ a)) = true := fun a b => by simp only [Bool.or_eq_true, decide_eq_true_eq]; omega
 have hs1 : (fnos D).Pairwise fun a b => decide (a ≤ b) = true := List.pairwise_mergeSort tr to _
 have hs2 : ((filesR M).map fun n => ((n : Nat) : Int)).Pairwise fun a b => decide (a ≤ b) = true := by
  refine List.pairwise_map.2 ((List.pairwise_lt_range.filter _).imp fun q => ?_)
  simp only [decide_eq_true_eq]
  omega
 have hnd2 : ((filesR M).map fun n => ((n : Nat) : Int)).Nodup := by
  refine List.pairwise_map.2 ((List.pairwise_lt_range.filter _).imp fun q => ?_)
  omega
 have hp : (fnos D).Perm ((filesR M).map fun n => ((n : Nat) : Int)) := by
  refine (List.perm_ext_iff_of_nodup (fnos_nd hD) hnd2).2 fun m => ?_
  rw [fnos_mem, List.mem_map, List.mem_map]
  constructor
  · rintro ⟨e, he, rfl⟩
    obtain ⟨h1, h2, _⟩ := hD.ok e he
    refine ⟨e.1.toNat, filesR_mem.2 ⟨by omega, ?_⟩, by omega⟩
    have h3 : getF D.fs e.1 = e.2 := by unfold getF; rw [mget_some hD.di.nd (v := e.2) he]; rfl
    have h4 := h.file e.1.toNat (by omega)
    rw [show ((e.1.toNat : Nat) : Int) = e.1 by omega, h3] at h4
    intro hz
    exact h2 (by rw [h4, hz])
  · rintro ⟨n, hn, rfl⟩
    obtain ⟨h1, h2⟩ := filesR_mem.1 hn
    have h4 := h.file n h1
    cases hg : mget ((n : Nat) : Int) D.fs with
    | none =>
     unfold getF at h4
     rw [hg] at h4
     injection h4 with h5 _
     exact absurd h5.symm h2
    | some f => exact ⟨_, mget_mem hg, rfl⟩
 refine List.Perm.eq_of_pairwise (le := fun a b => decide (a ≤ b) = true) (fun a b _ _ h1 h2 => ?_) hs1 hs2 hp
 simp only [decide_eq_true_eq] at h1 h2
 omega
theorem crashC_R {D : Dk} {M : Rd} {R : Objs} {mx : MapX} (h : Sim D M) (hD : DkI R D mx) (keep : List Int) (flip : Int) : crashC D keep flip = crashCR M keep flip := by
 have hf := fnos_files h hD
 have hl : (fnos D).length = (filesR M).length := by rw [hf, List.length_map]
 have hc : cuts D keep (fnos D).length = cutsR M keep (filesR M).length := by
  unfold cuts cutsR
  rw [hl]
  refine List.map_congr_left fun i hi => ?_
  have hi := List.mem_range.1 hi
  have hn : nth (fnos D) i = ((nth (filesR M) i : Nat) : Int) := by
   rw [nth_get (by rw [hl]; exact hi), nth_get hi]
   simp only [hf, List.getElem_map]
  have hr := (filesR_mem.1 (nth_mem hi)).1
  unfold cutAt cutAtR
  rw [hn, h.file _ hr]
  rfl
 unfold crashC crashCR
 rw [hc]
theorem sim_crash {D D' : Dk} {M : Rd} {R : Objs} {mx : MapX} (h : Sim D M) (hD : DkI R D mx) {keep : List Int} {flip : Int} (h1 : D'.room = D.room) (h2 : D'.off = false) (h3 : D'.armed = false) (h4 : ∀ m, getF D'.fs m = ((mget m (crashC D keep flip)).getD ⟨[], 0⟩).hard) : Sim D' (crashR M keep flip) := by
 refine ⟨by rw [h1]; exact h.room, h2.symm, .inr ⟨h3, by show (-1 : Int) < 0; decide, by show (-2 : Int) ≤ -1; decide⟩, by unfold crashR; simp, by unfold crashR; simp, fun i hi => ?_⟩
 rw [h4, crashC_R h hD]
 unfold crashR
 simp only
 rw [nth_map_range _ hi, nth_map_range _ hi]
 rfl
end Go.Proofs.Ytahaplbdhgfobaa.Eng
set_option linter.unusedVariables false
set_option linter.unusedSimpArgs false
namespace Go.Proofs.Ytahaplbdhgfobaa.Eng
theorem Sat.app_left {h : AHeap} {N O : Objs} (hs : Sat h (N ++ O)) : Sat h N :=
 ⟨by
  have := hs.nd
  rw [List.map_append, List.nodup_append] at this
  exact this.1, fun p hp => hs.is p (List.mem_append_left _ hp), hs.wf⟩
theorem arm_ok (R : Objs) (d bm : Nat) (D : Dk) (mx : MapX) (n : Int) : Spec Try.prog false 28 #[Ptr d 0, I n] (dkO d bm D mx R) fun v O' => O' = dkO d bm (armD D n) mx R := by
 refine Spec.enter (args := [_, _]) (m := 18) Try.func28 rfl rfl (by decide +kernel) fun h0 => ?_
 refine WX.seq ?_
 refine WX.region rfl ?_
 refine WXL.move Met.none rfl ?_
 refine WXL.nilCheck Met.none rfl ?_
 first | refine WXL.fieldAddr Met.none rfl Try.underlying68 rfl sz4 rfl ?_ | refine WXL.faS Met.none rfl Try.underlying68 rfl sz4 ?_
 first | refine WXL.ld Met.none rfl agg4 ?_ | refine WXL.ldS Met.none rfl agg4 ?_
 refine WXL.not Met.none rfl ?_
 refine WXL.nil ?_
 refine Fin.then_normal ?_
 refine WX.cond rfl (fun hc0 => ?_) (fun hc0 => ?_)
 · try simp only [cnd] at hc0
   refine WX.region rfl ?_
   refine WXL.move Met.none rfl ?_
   refine WXL.move Met.none rfl ?_
   refine WXL.move Met.none rfl ?_
   refine WXL.bin Met.none rfl rfl rfl ?_
   refine WXL.move Met.none rfl ?_
   refine WXL.nilCheck Met.none rfl ?_
   first | refine WXL.fieldAddr Met.none rfl Try.underlying68 rfl sz4 rfl ?_ | refine WXL.faS Met.none rfl Try.underlying68 rfl sz4 ?_
   refine WXL.st (vs := [_]) (j := 0) Met.none rfl rfl rfl sz4 ?_ (hj := rfl)
   refine WXL.nilCheck Met.none rfl ?_
   first | refine WXL.fieldAddr Met.none rfl Try.underlying68 rfl sz3 rfl ?_ | refine WXL.faS Met.none rfl Try.underlying68 rfl sz3 ?_
   refine WXL.st (vs := [_]) (j := 0) Met.none rfl rfl rfl sz3 ?_ (hj := rfl)
   refine WXL.nil ?_
   first
   | exact Fin.result (O' := dkO d bm { D with armed := decide (0 ≤ n), left := n } mx R) (.inl rfl) rfl rfl drop_ (by unfold armD; rw [if_neg (by simp [hc0])])
   | exact Fin.result (O' := dkO d bm D mx R) (.inl rfl) rfl rfl drop_ (by unfold armD; rw [if_pos hc0])
 · try simp only [cnd] at hc0
   refine WX.skip ?_
   first
   | exact Fin.result (O' := dkO d bm { D with armed := decide (0 ≤ n), left := n } mx R) (.inl rfl) rfl rfl drop_ (by unfold armD; rw [if_neg (by simp [hc0])])
   | exact Fin.result (O' := dkO d bm D mx R) (.inl rfl) rfl rfl drop_ (by unfold armD; rw [if_pos hc0])
theorem DkI.arm {R : Objs} {D : Dk} {mx : MapX} (h : DkI R D mx) {n : Int} (hn : n < 9223372036854775808) : DkI R (armD D n) mx := by
 unfold armD
 split
 · exact h
 · exact ⟨h.di, h.ok, h.room, (fun q => ⟨by simpa using q, hn⟩), h.used⟩
theorem copy_ok (R : Objs) (d bm : Nat) (D : Dk) (mx : MapX) : Spec Try.prog false 30 #[Ptr d 0] (dkO d bm D mx R) fun v O' => ∃ d' bm', v = Ptr d' 0 ∧ O' = dkO d' bm' D mx (dkO d bm D mx R) := by
 refine Spec.enter (args := [_]) (m := 13) Try.func30 rfl rfl (by decide +kernel) fun h0 => ?_
 refine WX.seq ?_
 refine WX.region rfl ?_
 refine WXL.assign Met.none rfl ?_
 refine WXL.nil ?_
 refine Fin.then_normal ?_
 refine WX.seq ?_
 refine WX.region rfl ?_
 refine WXL.move Met.none rfl ?_
 refine WXL.nilCheck Met.none rfl ?_
 first | refine WXL.ldN Met.none rfl agg68 sz68 ?_ | refine WXL.ldNS Met.none rfl agg68 sz68 ?_
 refine WXL.alloc (c := [_, _, _, _, _]) Met.none zero68 rfl (fun b3 => ?_)
 refine WXL.st (vs := [_, _, _, _, _]) (c' := [_, _, _, _, _]) (j := 0) Met.none rfl rfl rfl sz68 ?_ (hj := rfl)
 refine WXL.nil ?_
 refine Fin.then_normal ?_
 refine WX.seq ?_
 refine WX.region rfl ?_
 refine WXL.move Met.none rfl ?_
 refine WXL.nilCheck Met.none rfl ?_
 first | refine WXL.fieldAddr Met.none rfl Try.underlying68 rfl sz66 rfl ?_ | refine WXL.faS Met.none rfl Try.underlying68 rfl sz66 ?_
 first | refine WXL.ld Met.none rfl agg66 ?_ | refine WXL.ldS Met.none rfl agg66 ?_
 refine WXL.cl (O1 := _) Met.none rfl (fnOk_of Try.func50 (by decide +kernel)) rfl (fun _ h => h) (cloneM_ok _ _ bm 2 false mx at_) (fun v O' hp => ?_)
 obtain ⟨b11, rfl, rfl⟩ := hp
 refine WXL.fieldAddr (off' := 0) Met.none rfl Try.underlying68 rfl sz66 rfl ?_
 refine WXL.st (vs := [_]) (c' := [_, _, _, _, _]) (j := 1) Met.none rfl rfl rfl sz66 ?_ (hj := rfl)
 refine WXL.nil ?_
 refine Fin.then_normal ?_
 refine WX.seq ?_
 refine WX.region rfl ?_
 refine WXL.assign Met.none rfl ?_
 refine WXL.nil ?_
 refine Fin.then_normal ?_
 refine WX.ret ?_
 exact Fin.result (O' := dkO b3 b11 D mx (dkO d bm D mx R)) (.inr rfl) rfl rfl (fun _ hs => hs.tl [1, 0] 2) ⟨b3, b11, rfl, rfl⟩
def rotD (D : Dk) (n bit : Int) : Int × Dk :=
 if ¬ (0 ≤ n ∧ n < 64) ∨ bit < 0 ∨ bit.toNat / 8 ≥ (getF D.fs n).bs.length then (1, D)
 else (0, { D with fs := setF D.fs n ⟨(getF D.fs n).bs.set (bit.toNat / 8) (flipB (nth (getF D.fs n).bs (bit.toNat / 8)) (7 - bit.toNat % 8)), (getF D.fs n).d⟩ })
theorem rot_ok (R : Objs) {R0 : Objs} (d bm : Nat) (D : Dk) (mx : MapX) (n bit : Int) (hD : DkI R0 D mx) (hi : ∀ g, Sat g R → Sat g R0) (hb64 : In64 bit) :
  Spec Try.prog false 34 #[Ptr d 0, I n, I bit] (dkO d bm D mx R) fun v O' => ∃ mx' N, v = I (rotD D n bit).1 ∧ O' = dkO d bm (rotD D n bit).2 mx' (N ++ R) ∧ DkI (N ++ R0) (rotD D n bit).2 mx' := by
 obtain ⟨fa, fc, hfv, hrow0, hnil, hB⟩ := hD.di.get n
 have hrow := hrow0.inc hi
 have hlen := hD.get_len n
 have hbq : 0 ≤ bit → bit.tdiv 8 = ((bit.toNat / 8 : Nat) : Int) := fun h => by rw [Int.tdiv_eq_ediv_of_nonneg h]; omega
 have hbm : 0 ≤ bit → bit.tmod 8 = ((bit.toNat % 8 : Nat) : Int) := fun h => by rw [Int.tmod_eq_emod_of_nonneg h]; omega
 have hbw : IntKind.wrap .i64 (bit.tdiv 8) = bit.tdiv 8 := by
  unfold In64 at hb64
  have h1 : bit.tdiv 8 ≤ 9223372036854775807 ∧ -9223372036854775808 ≤ bit.tdiv 8 := by
   rcases Int.lt_or_le bit 0 with h | h
   · have h2 : (-bit).tdiv 8 = -(bit.tdiv 8) := Int.neg_tdiv _ _
     rw [Int.tdiv_eq_ediv_of_nonneg (by omega)] at h2
     omega
   · rw [hbq h]; omega
  exact wrap_i64 (by omega) (by omega)
 refine Spec.enter (args := [_, _, _]) (m := 49) Try.func34 rfl rfl (by decide +kernel) fun h0 => ?_
 refine WX.seq ?_
 refine WX.region rfl ?_
 refine WXL.assign Met.none rfl ?_
 refine WXL.nil ?_
 refine Fin.then_normal ?_
 refine WX.seq ?_
 refine WX.region rfl ?_
 refine WXL.move Met.none rfl ?_
 refine WXL.nilCheck Met.none rfl ?_
 first | refine WXL.fieldAddr Met.none rfl Try.underlying68 rfl sz66 rfl ?_ | refine WXL.faS Met.none rfl Try.underlying68 rfl sz66 ?_
 first | refine WXL.ld Met.none rfl agg66 ?_ | refine WXL.ldS Met.none rfl agg66 ?_
 refine WXL.move Met.none rfl ?_
 refine WXL.lookup Met.none rfl rfl mapT66 zero71 at_ (show _ = fileV fa (getF D.fs n).bs.length fc (getF D.fs n).d from hfv) ?_
 refine WXL.alloc (c := [_, _]) Met.none zero71 rfl (fun b7 => ?_)
 refine WXL.st (vs := [_, _]) (c' := [_, _]) (j := 0) Met.none rfl rfl rfl sz71 ?_ (hj := rfl)
 refine WXL.nil ?_
 refine Fin.then_normal ?_
 refine WX.seq ?_
 refine WX.seq ?_
 refine WX.region rfl ?_
 refine WXL.move Met.none rfl ?_
 refine WXL.cl (O1 := _) Met.none rfl (fnOk_of Try.func36 (by decide +kernel)) rfl (fun _ h => h) (exists_ok _ n) (fun v O' hp => ?_)
 obtain ⟨rfl, hO⟩ := hp
 subst O'
 refine WXL.not Met.none rfl ?_
 refine WXL.move Met.none rfl ?_
 refine WXL.split (d := 17) rfl (fun hg17 => ?_) (fun hg17 => ?_)
 · try simp only [cnd] at hg17
   refine WXL.miss (j := 3) (d := 17) rfl rfl rfl ?_
   refine WXL.miss (j := 3) (d := 17) rfl rfl rfl ?_
   refine WXL.pick_t Met.none rfl rfl ?_
   refine WXL.move Met.none rfl ?_
   refine WXL.miss (j := 7) (d := 21) rfl rfl rfl ?_
   refine WXL.miss (j := 7) (d := 21) rfl rfl rfl ?_
   refine WXL.miss (j := 7) (d := 21) rfl rfl rfl ?_
   refine WXL.miss (j := 7) (d := 21) rfl rfl rfl ?_
   refine WXL.miss (j := 7) (d := 21) rfl rfl rfl ?_
   refine WXL.miss (j := 7) (d := 21) rfl rfl rfl ?_
   refine WXL.pick_t Met.none rfl rfl ?_
   refine WXL.nil ?_
   refine Fin.then_normal ?_
   refine WX.cond rfl (fun hc0 => ?_) (fun hc0 => nomatch hc0)
   refine WX.seq ?_
   refine WX.region rfl ?_
   refine WXL.assign Met.none rfl ?_
   refine WXL.nil ?_
   refine Fin.then_normal ?_
   refine WX.ret ?_
   refine Fin.then_ret ?_
   first
   | exact Fin.result (O' := dkO d bm D mx ([] ++ R)) (.inr rfl) rfl rfl drop_ (by unfold rotD; rw [if_pos (by omega)]; exact ⟨mx, [], rfl, rfl, hD⟩)
   | exact Fin.result (O' := dkO d bm D mx ([] ++ R)) (.inr rfl) rfl rfl drop_ (by unfold rotD; rw [if_pos (by rcases Int.lt_or_le bit 0 with h | h; exact .inr (.inl h); have := hbq h; omega)]; exact ⟨mx, [], rfl, rfl, hD⟩)
   | exact Fin.result (O' := dkO d bm { D with fs := setF D.fs n f2 } (setX mx n (fileV (some ⟨b31, 0, none⟩) (getF D.fs n).bs.length c31 (getF D.fs n).d) (getF D.fs n).bs.length) ([(b31, ⟨1, false, f2.bs.map B8⟩)] ++ R)) (.inr rfl) rfl rfl sub_ (by
     unfold rotD
     rw [if_neg (by omega), ← hk, ← hf2]
     exact ⟨_, _, rfl, rfl, hD2⟩)
 · try simp only [cnd] at hg17
   refine WXL.move (Met.some rfl rfl rfl) rfl ?_
   refine WXL.bin (Met.some rfl rfl rfl) rfl rfl rfl ?_
   refine WXL.pick_f Met.none rfl rfl ?_
   refine WXL.move Met.none rfl ?_
   refine WXL.split (d := 21) rfl (fun hg21 => ?_) (fun hg21 => ?_)
   · try simp only [cnd] at hg21
     refine WXL.miss (j := 7) (d := 21) rfl rfl rfl ?_
     refine WXL.miss (j := 7) (d := 21) rfl rfl rfl ?_
     refine WXL.miss (j := 7) (d := 21) rfl rfl rfl ?_
     refine WXL.miss (j := 7) (d := 21) rfl rfl rfl ?_
     refine WXL.miss (j := 7) (d := 21) rfl rfl rfl ?_
     refine WXL.miss (j := 7) (d := 21) rfl rfl rfl ?_
     refine WXL.pick_t Met.none rfl rfl ?_
     refine WXL.nil ?_
     refine Fin.then_normal ?_
     refine WX.cond rfl (fun hc0 => ?_) (fun hc0 => nomatch hc0)
     refine WX.seq ?_
     refine WX.region rfl ?_
     refine WXL.assign Met.none rfl ?_
     refine WXL.nil ?_
     refine Fin.then_normal ?_
     refine WX.ret ?_
     refine Fin.then_ret ?_
     first
     | exact Fin.result (O' := dkO d bm D mx ([] ++ R)) (.inr rfl) rfl rfl drop_ (by unfold rotD; rw [if_pos (by omega)]; exact ⟨mx, [], rfl, rfl, hD⟩)
     | exact Fin.result (O' := dkO d bm D mx ([] ++ R)) (.inr rfl) rfl rfl drop_ (by unfold rotD; rw [if_pos (by rcases Int.lt_or_le bit 0 with h | h; exact .inr (.inl h); have := hbq h; omega)]; exact ⟨mx, [], rfl, rfl, hD⟩)
     | exact Fin.result (O' := dkO d bm { D with fs := setF D.fs n f2 } (setX mx n (fileV (some ⟨b31, 0, none⟩) (getF D.fs n).bs.length c31 (getF D.fs n).d) (getF D.fs n).bs.length) ([(b31, ⟨1, false, f2.bs.map B8⟩)] ++ R)) (.inr rfl) rfl rfl sub_ (by
       unfold rotD
       rw [if_neg (by omega), ← hk, ← hf2]
       exact ⟨_, _, rfl, rfl, hD2⟩)
   · try simp only [cnd] at hg21
     refine WXL.move (Met.some rfl rfl rfl) rfl ?_
     refine WXL.qu (Met.some rfl rfl rfl) rfl rfl ?_ (hr := hbw)
     refine WXL.fieldAddr (off' := 0) (Met.some rfl rfl rfl) rfl Try.underlying71 rfl sz27 rfl ?_
     first | refine WXL.ld (Met.some rfl rfl rfl) rfl agg27 ?_ | refine WXL.ldS (Met.some rfl rfl rfl) rfl agg27 ?_
     refine WXL.len (Met.some rfl rfl rfl) rfl Try.underlying27 ?_
     refine WXL.bin (Met.some rfl rfl rfl) rfl rfl rfl ?_
     refine WXL.pick_f Met.none rfl rfl ?_
     refine WXL.nil ?_
     refine Fin.then_normal ?_
     refine WX.cond rfl (fun hc0 => ?_) (fun hc0 => ?_)
     · try simp only [cnd] at hc0
       refine WX.seq ?_
       refine WX.region rfl ?_
       refine WXL.assign Met.none rfl ?_
       refine WXL.nil ?_
       refine Fin.then_normal ?_
       refine WX.ret ?_
       refine Fin.then_ret ?_
       first
       | exact Fin.result (O' := dkO d bm D mx ([] ++ R)) (.inr rfl) rfl rfl drop_ (by unfold rotD; rw [if_pos (by omega)]; exact ⟨mx, [], rfl, rfl, hD⟩)
       | exact Fin.result (O' := dkO d bm D mx ([] ++ R)) (.inr rfl) rfl rfl drop_ (by unfold rotD; rw [if_pos (by rcases Int.lt_or_le bit 0 with h | h; exact .inr (.inl h); have := hbq h; omega)]; exact ⟨mx, [], rfl, rfl, hD⟩)
       | exact Fin.result (O' := dkO d bm { D with fs := setF D.fs n f2 } (setX mx n (fileV (some ⟨b31, 0, none⟩) (getF D.fs n).bs.length c31 (getF D.fs n).d) (getF D.fs n).bs.length) ([(b31, ⟨1, false, f2.bs.map B8⟩)] ++ R)) (.inr rfl) rfl rfl sub_ (by
         unfold rotD
         rw [if_neg (by omega), ← hk, ← hf2]
         exact ⟨_, _, rfl, rfl, hD2⟩)
     · try simp only [cnd] at hc0
       refine WX.skip ?_
       refine Fin.then_normal ?_
       refine WX.seq ?_
       have hb0 : 0 ≤ bit := by omega
       have hq := hbq hb0
       obtain ⟨k, hk⟩ : ∃ k, k = bit.toNat / 8 := ⟨_, rfl⟩
       rw [← hk] at hq
       have hkl : k < (getF D.fs n).bs.length := by omega
       refine WX.region rfl ?_
       refine WXL.fieldAddr (off' := 0) Met.none rfl Try.underlying71 rfl sz27 rfl ?_
       first | refine WXL.ld Met.none rfl agg27 ?_ | refine WXL.ldS Met.none rfl agg27 ?_
       refine WXL.cl (O1 := _) Met.none rfl (fnOk_of Try.func37 (by decide +kernel)) rfl (fun _ h => h) (clone_ok _ (getF D.fs n).bs fa fc (by omega) (fun q => by
       have := hrow.nil0 q
       exact List.length_eq_zero_iff.1 this) (Src.cons (Src.cons (Src.cons (hrow.src hnil))))) (fun v O' hp => ?_)
       obtain ⟨a31, c31, G31, rfl, hG31, rfl⟩ := hp
       obtain ⟨b31, rfl, rfl, hc31⟩ : ∃ b31, a31 = some ⟨b31, 0, none⟩ ∧ G31 = [(b31, ⟨1, false, (getF D.fs n).bs.map B8⟩)] ∧ ((getF D.fs n).bs.map B8).length = (getF D.fs n).bs.length * 1 := by
        rcases hG31 with ⟨_, h0, _⟩ | h
        · omega
        · exact h
       refine WXL.fieldAddr (off' := 0) Met.none rfl Try.underlying71 rfl sz27 rfl ?_
       refine WXL.st (vs := [_]) (c' := [_, _]) (j := 1) Met.none rfl rfl rfl sz27 ?_ (hj := rfl)
       refine WXL.nil ?_
       refine Fin.then_normal ?_
       refine WX.seq ?_
       refine WX.draw rfl ?_
       refine WXL.fieldAddr (off' := 0) Met.none rfl Try.underlying71 rfl sz27 rfl ?_
       first | refine WXL.ld Met.none rfl agg27 ?_ | refine WXL.ldS Met.none rfl agg27 ?_
       refine WXL.move Met.none rfl ?_
       refine WXL.qu Met.none rfl rfl ?_ (hr := hbw)
       rw [hq]
       first | refine WXL.ix Met.none rfl rfl elem27 sz5 ?_ | refine WXL.ixS Met.none rfl rfl elem27 sz5 ?_
       first | refine WXL.ld Met.none rfl agg5 ?_ | refine WXL.ldS Met.none rfl agg5 ?_
       refine WXL.move Met.none rfl ?_
       refine WXL.rem Met.none rfl rfl (by omega) ?_
       rw [hbm hb0]
       refine WXL.bin Met.none rfl rfl bvS ?_
       refine WXL.shl Met.none rfl rfl (by omega) ?_
       rw [show ((7 : Int) - ((bit.toNat % 8 : Nat) : Int)).toNat = 7 - bit.toNat % 8 from by omega]
       refine WXL.bin Met.none rfl rfl (show _ = some (B8 (flipB (nth (getF D.fs n).bs k) (7 - bit.toNat % 8))) from rfl) ?_
       first | refine WXL.ix Met.none rfl rfl elem27 sz5 ?_ | refine WXL.ixS Met.none rfl rfl elem27 sz5 ?_
       refine WXL.st (vs := [_]) (j := 0) Met.none rfl rfl rfl sz5 ?_ (hj := rfl)
       refine WXL.nil ?_
       refine Fin.then_normal ?_
       refine WX.seq ?_
       obtain ⟨f2, hf2⟩ : ∃ f2 : Fi, f2 = ⟨(getF D.fs n).bs.set k (flipB (nth (getF D.fs n).bs k) (7 - bit.toNat % 8)), (getF D.fs n).d⟩ := ⟨_, rfl⟩
       have hl2 : f2.bs.length = (getF D.fs n).bs.length := by rw [hf2]; exact List.length_set
       have hB2 : Bytes f2.bs := by
        rw [hf2]
        intro y hy
        rcases List.mem_or_eq_of_mem_set hy with p | p
        · exact hB y p
        · rw [p]; exact flipB_range _ _
       have hfo : FileOk ([(b31, ⟨1, false, f2.bs.map B8⟩)] ++ R0) (fileV (some ⟨b31, 0, none⟩) (getF D.fs n).bs.length c31 (getF D.fs n).d) f2 := ⟨_, c31, by rw [hl2, hf2], .inr ⟨b31, 0, ⟨1, false, f2.bs.map B8⟩, rfl, fun g hg => hg.mem (by simp), rfl, by show 0 + f2.bs.length * 1 ≤ (f2.bs.map B8).length; rw [List.length_map]; omega, by rw [List.drop_zero, Nat.mul_one]; exact List.take_of_length_le (by rw [List.length_map]; omega)⟩, (fun q => by cases q), hB2⟩
       have hgd := hD.get_d n
       have hD2 := (hD.app (N := [(b31, ⟨1, false, f2.bs.map B8⟩)])).set n hfo (by omega) ⟨by rw [hf2]; exact hgd.1, by rw [hl2, hf2]; exact hgd.2⟩ (by rw [hl2]; have := hD.used; omega)
       rw [hl2] at hD2
       refine WX.region rfl ?_
       refine WXL.move Met.none rfl ?_
       refine WXL.move Met.none rfl ?_
       refine WXL.ldN (vs := [_, _]) Met.none rfl agg71 sz71 ?_
       refine WXL.cl (O1 := dkO d bm D mx ((b7, ⟨0, false, [.slice (some ⟨b31, 0, none⟩) (getF D.fs n).bs.length c31, I (getF D.fs n).d]⟩) :: (b31, ⟨1, false, f2.bs.map B8⟩) :: R)) Met.none rfl (fnOk_of Try.func38 (by decide +kernel)) rfl (by rw [hf2]; exact sub_) (set_ok _ d bm D mx n (some ⟨b31, 0, none⟩) (getF D.fs n).bs.length c31 (getF D.fs n).d) (fun v O' hp => ?_)
       obtain rfl := hp
       refine WXL.nil ?_
       refine Fin.then_normal ?_
       refine WX.seq ?_
       refine WX.region rfl ?_
       refine WXL.assign Met.none rfl ?_
       refine WXL.nil ?_
       refine Fin.then_normal ?_
       refine WX.ret ?_
       first
       | exact Fin.result (O' := dkO d bm D mx ([] ++ R)) (.inr rfl) rfl rfl drop_ (by unfold rotD; rw [if_pos (by omega)]; exact ⟨mx, [], rfl, rfl, hD⟩)
       | exact Fin.result (O' := dkO d bm D mx ([] ++ R)) (.inr rfl) rfl rfl drop_ (by unfold rotD; rw [if_pos (by rcases Int.lt_or_le bit 0 with h | h; exact .inr (.inl h); have := hbq h; omega)]; exact ⟨mx, [], rfl, rfl, hD⟩)
       | exact Fin.result (O' := dkO d bm { D with fs := setF D.fs n f2 } (setX mx n (fileV (some ⟨b31, 0, none⟩) (getF D.fs n).bs.length c31 (getF D.fs n).d) (getF D.fs n).bs.length) ([(b31, ⟨1, false, f2.bs.map B8⟩)] ++ R)) (.inr rfl) rfl rfl sub_ (by
         unfold rotD
         rw [if_neg (by omega), ← hk, ← hf2]
         exact ⟨_, _, rfl, rfl, hD2⟩)
end Go.Proofs.Ytahaplbdhgfobaa.Eng
set_option linter.unusedVariables false
set_option linter.unusedSimpArgs false
namespace Go.Proofs.Ytahaplbdhgfobaa.Eng
theorem diskAppend_ok (R : Objs) {R0 : Objs} (d bm : Nat) (D : Dk) (mx : MapX) (n : Int) (b : List Int) (ab : Option Addr) (cb : Nat) (hD : DkI R0 D mx) (hi : ∀ g, Sat g R → Sat g R0) (hb : Src R 1 (.slice ab b.length cb) b.length (b.map B8)) (hBb : Bytes b) :
  Spec Try.prog false 14 #[Ptr d 0, I n, .slice ab b.length cb] (dkO d bm D mx R) fun v O' => ∃ mx' N, v = I (appendD D n b).1 ∧ O' = dkO d bm (appendD D n b).2 mx' (N ++ R) ∧ DkI (N ++ R0) (appendD D n b).2 mx' := by
 obtain ⟨fa, fc, hfv, hrow0, hnil, hB⟩ := hD.di.get n
 have hrow := hrow0.inc hi
 have hlen := hD.get_len n
 have hu := hD.used
 have hr := hD.room
 have hn := used_nn D.fs
 refine Spec.enter (args := [_, _, _]) (m := 47) Try.func14 rfl rfl (by decide +kernel) fun h0 => ?_
 refine WX.seq ?_
 refine WX.region rfl ?_
 refine WXL.assign Met.none rfl ?_
 refine WXL.nil ?_
 refine Fin.then_normal ?_
 refine WX.seq ?_
 refine WX.block ?_
 refine WX.seq ?_
 refine WX.region rfl ?_
 refine WXL.move Met.none rfl ?_
 refine WXL.cl (O1 := _) Met.none rfl (fnOk_of Try.func36 (by decide +kernel)) rfl (fun _ h => h) (exists_ok _ n) (fun v O' hp => ?_)
 obtain ⟨rfl, hO⟩ := hp
 subst O'
 refine WXL.not Met.none rfl ?_
 refine WXL.assign Met.none rfl ?_
 refine WXL.nil ?_
 refine Fin.then_normal ?_
 refine WX.cond rfl (fun hc0 => ?_) (fun hc0 => ?_)
 · try simp only [cnd] at hc0
   refine WX.seq ?_
   refine WX.region rfl ?_
   refine WXL.assign Met.none rfl ?_
   refine WXL.nil ?_
   refine Fin.then_normal ?_
   refine WX.ret ?_
   refine Fin.block_ret ?_
   refine Fin.then_ret ?_
   first
   | exact Fin.result (O' := dkO d bm D mx ([] ++ R)) (.inr rfl) rfl rfl drop_ (by unfold appendD; rw [if_pos (by omega)]; exact ⟨mx, [], rfl, rfl, hD⟩)
   | exact Fin.result (O' := dkO d bm D mx ([] ++ R)) (.inr rfl) rfl rfl drop_ (by unfold appendD; rw [if_neg (by omega), if_pos (by assumption)]; exact ⟨mx, [], rfl, rfl, hD⟩)
   | exact Fin.result (O' := dkO d bm D mx ([] ++ R)) (.inr rfl) rfl rfl drop_ (by unfold appendD; rw [if_neg (by omega), if_neg (by simp [hc1]), if_pos (by omega)]; exact ⟨mx, [], rfl, rfl, hD⟩)
   | exact Fin.result (O' := dkO d bm (stepD (appD1 D n b)).2 _ (G38 ++ R)) (.inr rfl) rfl rfl drop_ (by unfold appendD; rw [if_neg (by omega), if_neg (by simp [hc1]), if_neg (by omega), if_neg (by simpa using hc3)]; exact ⟨_, G38, rfl, rfl, hs.step⟩)
   | exact Fin.result (O' := dkO d bm (stepD (appD1 D n b)).2 _ (G38 ++ R)) (.inr rfl) rfl rfl drop_ (by unfold appendD; rw [if_neg (by omega), if_neg (by simp [hc1]), if_neg (by omega), if_pos (by simpa using hc3)]; exact ⟨_, G38, rfl, rfl, hs.step⟩)
 · try simp only [cnd] at hc0
   refine WX.seq ?_
   refine WX.region rfl ?_
   refine WXL.move Met.none rfl ?_
   refine WXL.nilCheck Met.none rfl ?_
   first | refine WXL.fieldAddr Met.none rfl Try.underlying68 rfl sz4 rfl ?_ | refine WXL.faS Met.none rfl Try.underlying68 rfl sz4 ?_
   first | refine WXL.ld Met.none rfl agg4 ?_ | refine WXL.ldS Met.none rfl agg4 ?_
   refine WXL.assign Met.none rfl ?_
   refine WXL.nil ?_
   refine Fin.then_normal ?_
   refine WX.cond rfl (fun hc1 => ?_) (fun hc1 => ?_)
   · try simp only [cnd] at hc1
     refine WX.seq ?_
     refine WX.region rfl ?_
     refine WXL.assign Met.none rfl ?_
     refine WXL.nil ?_
     refine Fin.then_normal ?_
     refine WX.ret ?_
     refine Fin.block_ret ?_
     refine Fin.then_ret ?_
     first
     | exact Fin.result (O' := dkO d bm D mx ([] ++ R)) (.inr rfl) rfl rfl drop_ (by unfold appendD; rw [if_pos (by omega)]; exact ⟨mx, [], rfl, rfl, hD⟩)
     | exact Fin.result (O' := dkO d bm D mx ([] ++ R)) (.inr rfl) rfl rfl drop_ (by unfold appendD; rw [if_neg (by omega), if_pos (by assumption)]; exact ⟨mx, [], rfl, rfl, hD⟩)
     | exact Fin.result (O' := dkO d bm D mx ([] ++ R)) (.inr rfl) rfl rfl drop_ (by unfold appendD; rw [if_neg (by omega), if_neg (by simp [hc1]), if_pos (by omega)]; exact ⟨mx, [], rfl, rfl, hD⟩)
     | exact Fin.result (O' := dkO d bm (stepD (appD1 D n b)).2 _ (G38 ++ R)) (.inr rfl) rfl rfl drop_ (by unfold appendD; rw [if_neg (by omega), if_neg (by simp [hc1]), if_neg (by omega), if_neg (by simpa using hc3)]; exact ⟨_, G38, rfl, rfl, hs.step⟩)
     | exact Fin.result (O' := dkO d bm (stepD (appD1 D n b)).2 _ (G38 ++ R)) (.inr rfl) rfl rfl drop_ (by unfold appendD; rw [if_neg (by omega), if_neg (by simp [hc1]), if_neg (by omega), if_pos (by simpa using hc3)]; exact ⟨_, G38, rfl, rfl, hs.step⟩)
   · try simp only [cnd] at hc1
     refine WX.seq ?_
     refine WX.draw rfl ?_
     refine WXL.move Met.none rfl ?_
     refine WXL.len Met.none rfl Try.underlying27 ?_
     refine WXL.move Met.none rfl ?_
     refine WXL.nilCheck Met.none rfl ?_
     first | refine WXL.fieldAddr Met.none rfl Try.underlying68 rfl sz3 rfl ?_ | refine WXL.faS Met.none rfl Try.underlying68 rfl sz3 ?_
     first | refine WXL.ld Met.none rfl agg3 ?_ | refine WXL.ldS Met.none rfl agg3 ?_
     refine WXL.move Met.none rfl ?_
     refine WXL.cl (O1 := _) Met.none rfl (fnOk_of Try.func21 (by decide +kernel)) rfl (fun _ h => h) (used_ok _ R d bm D mx hD) (fun v O' hp => ?_)
     obtain ⟨rfl, hO⟩ := hp
     subst O'
     refine WXL.bin Met.none rfl rfl bvS ?_
     refine WXL.bin Met.none rfl rfl rfl ?_
     refine WXL.assign Met.none rfl ?_
     refine WXL.nil ?_
     refine Fin.then_normal ?_
     refine WX.cond rfl (fun hc2 => ?_) (fun hc2 => ?_)
     · try simp only [cnd] at hc2
       refine WX.seq ?_
       refine WX.region rfl ?_
       refine WXL.assign Met.none rfl ?_
       refine WXL.nil ?_
       refine Fin.then_normal ?_
       refine WX.ret ?_
       refine Fin.block_ret ?_
       refine Fin.then_ret ?_
       first
       | exact Fin.result (O' := dkO d bm D mx ([] ++ R)) (.inr rfl) rfl rfl drop_ (by unfold appendD; rw [if_pos (by omega)]; exact ⟨mx, [], rfl, rfl, hD⟩)
       | exact Fin.result (O' := dkO d bm D mx ([] ++ R)) (.inr rfl) rfl rfl drop_ (by unfold appendD; rw [if_neg (by omega), if_pos (by assumption)]; exact ⟨mx, [], rfl, rfl, hD⟩)
       | exact Fin.result (O' := dkO d bm D mx ([] ++ R)) (.inr rfl) rfl rfl drop_ (by unfold appendD; rw [if_neg (by omega), if_neg (by simp [hc1]), if_pos (by omega)]; exact ⟨mx, [], rfl, rfl, hD⟩)
       | exact Fin.result (O' := dkO d bm (stepD (appD1 D n b)).2 _ (G38 ++ R)) (.inr rfl) rfl rfl drop_ (by unfold appendD; rw [if_neg (by omega), if_neg (by simp [hc1]), if_neg (by omega), if_neg (by simpa using hc3)]; exact ⟨_, G38, rfl, rfl, hs.step⟩)
       | exact Fin.result (O' := dkO d bm (stepD (appD1 D n b)).2 _ (G38 ++ R)) (.inr rfl) rfl rfl drop_ (by unfold appendD; rw [if_neg (by omega), if_neg (by simp [hc1]), if_neg (by omega), if_pos (by simpa using hc3)]; exact ⟨_, G38, rfl, rfl, hs.step⟩)
     · try simp only [cnd] at hc2
       refine WX.skip ?_
       refine Fin.block_normal ?_
       refine Fin.then_normal ?_
       refine WX.seq ?_
       refine WX.region rfl ?_
       refine WXL.move Met.none rfl ?_
       refine WXL.nilCheck Met.none rfl ?_
       first | refine WXL.fieldAddr Met.none rfl Try.underlying68 rfl sz66 rfl ?_ | refine WXL.faS Met.none rfl Try.underlying68 rfl sz66 ?_
       first | refine WXL.ld Met.none rfl agg66 ?_ | refine WXL.ldS Met.none rfl agg66 ?_
       refine WXL.move Met.none rfl ?_
       refine WXL.lookup Met.none rfl rfl mapT66 zero71 at_ (show _ = fileV fa (getF D.fs n).bs.length fc (getF D.fs n).d from hfv) ?_
       refine WXL.alloc (c := [_, _]) Met.none zero71 rfl (fun b7 => ?_)
       refine WXL.st (vs := [_, _]) (c' := [_, _]) (j := 0) Met.none rfl rfl rfl sz71 ?_ (hj := rfl)
       refine WXL.nil ?_
       refine Fin.then_normal ?_
       refine WX.seq ?_
       refine WX.region rfl ?_
       refine WXL.fieldAddr (off' := 0) Met.none rfl Try.underlying71 rfl sz27 rfl ?_
       first | refine WXL.ld Met.none rfl agg27 ?_ | refine WXL.ldS Met.none rfl agg27 ?_
       refine WXL.cl (O1 := _) Met.none rfl (fnOk_of Try.func37 (by decide +kernel)) rfl (fun _ h => h) (clone_ok _ (getF D.fs n).bs fa fc (by omega) (fun q => by
       have := hrow.nil0 q
       exact List.length_eq_zero_iff.1 this) (Src.cons (Src.cons (Src.cons (hrow.src hnil))))) (fun v O' hp => ?_)
       obtain ⟨a36, c36, G36, rfl, hG36, rfl⟩ := hp
       refine WXL.move Met.none rfl ?_
       refine WXL.apG ([]) Met.none rfl rfl isrow27 elem27 sz5 by5 zero5 (Src.app (Src.cons (Src.cons (Src.cons hb)))) (fun a38 c38 G38 hG38 => ?_) (hm := (by rw [List.length_map]; omega))
       refine WXL.re (O' := (b7, ⟨0, false, [.slice fa (getF D.fs n).bs.length fc, I (getF D.fs n).d]⟩) :: dkO d bm D mx (G38 ++ R)) ?_
       refine WXL.fieldAddr (off' := 0) Met.none rfl Try.underlying71 rfl sz27 rfl ?_
       refine WXL.st (vs := [_]) (c' := [_, _]) (j := 0) Met.none rfl rfl rfl sz27 ?_ (hj := rfl)
       refine WXL.nil ?_
       refine Fin.then_normal ?_
       refine WX.seq ?_
       refine WX.region rfl ?_
       refine WXL.move Met.none rfl ?_
       refine WXL.move Met.none rfl ?_
       refine WXL.ldN (vs := [_, _]) Met.none rfl agg71 sz71 ?_
       refine WXL.cl (O1 := dkO d bm D mx (G38 ++ R)) Met.none rfl (fnOk_of Try.func38 (by decide +kernel)) rfl sub_ (set_ok (G38 ++ R) d bm D mx n a38 ((getF D.fs n).bs.length + b.length) c38 (getF D.fs n).d) (fun v O' hp => ?_)
       obtain rfl := hp
       refine WXL.nil ?_
       refine Fin.then_normal ?_
       refine WX.seq ?_
       refine WX.seq ?_
       have hf : FileOk (G38 ++ R0) (fileV a38 ((getF D.fs n).bs.length + b.length) c38 (getF D.fs n).d) ⟨(getF D.fs n).bs ++ b, (getF D.fs n).d⟩ := by
        have h1 := hG38.rowy (R := R0)
        rw [← List.map_append] at h1
        exact ⟨a38, c38, by rw [List.length_append], by rw [List.length_append]; exact h1, fun q => (hG38.nil0 q).1, fun x hx => by
         rcases List.mem_append.1 hx with q | q
         · exact hB x q
         · exact hBb x q⟩
       have hs : DkI (G38 ++ R0) (appD1 D n b) (setX mx n (fileV a38 ((getF D.fs n).bs.length + b.length) c38 (getF D.fs n).d) ((getF D.fs n).bs.length + b.length)) := by
        have hgd := hD.get_d n
        have := (hD.app (N := G38)).set n hf (by omega) ⟨hgd.1, by simp only [List.length_append]; omega⟩ (by rw [List.length_append]; omega)
        rw [List.length_append] at this
        exact this
       refine WX.region rfl ?_
       refine WXL.move Met.none rfl ?_
       refine WXL.cl (O1 := _) Met.none rfl (fnOk_of Try.func39 (by decide +kernel)) rfl (fun _ h => h) (step_ok (G38 ++ R) d bm (appD1 D n b) (setX mx n (fileV a38 ((getF D.fs n).bs.length + b.length) c38 (getF D.fs n).d) ((getF D.fs n).bs.length + b.length)) hs.left) (fun v O' hp => ?_)
       obtain ⟨rfl, hO⟩ := hp
       subst O'
       refine WXL.not Met.none rfl ?_
       refine WXL.nil ?_
       refine Fin.then_normal ?_
       refine WX.cond rfl (fun hc3 => ?_) (fun hc3 => ?_)
       · try simp only [cnd] at hc3
         refine WX.seq ?_
         refine WX.region rfl ?_
         refine WXL.assign Met.none rfl ?_
         refine WXL.nil ?_
         refine Fin.then_normal ?_
         refine WX.ret ?_
         refine Fin.then_ret ?_
         first
         | exact Fin.result (O' := dkO d bm D mx ([] ++ R)) (.inr rfl) rfl rfl drop_ (by unfold appendD; rw [if_pos (by omega)]; exact ⟨mx, [], rfl, rfl, hD⟩)
         | exact Fin.result (O' := dkO d bm D mx ([] ++ R)) (.inr rfl) rfl rfl drop_ (by unfold appendD; rw [if_neg (by omega), if_pos (by assumption)]; exact ⟨mx, [], rfl, rfl, hD⟩)
         | exact Fin.result (O' := dkO d bm D mx ([] ++ R)) (.inr rfl) rfl rfl drop_ (by unfold appendD; rw [if_neg (by omega), if_neg (by simp [hc1]), if_pos (by omega)]; exact ⟨mx, [], rfl, rfl, hD⟩)
         | exact Fin.result (O' := dkO d bm (stepD (appD1 D n b)).2 _ (G38 ++ R)) (.inr rfl) rfl rfl drop_ (by unfold appendD; rw [if_neg (by omega), if_neg (by simp [hc1]), if_neg (by omega), if_neg (by simpa using hc3)]; exact ⟨_, G38, rfl, rfl, hs.step⟩)
         | exact Fin.result (O' := dkO d bm (stepD (appD1 D n b)).2 _ (G38 ++ R)) (.inr rfl) rfl rfl drop_ (by unfold appendD; rw [if_neg (by omega), if_neg (by simp [hc1]), if_neg (by omega), if_pos (by simpa using hc3)]; exact ⟨_, G38, rfl, rfl, hs.step⟩)
       · try simp only [cnd] at hc3
         refine WX.skip ?_
         refine Fin.then_normal ?_
         refine WX.seq ?_
         refine WX.region rfl ?_
         refine WXL.assign Met.none rfl ?_
         refine WXL.nil ?_
         refine Fin.then_normal ?_
         refine WX.ret ?_
         first
         | exact Fin.result (O' := dkO d bm D mx ([] ++ R)) (.inr rfl) rfl rfl drop_ (by unfold appendD; rw [if_pos (by omega)]; exact ⟨mx, [], rfl, rfl, hD⟩)
         | exact Fin.result (O' := dkO d bm D mx ([] ++ R)) (.inr rfl) rfl rfl drop_ (by unfold appendD; rw [if_neg (by omega), if_pos (by assumption)]; exact ⟨mx, [], rfl, rfl, hD⟩)
         | exact Fin.result (O' := dkO d bm D mx ([] ++ R)) (.inr rfl) rfl rfl drop_ (by unfold appendD; rw [if_neg (by omega), if_neg (by simp [hc1]), if_pos (by omega)]; exact ⟨mx, [], rfl, rfl, hD⟩)
         | exact Fin.result (O' := dkO d bm (stepD (appD1 D n b)).2 _ (G38 ++ R)) (.inr rfl) rfl rfl drop_ (by unfold appendD; rw [if_neg (by omega), if_neg (by simp [hc1]), if_neg (by omega), if_neg (by simpa using hc3)]; exact ⟨_, G38, rfl, rfl, hs.step⟩)
         | exact Fin.result (O' := dkO d bm (stepD (appD1 D n b)).2 _ (G38 ++ R)) (.inr rfl) rfl rfl drop_ (by unfold appendD; rw [if_neg (by omega), if_neg (by simp [hc1]), if_neg (by omega), if_pos (by simpa using hc3)]; exact ⟨_, G38, rfl, rfl, hs.step⟩)
end Go.Proofs.Ytahaplbdhgfobaa.Eng
set_option linter.unusedVariables false
set_option linter.unusedSimpArgs false
namespace Go.Proofs.Ytahaplbdhgfobaa.Eng
theorem diskNew_good (O : Objs) (room : Int) (hr : 0 ≤ room ∧ room ≤ 16777216) : Spec Try.prog false 11 #[I room] O fun v O' => ∃ d bm, v = .tuple #[Ptr d 0, I 0] ∧ O' = dkO d bm ⟨room, false, false, 0, []⟩ .new O :=
 (diskNew_ok O room).mono fun v O' h => by
  rcases h with ⟨_, _, h⟩ | ⟨h, _⟩
  · exact h
  · exact absurd hr h
theorem DkI.new {room : Int} (h : 0 ≤ room ∧ room ≤ 16777216) : DkI [] ⟨room, false, false, 0, []⟩ .new := ⟨.new, (fun e he => by simp at he), h, (fun q => by cases q), h.1⟩
def livD (f : Fi) : Dk := ⟨100, false, false, 0, [(3, f)]⟩
theorem liv_fnos (f : Fi) : fnos (livD f) = [3] := by
 show sortK [3] = [3]
 simp [sortK]
theorem liv_c1 : ((mget 3 (crashC (livD ⟨[1, 2, 255], 2⟩) [1] 7)).getD ⟨[], 0⟩).hard = ⟨[1, 2, 254], 3⟩ := by
 unfold crashC cuts cutAt
 rw [liv_fnos]
 rfl
theorem liv_c2 : ((mget 3 (crashC (livD ⟨[1, 2, 255], 2⟩) [] 7)).getD ⟨[], 0⟩).hard = ⟨[1, 2], 2⟩ := by
 unfold crashC cuts cutAt
 rw [liv_fnos]
 rfl
theorem appendD_off {D : Dk} {n : Int} {b : List Int} (hn : 0 ≤ n ∧ n < 64) (ho : D.off = false) (hu : (b.length : Int) ≤ D.room - used D.fs) (ha : D.armed = true) (hl : D.left = 0) : ∃ D', appendD D n b = (23, D') ∧ D'.off = true := by
 have hs : stepD (appD1 D n b) = (false, { appD1 D n b with off := true, armed := false, left := (appD1 D n b).left - 1 }) := by
  unfold stepD
  rw [if_neg (by show ¬ D.armed = false; rw [ha]; simp), if_pos (by show D.left - 1 < 0; omega)]
 unfold appendD
 rw [if_neg (by omega), if_neg (by rw [ho]; simp), if_neg (by omega), hs]
 exact ⟨_, rfl, rfl⟩
theorem lives_ok (O : Objs) : Spec Try.prog false 19 #[] O fun v O' => v = .bool true ∧ O' = O := by
 refine Spec.enter (args := []) (m := 81) Try.func19 rfl rfl (by decide +kernel) fun h0 => ?_
 refine WX.seq ?_
 refine WX.region rfl ?_
 refine WXL.assign Met.none rfl ?_
 refine WXL.nil ?_
 refine Fin.then_normal ?_
 refine WX.seq ?_
 refine WX.region rfl ?_
 refine WXL.cl (O1 := _) Met.none rfl (fnOk_of Try.func11 (by decide +kernel)) rfl (fun _ h => h) (diskNew_good O 100 (by decide)) (fun v O' hp => ?_)
 obtain ⟨d, bm, rfl, rfl⟩ := hp
 refine WXL.move Met.none rfl ?_
 refine WXL.extract Met.none rfl rfl ?_
 refine WXL.extract Met.none rfl rfl ?_
 refine WXL.assign Met.none rfl ?_
 refine WXL.assign Met.none rfl ?_
 refine WXL.nil ?_
 refine Fin.then_normal ?_
 refine WX.seq ?_
 refine WX.seq ?_
 refine WX.region rfl ?_
 refine WXL.move Met.none rfl ?_
 refine WXL.eqNilP Met.none rfl rfl Try.underlying23 ?_
 refine WXL.move Met.none rfl ?_
 refine WXL.split (d := 17) rfl (fun hg17 => ?_) (fun hg17 => ?_)
 · try simp only [cnd] at hg17
   exact (by simp at hg17)
 · try simp only [cnd] at hg17
   refine WXL.move (Met.some rfl rfl rfl) rfl ?_
   refine WXL.bin (Met.some rfl rfl rfl) rfl rfl rfl ?_
   refine WXL.pick_f Met.none rfl rfl ?_
   refine WXL.nil ?_
   refine Fin.then_normal ?_
   refine WX.cond rfl (fun hc0 => ?_) (fun hc0 => ?_)
   · try simp only [cnd] at hc0
     exact (by simp at hc0)
   · try simp only [cnd] at hc0
     refine WX.skip ?_
     refine Fin.then_normal ?_
     refine WX.seq ?_
     refine WX.region rfl ?_
     refine WXL.move Met.none rfl ?_
     refine WXL.buildSlice (c := [_, _]) Met.none rfl elem27 sz5 zero5 (by decide) (by decide) rfl rfl rfl rfl (fun b22 => ?_)
     refine WXL.cl (O1 := dkO d bm ⟨100, false, false, 0, []⟩ .new ((b22, ⟨1, false, [B8 1, B8 2]⟩) :: O)) Met.none rfl (fnOk_of Try.func14 (by decide +kernel)) rfl (fun _ hs => hs.tl [1, 2, 0] 3) (diskAppend_ok ((b22, ⟨1, false, [B8 1, B8 2]⟩) :: O) d bm ⟨100, false, false, 0, []⟩ .new 3 [1, 2] (some ⟨b22, 0, none⟩) 2 (DkI.new (by decide)) (fun g hg => Sat.nil hg.wf) (Src.row1 rfl) (by intro x hx; simp at hx; omega)) (fun v O' hp => ?_)
     obtain ⟨mx1, N1, rfl, rfl, hD1⟩ := hp
     rw [show appendD ⟨100, false, false, 0, []⟩ 3 [1, 2] = (0, livD ⟨[1, 2], 0⟩) from rfl] at hD1 ⊢
     rw [List.append_nil] at hD1
     dsimp only at hD1 ⊢
     refine WXL.nil ?_
     refine Fin.then_normal ?_
     refine WX.seq ?_
     refine WX.region rfl ?_
     refine WXL.move Met.none rfl ?_
     refine WXL.cl (O1 := _) Met.none rfl (fnOk_of Try.func15 (by decide +kernel)) rfl (fun _ h => h) (sync_ok _ d bm (livD ⟨[1, 2], 0⟩) mx1 hD1) (fun v O' hp => ?_)
     obtain ⟨mx2, rfl, rfl, hD2⟩ := hp
     rw [show syncD (livD ⟨[1, 2], 0⟩) = (0, livD ⟨[1, 2], 2⟩) from rfl] at hD2 ⊢
     dsimp only at hD2 ⊢
     refine WXL.nil ?_
     refine Fin.then_normal ?_
     refine WX.seq ?_
     refine WX.region rfl ?_
     refine WXL.move Met.none rfl ?_
     refine WXL.buildSlice (c := [_]) Met.none rfl elem27 sz5 zero5 (by decide) (by decide) rfl rfl rfl rfl (fun b27 => ?_)
     refine WXL.cl (O1 := dkO d bm (livD ⟨[1, 2], 2⟩) mx2 ((b27, ⟨1, false, [B8 255]⟩) :: (N1 ++ ((b22, ⟨1, false, [B8 1, B8 2]⟩) :: O)))) Met.none rfl (fnOk_of Try.func14 (by decide +kernel)) rfl (fun _ hs => hs.tl [1, 2, 0] 3) (diskAppend_ok ((b27, ⟨1, false, [B8 255]⟩) :: (N1 ++ ((b22, ⟨1, false, [B8 1, B8 2]⟩) :: O))) d bm (livD ⟨[1, 2], 2⟩) mx2 3 [255] (some ⟨b27, 0, none⟩) 1 hD2 (fun g hg => hg.tail.app_left) (Src.row1 rfl) (by intro x hx; simp at hx; omega)) (fun v O' hp => ?_)
     obtain ⟨mx3, N3, rfl, rfl, hD3⟩ := hp
     rw [show appendD (livD ⟨[1, 2], 2⟩) 3 [255] = (0, livD ⟨[1, 2, 255], 2⟩) from rfl] at hD3 ⊢
     dsimp only at hD3 ⊢
     obtain ⟨NN, hNN⟩ : ∃ NN, NN = N3 ++ N1 := ⟨_, rfl⟩
     rw [← hNN] at hD3
     refine WXL.re (O' := dkO d bm (livD ⟨[1, 2, 255], 2⟩) mx3 (NN ++ O)) ?_ (by rw [hNN]; exact sub_)
     refine WXL.nil ?_
     refine Fin.then_normal ?_
     refine WX.seq ?_
     refine WX.region rfl ?_
     refine WXL.move Met.none rfl ?_
     refine WXL.cl (O1 := _) Met.none rfl (fnOk_of Try.func30 (by decide +kernel)) rfl (fun _ h => h) (copy_ok _ d bm (livD ⟨[1, 2, 255], 2⟩) mx3) (fun v O' hp => ?_)
     obtain ⟨c, bc, rfl, rfl⟩ := hp
     refine WXL.assign Met.none rfl ?_
     refine WXL.nil ?_
     refine Fin.then_normal ?_
     refine WX.seq ?_
     refine WX.region rfl ?_
     refine WXL.move Met.none rfl ?_
     refine WXL.buildSlice (c := [_]) Met.none rfl elem33 sz3 zero3 (by decide) (by decide) rfl rfl rfl rfl (fun b32 => ?_)
     refine WXL.cl (O1 := dkO d bm (livD ⟨[1, 2, 255], 2⟩) mx3 ((b32, ⟨1, false, [I 1]⟩) :: dkO c bc (livD ⟨[1, 2, 255], 2⟩) mx3 (NN ++ O))) Met.none rfl (fnOk_of Try.func16 (by decide +kernel)) rfl (fun _ hs => hs.tl [3, 4, 0, 1, 2] 5) (crash_ok ((b32, ⟨1, false, [I 1]⟩) :: dkO c bc (livD ⟨[1, 2, 255], 2⟩) mx3 (NN ++ O)) d bm (livD ⟨[1, 2, 255], 2⟩) mx3 [1] (some ⟨b32, 0, none⟩) 1 7 hD3 (by intro Q; simp only [List.countP_append, List.countP_cons]; omega) (by decide) (by unfold In64; decide) (by intro n hn; simp at hn; subst hn; unfold In64; decide) (by decide) (Src.row1 rfl)) (fun v O' hp => ?_)
     obtain ⟨mx6, N6, D6, rfl, hD6, hr6, ho6, ha6, hg6⟩ := hp
     refine WXL.re (O' := dkO c bc (livD ⟨[1, 2, 255], 2⟩) mx3 (dkO d bm D6 mx6 ((N6 ++ NN) ++ O))) ?_
     refine WXL.nil ?_
     refine Fin.then_normal ?_
     refine WX.seq ?_
     refine WX.seq ?_
     refine WX.region rfl ?_
     refine WXL.move Met.none rfl ?_
     refine WXL.eqNilP Met.none rfl rfl Try.underlying23 ?_
     refine WXL.nil ?_
     refine Fin.then_normal ?_
     refine WX.cond rfl (fun hc1 => ?_) (fun hc1 => ?_)
     · try simp only [cnd] at hc1
       exact (by simp at hc1)
     · try simp only [cnd] at hc1
       refine WX.skip ?_
       refine Fin.then_normal ?_
       refine WX.seq ?_
       refine WX.region rfl ?_
       refine WXL.move Met.none rfl ?_
       refine WXL.cl (O1 := _) Met.none rfl (fnOk_of Try.func16 (by decide +kernel)) rfl (fun _ h => h) (crash_ok (dkO d bm D6 mx6 ((N6 ++ NN) ++ O)) c bc (livD ⟨[1, 2, 255], 2⟩) mx3 [] none 0 7 hD3 (by intro Q; simp only [List.countP_append, List.countP_cons]; omega) (by decide) (by unfold In64; decide) (fun n hn => by simp at hn) (by decide) Src.nil) (fun v O' hp => ?_)
       obtain ⟨mx7, N7, D7, rfl, hD7, hr7, ho7, ha7, hg7⟩ := hp
       refine WXL.nil ?_
       refine Fin.then_normal ?_
       refine WX.seq ?_
       have h6 := (hg6 3).trans liv_c1
       have h7 := (hg7 3).trans liv_c2
       have e6 : readD D6 3 = ([1, 2, 254], 0) := by
        unfold readD
        rw [if_neg (by decide), if_neg (by rw [ho6]; simp), h6]
       have e7 : readD D7 3 = ([1, 2], 0) := by
        unfold readD
        rw [if_neg (by decide), if_neg (by rw [ho7]; simp), h7]
       refine WX.region rfl ?_
       refine WXL.move Met.none rfl ?_
       refine WXL.cl (O1 := dkO d bm D6 mx6 ((N6 ++ NN) ++ (dkO c bc D7 mx7 (N7 ++ O)))) Met.none rfl (fnOk_of Try.func17 (by decide +kernel)) rfl sub_ (diskRead_ok ((N6 ++ NN) ++ (dkO c bc D7 mx7 (N7 ++ O))) d bm D6 mx6 3 hD6 (fun g hg => hg.app_left)) (fun v O' hp => ?_)
       obtain ⟨a1, c1, G1, rfl, hG1, rfl⟩ := hp
       rw [e6] at hG1 ⊢
       dsimp only at hG1 ⊢
       refine WXL.move Met.none rfl ?_
       refine WXL.extract Met.none rfl rfl ?_
       refine WXL.extract Met.none rfl rfl ?_
       refine WXL.assign Met.none rfl ?_
       refine WXL.assign Met.none rfl ?_
       refine WXL.nil ?_
       refine Fin.then_normal ?_
       refine WX.seq ?_
       refine WX.region rfl ?_
       refine WXL.move Met.none rfl ?_
       refine WXL.cl (O1 := dkO c bc D7 mx7 (N7 ++ (NN ++ (G1 ++ O)))) Met.none rfl (fnOk_of Try.func17 (by decide +kernel)) rfl sub_ (diskRead_ok (N7 ++ (NN ++ (G1 ++ O))) c bc D7 mx7 3 hD7 (fun g hg => hg.sub (by intro Q; simp only [List.countP_append]; omega))) (fun v O' hp => ?_)
       obtain ⟨a2, c2, G2, rfl, hG2, rfl⟩ := hp
       rw [e7] at hG2 ⊢
       dsimp only at hG2 ⊢
       refine WXL.move Met.none rfl ?_
       refine WXL.extract Met.none rfl rfl ?_
       refine WXL.extract Met.none rfl rfl ?_
       refine WXL.assign Met.none rfl ?_
       refine WXL.assign Met.none rfl ?_
       refine WXL.nil ?_
       refine Fin.then_normal ?_
       refine WX.seq ?_
       refine WX.region rfl ?_
       refine WXL.move Met.none rfl ?_
       refine WXL.cl (O1 := _) Met.none rfl (fnOk_of Try.func28 (by decide +kernel)) rfl (fun _ h => h) (arm_ok _ c bc D7 mx7 0) (fun v O' hp => ?_)
       obtain rfl := hp
       refine WXL.nil ?_
       refine Fin.then_normal ?_
       refine WX.seq ?_
       obtain ⟨D8, hD8e⟩ : ∃ D8, D8 = armD D7 0 := ⟨_, rfl⟩
       have hD8 : DkI (N7 ++ NN) D8 mx7 := by rw [hD8e]; exact hD7.arm (by decide)
       have h8o : D8.off = false := by rw [hD8e]; unfold armD; rw [if_neg (by rw [ho7]; simp)]; exact ho7
       have h8a : D8.armed = true := by rw [hD8e]; unfold armD; rw [if_neg (by rw [ho7]; simp)]; rfl
       have h8l : D8.left = 0 := by rw [hD8e]; unfold armD; rw [if_neg (by rw [ho7]; simp)]
       obtain ⟨D9, e9, o9⟩ := appendD_off (D := D8) (n := 1) (b := []) (by decide) h8o (by have := hD8.used; show (0 : Int) ≤ _; omega) h8a h8l
       rw [← hD8e]
       refine WX.region rfl ?_
       refine WXL.move Met.none rfl ?_
       refine WXL.cl (O1 := _) Met.none rfl (fnOk_of Try.func14 (by decide +kernel)) rfl (fun _ h => h) (diskAppend_ok (G2 ++ (N7 ++ (NN ++ (G1 ++ O)))) c bc D8 mx7 1 [] none 0 hD8 (fun g hg => hg.sub (by intro Q; simp only [List.countP_append]; omega)) Src.nil (fun x hx => by simp at hx)) (fun v O' hp => ?_)
       obtain ⟨mx9, N9, rfl, rfl, hD9⟩ := hp
       rw [e9] at hD9 ⊢
       dsimp only at hD9 ⊢
       have e10 : readD D9 3 = ([], 23) := by
        unfold readD
        rw [if_neg (by decide), if_pos o9]
       refine WXL.assign Met.none rfl ?_
       refine WXL.nil ?_
       refine Fin.then_normal ?_
       refine WX.seq ?_
       refine WX.region rfl ?_
       refine WXL.move Met.none rfl ?_
       refine WXL.cl (O1 := _) Met.none rfl (fnOk_of Try.func17 (by decide +kernel)) rfl (fun _ h => h) (diskRead_ok (N9 ++ (G2 ++ (N7 ++ (NN ++ (G1 ++ O))))) c bc D9 mx9 3 hD9 (fun g hg => hg.sub (by intro Q; simp only [List.countP_append]; omega))) (fun v O' hp => ?_)
       obtain ⟨a3, c3, G3, rfl, hG3, rfl⟩ := hp
       rw [e10]
       dsimp only
       refine WXL.move Met.none rfl ?_
       refine WXL.extract Met.none rfl rfl ?_
       refine WXL.extract Met.none rfl rfl ?_
       refine WXL.assign Met.none rfl ?_
       refine WXL.assign Met.none rfl ?_
       refine WXL.nil ?_
       refine Fin.then_normal ?_
       refine WX.seq ?_
       refine WX.re (O' := G1 ++ (G2 ++ O)) ?_
       refine WX.region rfl ?_
       refine WXL.move Met.none rfl ?_
       refine WXL.bin Met.none rfl rfl rfl ?_
       refine WXL.move Met.none rfl ?_
       refine WXL.split (d := 59) rfl (fun hg59 => ?_) (fun hg59 => ?_)
       · try simp only [cnd] at hg59
         refine WXL.move (Met.some rfl rfl rfl) rfl ?_
         refine WXL.bin (Met.some rfl rfl rfl) rfl rfl rfl ?_
         refine WXL.pick_t Met.none rfl rfl ?_
         refine WXL.move Met.none rfl ?_
         refine WXL.split (d := 63) rfl (fun hg63 => ?_) (fun hg63 => ?_)
         · try simp only [cnd] at hg63
           refine WXL.move (Met.some rfl rfl rfl) rfl ?_
           refine WXL.buildSlice (c := [_, _, _]) (Met.some rfl rfl rfl) rfl elem27 sz5 zero5 (by decide) (by decide) rfl rfl rfl rfl (fun b65 => ?_)
           refine WXL.cl (O1 := _) (Met.some rfl rfl rfl) rfl (fnOk_of Try.func18 (by decide +kernel)) rfl (fun _ h => h) (sameB_ok _ [1, 2, 254] [1, 2, 254] a1 (some ⟨b65, 0, none⟩) c1 3 (by decide) (Src.cons hG1.src) (Src.row1 rfl)) (fun v O' hp => ?_)
           obtain ⟨rfl, hO⟩ := hp
           subst O'
           refine WXL.pick_t Met.none rfl rfl ?_
           refine WXL.move Met.none rfl ?_
           refine WXL.split (d := 68) rfl (fun hg68 => ?_) (fun hg68 => ?_)
           · try simp only [cnd] at hg68
             refine WXL.move (Met.some rfl rfl rfl) rfl ?_
             refine WXL.buildSlice (c := [_, _]) (Met.some rfl rfl rfl) rfl elem27 sz5 zero5 (by decide) (by decide) rfl rfl rfl rfl (fun b70 => ?_)
             refine WXL.cl (O1 := _) (Met.some rfl rfl rfl) rfl (fnOk_of Try.func18 (by decide +kernel)) rfl (fun _ h => h) (sameB_ok _ [1, 2] [1, 2] a2 (some ⟨b70, 0, none⟩) c2 2 (by decide) (Src.cons (Src.cons (Src.app hG2.src))) (Src.row1 rfl)) (fun v O' hp => ?_)
             obtain ⟨rfl, hO⟩ := hp
             subst O'
             refine WXL.pick_t Met.none rfl rfl ?_
             refine WXL.move Met.none rfl ?_
             refine WXL.split (d := 73) rfl (fun hg73 => ?_) (fun hg73 => ?_)
             · try simp only [cnd] at hg73
               refine WXL.move (Met.some rfl rfl rfl) rfl ?_
               refine WXL.bin (Met.some rfl rfl rfl) rfl rfl rfl ?_
               refine WXL.pick_t Met.none rfl rfl ?_
               refine WXL.move Met.none rfl ?_
               refine WXL.split (d := 77) rfl (fun hg77 => ?_) (fun hg77 => ?_)
               · try simp only [cnd] at hg77
                 refine WXL.move (Met.some rfl rfl rfl) rfl ?_
                 refine WXL.bin (Met.some rfl rfl rfl) rfl rfl rfl ?_
                 refine WXL.pick_t Met.none rfl rfl ?_
                 refine WXL.assign Met.none rfl ?_
                 refine WXL.nil ?_
                 refine Fin.then_normal ?_
                 refine WX.ret ?_
                 exact Fin.result (O' := O) (.inr rfl) rfl rfl sub_ ⟨rfl, rfl⟩
               · try simp only [cnd] at hg77
                 exact (by simp at hg77)
             · try simp only [cnd] at hg73
               exact (by simp at hg73)
           · try simp only [cnd] at hg68
             exact (by simp at hg68)
         · try simp only [cnd] at hg63
           exact (by simp at hg63)
       · try simp only [cnd] at hg59
         exact (by simp at hg59)
end Go.Proofs.Ytahaplbdhgfobaa.Eng
set_option linter.unusedVariables false
set_option linter.unusedSimpArgs false
namespace Go.Proofs.Ytahaplbdhgfobaa.Eng
theorem flipC_get (p k : Nat) : ∀ (l : List (Int × Fi)) (m : Int), (mget m (flipC p k l) = none ∧ mget m l = none) ∨ ∃ f f', mget m l = some f ∧ mget m (flipC p k l) = some f' ∧ f'.d = f.d ∧ f'.bs.length = f.bs.length ∧ f'.bs.take f.d.toNat = f.bs.take f.d.toNat
 | [], m => .inl ⟨rfl, rfl⟩
 | (n, f) :: l, m => by
  unfold flipC
  by_cases hp : p < looseN f
  · rw [if_pos hp]
    simp only [mget]
    by_cases hm : m = n
    · rw [if_pos hm, if_pos hm]
      refine .inr ⟨_, _, rfl, rfl, rfl, List.length_set, ?_⟩
      simp only
      rw [List.take_set_of_le (by omega)]
    · rw [if_neg hm, if_neg hm]
      rcases (show mget m l = none ∨ ∃ f, mget m l = some f from by cases mget m l <;> simp) with h | ⟨g, h⟩
      · exact .inl ⟨h, h⟩
      · exact .inr ⟨g, g, h, h, rfl, rfl, rfl⟩
  · rw [if_neg hp]
    simp only [mget]
    by_cases hm : m = n
    · rw [if_pos hm, if_pos hm]
      exact .inr ⟨_, _, rfl, rfl, rfl, rfl, rfl⟩
    · rw [if_neg hm, if_neg hm]
      exact flipC_get (p - looseN f) k l m
end Go.Proofs.Ytahaplbdhgfobaa.Eng
set_option linter.unusedVariables false
set_option linter.unusedSimpArgs false
namespace Go.Proofs.Ytahaplbdhgfobaa.Eng
abbrev rdO (r rb rf : Nat) (M : Rd) (vs : List Value) (R : Objs) : Objs := (r, ⟨0, false, [I M.room, Row rb 0 64 64, Row rf 0 64 64, .bool M.off, I M.plan]⟩) :: (rb, ⟨1, false, vs⟩) :: (rf, ⟨1, false, M.F.map I⟩) :: R
def RowV (R : Objs) (v : Value) (x : List Int) : Prop := ∃ a c, v = .slice a x.length c ∧ Rowy R 1 a x.length (x.map B8) ∧ (a = none → c = 0) ∧ Bytes x
structure RdI (R : Objs) (M : Rd) (vs : List Value) : Prop where
 lenV : vs.length = 64
 lenB : M.B.length = 64
 lenF : M.F.length = 64
 file : ∀ n, n < 64 → RowV R (nth vs n) (nth M.B n)
 room : 0 ≤ M.room ∧ M.room ≤ 16777216
 used : usedR M ≤ M.room
 plan : -2 ≤ M.plan ∧ M.plan < 9223372036854775808
 firm : ∀ n, n < 64 → 0 ≤ nth M.F n ∧ nth M.F n ≤ ((nth M.B n).length : Nat)
theorem sumR_nn {g : Nat → Int} (h : ∀ i, 0 ≤ g i) : ∀ n, 0 ≤ sumR g n
 | 0 => Int.le_refl _
 | n + 1 => by
  have := sumR_nn h n
  have := h n
  unfold sumR
  omega
theorem sumR_le_sum {g : Nat → Int} (h : ∀ i, 0 ≤ g i) : ∀ {n i : Nat}, i ≤ n → sumR g i ≤ sumR g n
 | 0, i, hi => by
  have : i = 0 := by omega
  subst this
  exact Int.le_refl _
 | n + 1, i, hi => by
  by_cases q : i = n + 1
  · subst q; exact Int.le_refl _
  · have h1 := sumR_le_sum h (n := n) (i := i) (by omega)
    have h2 := h n
    exact Int.le_trans h1 (by show sumR g n ≤ sumR g n + g n; omega)
theorem sumR_one {g : Nat → Int} (h : ∀ i, 0 ≤ g i) {n i : Nat} (hi : i < n) : g i ≤ sumR g n := by
 have h1 := sumR_le_sum h (n := n) (i := i + 1) hi
 have h2 := sumR_nn h i
 have h3 : sumR g (i + 1) = sumR g i + g i := rfl
 omega
theorem lenR_nn (M : Rd) (i : Nat) : 0 ≤ lenR M i := Int.natCast_nonneg _
theorem RdI.len {R : Objs} {M : Rd} {vs : List Value} (h : RdI R M vs) {n : Nat} (hn : n < 64) : (nth M.B n).length ≤ 16777216 := by
 have h1 : ((nth M.B n).length : Int) ≤ usedR M := sumR_one (lenR_nn M) hn
 have h2 := h.used
 have h3 := h.room
 omega
theorem RowV.app {R N : Objs} {v : Value} {x : List Int} (h : RowV R v x) : RowV (N ++ R) v x := by
 obtain ⟨a, c, h1, h2, h3⟩ := h
 exact ⟨a, c, h1, h2.app, h3⟩
theorem RdI.app {R N : Objs} {M : Rd} {vs : List Value} (h : RdI R M vs) : RdI (N ++ R) M vs := ⟨h.lenV, h.lenB, h.lenF, fun n hn => (h.file n hn).app, h.room, h.used, h.plan, h.firm⟩
theorem rused_ok (R : Objs) {R0 : Objs} (r rb rf : Nat) (M : Rd) (vs : List Value) (h : RdI R0 M vs) : Spec Try.prog true 47 #[Ptr r 0] (rdO r rb rf M vs R) fun v O' => v = I (usedR M) ∧ O' = rdO r rb rf M vs R := by
 refine Spec.enter (args := [_]) (m := 20) Try.func47 rfl rfl (by decide +kernel) fun h0 => ?_
 refine WX.seq ?_
 refine WX.region rfl ?_
 refine WXL.assign Met.none rfl ?_
 refine WXL.nil ?_
 refine Fin.then_normal ?_
 refine WX.seq ?_
 refine WX.region rfl ?_
 refine WXL.assign Met.none rfl ?_
 refine WXL.nil ?_
 refine Fin.then_normal ?_
 refine WX.seq ?_
 refine WX.seq ?_
 refine WX.region rfl ?_
 refine WXL.assign Met.none rfl ?_
 refine WXL.nil ?_
 refine Fin.then_normal ?_
 refine WX.block ?_
 refine WX.loop (fun i : Nat => [(0, Ptr r 0), (3, I (sumR (lenR M) i)), (4, I (i : Int))]) (fun _ => rdO r rb rf M vs R) (fun i => i ≤ 64) (fun i => 64 - i) 0 (by decide) (fun s hs => hs.tl [] 0) (fun i hi => ?_)
 refine WX.seq ?_
 refine WX.seq ?_
 refine WX.region rfl ?_
 refine WXL.move Met.none rfl ?_
 refine WXL.bin Met.none rfl rfl rfl ?_
 refine WXL.nil ?_
 refine Fin.then_normal ?_
 refine WX.cond rfl (fun hc0 => ?_) (fun hc0 => ?_)
 · try simp only [cnd] at hc0
   refine WX.skip ?_
   refine Fin.then_normal ?_
   refine WX.seq ?_
   refine WX.block ?_
   have hi64 : i < 64 := by omega
   obtain ⟨a, c, ev, _⟩ := h.file i hi64
   have hv : vs[i]? = some (.slice a (nth M.B i).length c) := by rw [← ev]; exact nth_eq (by rw [h.lenV]; exact hi64)
   have hs1 := sumR_le_sum (lenR_nn M) (n := 64) (i := i + 1) (by omega)
   have hs2 := sumR_nn (lenR_nn M) i
   have hs3 : sumR (lenR M) (i + 1) = sumR (lenR M) i + ((nth M.B i).length : Nat) := rfl
   have hu := h.used
   have hr := h.room
   unfold usedR at hu
   refine WX.region rfl ?_
   refine WXL.move Met.none rfl ?_
   refine WXL.move Met.none rfl ?_
   refine WXL.nilCheck Met.none rfl ?_
   first | refine WXL.fieldAddr Met.none rfl Try.underlying58 rfl sz22 rfl ?_ | refine WXL.faS Met.none rfl Try.underlying58 rfl sz22 ?_
   first | refine WXL.ld Met.none rfl agg22 ?_ | refine WXL.ldS Met.none rfl agg22 ?_
   refine WXL.move Met.none rfl ?_
   first | refine WXL.ix Met.none rfl rfl elem22 sz27 ?_ | refine WXL.ixS Met.none rfl rfl elem22 sz27 ?_
   first | refine WXL.ld Met.none rfl agg27 ?_ (hv := hv) | refine WXL.ldS Met.none rfl agg27 ?_ (hv := hv)
   refine WXL.len Met.none rfl Try.underlying27 ?_
   refine WXL.bin Met.none rfl rfl bvA ?_
   refine WXL.assign Met.none rfl ?_
   refine WXL.nil ?_
   refine Fin.block_normal ?_
   refine Fin.then_normal ?_
   refine WX.region rfl ?_
   refine WXL.move Met.none rfl ?_
   refine WXL.bin Met.none rfl rfl bvA ?_
   refine WXL.assign Met.none rfl ?_
   refine WXL.nil ?_
   exact Fin.loop_next (i + 1) (by omega) (by omega) (fun s hs => by rw [hs3]; exact hs.tl [] 0)
 · try simp only [cnd] at hc0
   refine WX.exit ?_
   refine Fin.then_exit ?_
   refine Fin.loop_exit ?_
   refine Fin.block_hit rfl ?_
   refine Fin.then_normal ?_
   refine WX.seq ?_
   have hie : i = 64 := by omega
   rw [hie]
   refine WX.region rfl ?_
   refine WXL.move Met.none rfl ?_
   refine WXL.assign Met.none rfl ?_
   refine WXL.nil ?_
   refine Fin.then_normal ?_
   refine WX.ret ?_
   exact Fin.result (.inr rfl) rfl rfl drop_ ⟨rfl, rfl⟩
theorem rfails_ok (R : Objs) {R0 : Objs} (r rb rf : Nat) (M : Rd) (vs : List Value) (h : RdI R0 M vs) : Spec Try.prog false 63 #[Ptr r 0] (rdO r rb rf M vs R) fun v O' => v = .bool (failsR M).off ∧ O' = rdO r rb rf (failsR M) vs R := by
 have hp := h.plan
 refine Spec.enter (args := [_]) (m := 24) Try.func63 rfl rfl (by decide +kernel) fun h0 => ?_
 refine WX.seq ?_
 refine WX.region rfl ?_
 refine WXL.assign Met.none rfl ?_
 refine WXL.nil ?_
 refine Fin.then_normal ?_
 refine WX.seq ?_
 refine WX.region rfl ?_
 refine WXL.move Met.none rfl ?_
 refine WXL.move Met.none rfl ?_
 refine WXL.nilCheck Met.none rfl ?_
 first | refine WXL.fieldAddr Met.none rfl Try.underlying58 rfl sz3 rfl ?_ | refine WXL.faS Met.none rfl Try.underlying58 rfl sz3 ?_
 first | refine WXL.ld Met.none rfl agg3 ?_ | refine WXL.ldS Met.none rfl agg3 ?_
 refine WXL.bin Met.none rfl rfl bvS ?_
 refine WXL.max Met.none rfl rfl ?_
 refine WXL.nilCheck Met.none rfl ?_
 first | refine WXL.fieldAddr Met.none rfl Try.underlying58 rfl sz3 rfl ?_ | refine WXL.faS Met.none rfl Try.underlying58 rfl sz3 ?_
 refine WXL.st (vs := [_]) (j := 0) Met.none rfl rfl rfl sz3 ?_ (hj := rfl)
 refine WXL.nil ?_
 refine Fin.then_normal ?_
 refine WX.seq ?_
 refine WX.seq ?_
 refine WX.region rfl ?_
 refine WXL.move Met.none rfl ?_
 refine WXL.nilCheck Met.none rfl ?_
 first | refine WXL.fieldAddr Met.none rfl Try.underlying58 rfl sz3 rfl ?_ | refine WXL.faS Met.none rfl Try.underlying58 rfl sz3 ?_
 first | refine WXL.ld Met.none rfl agg3 ?_ | refine WXL.ldS Met.none rfl agg3 ?_
 refine WXL.bin Met.none rfl rfl rfl ?_
 refine WXL.nil ?_
 refine Fin.then_normal ?_
 refine WX.cond rfl (fun hc0 => ?_) (fun hc0 => ?_)
 · try simp only [cnd] at hc0
   refine WX.region rfl ?_
   refine WXL.move Met.none rfl ?_
   refine WXL.nilCheck Met.none rfl ?_
   first | refine WXL.fieldAddr Met.none rfl Try.underlying58 rfl sz4 rfl ?_ | refine WXL.faS Met.none rfl Try.underlying58 rfl sz4 ?_
   refine WXL.st (vs := [_]) (j := 0) Met.none rfl rfl rfl sz4 ?_ (hj := rfl)
   refine WXL.nil ?_
   refine Fin.then_normal ?_
   refine WX.seq ?_
   refine WX.region rfl ?_
   refine WXL.move Met.none rfl ?_
   refine WXL.nilCheck Met.none rfl ?_
   first | refine WXL.fieldAddr Met.none rfl Try.underlying58 rfl sz4 rfl ?_ | refine WXL.faS Met.none rfl Try.underlying58 rfl sz4 ?_
   first | refine WXL.ld Met.none rfl agg4 ?_ | refine WXL.ldS Met.none rfl agg4 ?_
   refine WXL.assign Met.none rfl ?_
   refine WXL.nil ?_
   refine Fin.then_normal ?_
   refine WX.ret ?_
   first
   | exact Fin.result (O' := rdO r rb rf ⟨M.room, M.B, M.F, true, max (M.plan - 1) (-2)⟩ vs R) (.inr rfl) rfl rfl drop_ (by
     have he : failsR M = ⟨M.room, M.B, M.F, true, max (M.plan - 1) (-2)⟩ := by unfold failsR; rw [decide_eq_true hc0, Bool.or_true]
     rw [he]
     exact ⟨rfl, rfl⟩)
   | exact Fin.result (O' := rdO r rb rf ⟨M.room, M.B, M.F, M.off, max (M.plan - 1) (-2)⟩ vs R) (.inr rfl) rfl rfl drop_ (by
     have he : failsR M = ⟨M.room, M.B, M.F, M.off, max (M.plan - 1) (-2)⟩ := by unfold failsR; rw [decide_eq_false hc0, Bool.or_false]
     rw [he]
     exact ⟨rfl, rfl⟩)
 · try simp only [cnd] at hc0
   refine WX.skip ?_
   refine Fin.then_normal ?_
   refine WX.seq ?_
   refine WX.region rfl ?_
   refine WXL.move Met.none rfl ?_
   refine WXL.nilCheck Met.none rfl ?_
   first | refine WXL.fieldAddr Met.none rfl Try.underlying58 rfl sz4 rfl ?_ | refine WXL.faS Met.none rfl Try.underlying58 rfl sz4 ?_
   first | refine WXL.ld Met.none rfl agg4 ?_ | refine WXL.ldS Met.none rfl agg4 ?_
   refine WXL.assign Met.none rfl ?_
   refine WXL.nil ?_
   refine Fin.then_normal ?_
   refine WX.ret ?_
   first
   | exact Fin.result (O' := rdO r rb rf ⟨M.room, M.B, M.F, true, max (M.plan - 1) (-2)⟩ vs R) (.inr rfl) rfl rfl drop_ (by
     have he : failsR M = ⟨M.room, M.B, M.F, true, max (M.plan - 1) (-2)⟩ := by unfold failsR; rw [decide_eq_true hc0, Bool.or_true]
     rw [he]
     exact ⟨rfl, rfl⟩)
   | exact Fin.result (O' := rdO r rb rf ⟨M.room, M.B, M.F, M.off, max (M.plan - 1) (-2)⟩ vs R) (.inr rfl) rfl rfl drop_ (by
     have he : failsR M = ⟨M.room, M.B, M.F, M.off, max (M.plan - 1) (-2)⟩ := by unfold failsR; rw [decide_eq_false hc0, Bool.or_false]
     rw [he]
     exact ⟨rfl, rfl⟩)
theorem rstep_ok (R : Objs) {R0 : Objs} (r rb rf : Nat) (M : Rd) (vs : List Value) (h : RdI R0 M vs) : Spec Try.prog false 55 #[Ptr r 0] (rdO r rb rf M vs R) fun v O' => v = .bool (stepR M).1 ∧ O' = rdO r rb rf (stepR M).2 vs R := by
 refine Spec.enter (args := [_]) (m := 10) Try.func55 rfl rfl (by decide +kernel) fun h0 => ?_
 refine WX.seq ?_
 refine WX.region rfl ?_
 refine WXL.assign Met.none rfl ?_
 refine WXL.nil ?_
 refine Fin.then_normal ?_
 refine WX.seq ?_
 refine WX.seq ?_
 refine WX.region rfl ?_
 refine WXL.move Met.none rfl ?_
 refine WXL.nilCheck Met.none rfl ?_
 first | refine WXL.fieldAddr Met.none rfl Try.underlying58 rfl sz3 rfl ?_ | refine WXL.faS Met.none rfl Try.underlying58 rfl sz3 ?_
 first | refine WXL.ld Met.none rfl agg3 ?_ | refine WXL.ldS Met.none rfl agg3 ?_
 refine WXL.bin Met.none rfl rfl rfl ?_
 refine WXL.nil ?_
 refine Fin.then_normal ?_
 refine WX.cond rfl (fun hc0 => ?_) (fun hc0 => ?_)
 · try simp only [cnd] at hc0
   refine WX.seq ?_
   refine WX.region rfl ?_
   refine WXL.assign Met.none rfl ?_
   refine WXL.nil ?_
   refine Fin.then_normal ?_
   refine WX.ret ?_
   refine Fin.then_ret ?_
   first
   | exact Fin.result (O' := rdO r rb rf M vs R) (.inr rfl) rfl rfl drop_ (by unfold stepR; rw [if_pos hc0]; exact ⟨rfl, rfl⟩)
   | exact Fin.result (O' := rdO r rb rf (failsR M) vs R) (.inr rfl) rfl rfl drop_ (by unfold stepR; rw [if_neg (by omega)]; exact ⟨rfl, rfl⟩)
 · try simp only [cnd] at hc0
   refine WX.skip ?_
   refine Fin.then_normal ?_
   refine WX.seq ?_
   refine WX.region rfl ?_
   refine WXL.move Met.none rfl ?_
   refine WXL.cl (O1 := _) Met.none rfl (fnOk_of Try.func63 (by decide +kernel)) rfl (fun _ h => h) (rfails_ok R r rb rf M vs h) (fun v O' hp => ?_)
   obtain ⟨rfl, hO⟩ := hp
   subst O'
   refine WXL.assign Met.none rfl ?_
   refine WXL.nil ?_
   refine Fin.then_normal ?_
   refine WX.ret ?_
   first
   | exact Fin.result (O' := rdO r rb rf M vs R) (.inr rfl) rfl rfl drop_ (by unfold stepR; rw [if_pos hc0]; exact ⟨rfl, rfl⟩)
   | exact Fin.result (O' := rdO r rb rf (failsR M) vs R) (.inr rfl) rfl rfl drop_ (by unfold stepR; rw [if_neg (by omega)]; exact ⟨rfl, rfl⟩)
theorem stepR_same (M : Rd) : (stepR M).2.B = M.B ∧ (stepR M).2.F = M.F ∧ (stepR M).2.room = M.room := by
 unfold stepR
 split <;> exact ⟨rfl, rfl, rfl⟩
theorem RdI.step {R : Objs} {M : Rd} {vs : List Value} (h : RdI R M vs) : RdI R (stepR M).2 vs := by
 obtain ⟨h1, h2, h3⟩ := stepR_same M
 refine ⟨h.lenV, by rw [h1]; exact h.lenB, by rw [h2]; exact h.lenF, fun n hn => by rw [h1]; exact h.file n hn, by rw [h3]; exact h.room, ?_, ?_, fun n hn => by rw [h1, h2]; exact h.firm n hn⟩
 · have : usedR (stepR M).2 = usedR M := by unfold usedR lenR; rw [h1]
   rw [this, h3]
   exact h.used
 · have := h.plan
   unfold stepR failsR
   split
   · exact this
   · simp only; omega
theorem rarm_ok (R : Objs) (r rb rf : Nat) (M : Rd) (vs : List Value) (n : Int) : Spec Try.prog false 45 #[Ptr r 0, I n] (rdO r rb rf M vs R) fun v O' => O' = rdO r rb rf (armR M n) vs R := by
 refine Spec.enter (args := [_, _]) (m := 14) Try.func45 rfl rfl (by decide +kernel) fun h0 => ?_
 refine WX.seq ?_
 refine WX.region rfl ?_
 refine WXL.move Met.none rfl ?_
 refine WXL.nilCheck Met.none rfl ?_
 first | refine WXL.fieldAddr Met.none rfl Try.underlying58 rfl sz4 rfl ?_ | refine WXL.faS Met.none rfl Try.underlying58 rfl sz4 ?_
 first | refine WXL.ld Met.none rfl agg4 ?_ | refine WXL.ldS Met.none rfl agg4 ?_
 refine WXL.not Met.none rfl ?_
 refine WXL.nil ?_
 refine Fin.then_normal ?_
 refine WX.cond rfl (fun hc0 => ?_) (fun hc0 => ?_)
 · try simp only [cnd] at hc0
   refine WX.region rfl ?_
   refine WXL.move Met.none rfl ?_
   refine WXL.move Met.none rfl ?_
   refine WXL.max Met.none rfl rfl ?_
   refine WXL.nilCheck Met.none rfl ?_
   first | refine WXL.fieldAddr Met.none rfl Try.underlying58 rfl sz3 rfl ?_ | refine WXL.faS Met.none rfl Try.underlying58 rfl sz3 ?_
   refine WXL.st (vs := [_]) (j := 0) Met.none rfl rfl rfl sz3 ?_ (hj := rfl)
   refine WXL.nil ?_
   first
   | exact Fin.result (O' := rdO r rb rf { M with plan := max n (-1) } vs R) (.inl rfl) rfl rfl drop_ (by unfold armR; rw [if_neg (by simp [hc0])])
   | exact Fin.result (O' := rdO r rb rf M vs R) (.inl rfl) rfl rfl drop_ (by unfold armR; rw [if_pos hc0])
 · try simp only [cnd] at hc0
   refine WX.skip ?_
   first
   | exact Fin.result (O' := rdO r rb rf { M with plan := max n (-1) } vs R) (.inl rfl) rfl rfl drop_ (by unfold armR; rw [if_neg (by simp [hc0])])
   | exact Fin.result (O' := rdO r rb rf M vs R) (.inl rfl) rfl rfl drop_ (by unfold armR; rw [if_pos hc0])
theorem RdI.arm {R : Objs} {M : Rd} {vs : List Value} (h : RdI R M vs) {n : Int} (hn : n < 9223372036854775808) : RdI R (armR M n) vs := by
 unfold armR
 split
 · exact h
 · exact ⟨h.lenV, h.lenB, h.lenF, h.file, h.room, h.used, ⟨by show -2 ≤ max n (-1); omega, by show max n (-1) < _; omega⟩, h.firm⟩
end Go.Proofs.Ytahaplbdhgfobaa.Eng
set_option linter.unusedVariables false
set_option linter.unusedSimpArgs false
namespace Go.Proofs.Ytahaplbdhgfobaa.Eng
theorem splice_one {c : List Value} {k : Nat} {v : Value} (h : k < c.length) : splice c k [v] = c.set k v := by
 have := splice_map (fun x : Value => x) c k v h
 rw [List.map_id'', List.map_id''] at this
 · exact this
 · exact fun _ => rfl
 · exact fun _ => rfl
def newR (room : Int) : Rd := ⟨room, List.replicate 64 [], List.replicate 64 0, false, -1⟩
def vs0 : List Value := List.replicate 64 (.slice none 0 0)
theorem nth_replicate {α : Type} [Inhabited α] {a : α} {n i : Nat} (h : i < n) : nth (List.replicate n a) i = a := by
 rw [nth_get (by rw [List.length_replicate]; exact h), List.getElem_replicate]
theorem RdI.new {room : Int} (h : 0 ≤ room ∧ room ≤ 16777216) : RdI [] (newR room) vs0 := by
 refine ⟨by unfold vs0; simp, by unfold newR; simp, by unfold newR; simp, fun n hn => ?_, h, ?_, ⟨by show (-2 : Int) ≤ -1; decide, by show (-1 : Int) < _; decide⟩, fun n hn => ?_⟩
 · unfold vs0 newR
   simp only
   rw [nth_replicate hn, nth_replicate hn]
   exact ⟨none, 0, rfl, .inl ⟨rfl, rfl, rfl⟩, fun _ => rfl, fun x hx => by simp at hx⟩
 · have : usedR (newR room) = sumR (fun _ => 0) 64 := sumR_congr fun i hi => by
     unfold lenR newR
     simp only
     rw [nth_replicate hi]
     rfl
   rw [this]
   exact h.1
 · unfold newR
   simp only
   rw [nth_replicate hn, nth_replicate hn]
   exact ⟨Int.le_refl _, Int.le_refl _⟩
theorem rnew_ok (O : Objs) (room : Int) : Spec Try.prog false 22 #[I room] O fun v O' => ∃ r rb rf, v = Ptr r 0 ∧ O' = rdO r rb rf (newR room) vs0 O := by
 refine Spec.enter (args := [_]) (m := 8) Try.func22 rfl rfl (by decide +kernel) fun h0 => ?_
 refine WX.seq ?_
 refine WX.region rfl ?_
 refine WXL.assign Met.none rfl ?_
 refine WXL.nil ?_
 refine Fin.then_normal ?_
 refine WX.seq ?_
 refine WX.draw rfl ?_
 refine WXL.move Met.none rfl ?_
 refine WXL.makeSlice Met.none rfl rfl elem22 sz27 by27 zero27 (by omega) (by omega) (by omega) rfl (by decide) (by first | rw [Int.toNat_natCast] | exact rfl) (zerosL_one _ _) (fun b4 => ?_)
 refine WXL.makeSlice Met.none rfl rfl elem33 sz3 by3 zero3 (by omega) (by omega) (by omega) rfl (by decide) (by first | rw [Int.toNat_natCast] | exact rfl) (by first | exact zerosL_map I 0 _ | exact zerosL_map Value.bool false _ | exact rfl) (fun b5 => ?_)
 refine WXL.build (c := [_, _, _, _, _]) Met.none rfl zero58 places58 rfl ?_
 refine WXL.box (c := [_, _, _, _, _]) Met.none rfl rfl rfl (fun b7 => ?_)
 refine WXL.assign Met.none rfl ?_
 refine WXL.nil ?_
 refine Fin.then_normal ?_
 refine WX.ret ?_
 exact Fin.result (O' := rdO b7 b4 b5 (newR room) vs0 O) (.inr rfl) rfl rfl (fun _ hs => hs.tl [0, 2, 1] 3) ⟨b7, b4, b5, rfl, rfl⟩
theorem usedR_set {M : Rd} {k : Nat} (hk : k < 64) (hl : M.B.length = 64) (x : List Int) (F : List Int) (off : Bool) (p : Int) : usedR ⟨M.room, M.B.set k x, F, off, p⟩ = usedR M + (x.length : Nat) - lenR M k := by
 have : usedR ⟨M.room, M.B.set k x, F, off, p⟩ = sumR (fun i => if i = k then ((x.length : Nat) : Int) else lenR M i) 64 := sumR_congr fun i hi => by
  show (((nth (M.B.set k x) i).length : Nat) : Int) = _
  rw [nth_setE (by rw [hl]; exact hk)]
  split <;> rfl
 rw [this, sumR_upd, if_pos hk]
 unfold usedR
 omega
theorem RdI.set {R : Objs} {M : Rd} {vs : List Value} (h : RdI R M vs) {k : Nat} (hk : k < 64) {v : Value} {x : List Int} {F : List Int} {off : Bool} {p : Int} (hv : RowV R v x) (hu : usedR M + (x.length : Nat) - lenR M k ≤ M.room) (hF : F.length = 64) (hp : -2 ≤ p ∧ p < 9223372036854775808)
  (hf : ∀ n, n < 64 → 0 ≤ nth F n ∧ nth F n ≤ ((nth (M.B.set k x) n).length : Nat)) : RdI R ⟨M.room, M.B.set k x, F, off, p⟩ (vs.set k v) := by
 refine ⟨by rw [List.length_set]; exact h.lenV, by simp only [List.length_set]; exact h.lenB, hF, fun n hn => ?_, h.room, by rw [usedR_set hk h.lenB]; exact hu, hp, hf⟩
 simp only
 rw [nth_setE (by rw [h.lenV]; exact hk), nth_setE (by rw [h.lenB]; exact hk)]
 split
 · exact hv
 · exact h.file n hn
theorem rappend_ok (R : Objs) {R0 : Objs} (r rb rf : Nat) (M : Rd) (vs : List Value) (file : Int) (b : List Int) (ab : Option Addr) (cb : Nat) (h : RdI R0 M vs) (hi : ∀ g, Sat g R → Sat g R0) (hb : Src R 1 (.slice ab b.length cb) b.length (b.map B8)) (hBb : Bytes b) (hbl : b.length ≤ 4611686018427387904) :
  Spec Try.prog false 42 #[Ptr r 0, I file, .slice ab b.length cb] (rdO r rb rf M vs R) fun v O' => ∃ vs' N, v = I (appendR M file b).1 ∧ O' = rdO r rb rf (appendR M file b).2 vs' (N ++ R) ∧ RdI (N ++ R0) (appendR M file b).2 vs' := by
 have hu := h.used
 have hr := h.room
 have hun := sumR_nn (lenR_nn M) 64
 have hun : 0 ≤ usedR M := hun
 refine Spec.enter (args := [_, _, _]) (m := 50) Try.func42 rfl rfl (by decide +kernel) fun h0 => ?_
 refine WX.seq ?_
 refine WX.region rfl ?_
 refine WXL.assign Met.none rfl ?_
 refine WXL.nil ?_
 refine Fin.then_normal ?_
 refine WX.seq ?_
 refine WX.seq ?_
 refine WX.region rfl ?_
 refine WXL.move Met.none rfl ?_
 refine WXL.bin Met.none rfl rfl rfl ?_
 refine WXL.move Met.none rfl ?_
 refine WXL.split (d := 11) rfl (fun hg11 => ?_) (fun hg11 => ?_)
 · try simp only [cnd] at hg11
   refine WXL.miss (j := 2) (d := 11) rfl rfl rfl ?_
   refine WXL.miss (j := 2) (d := 11) rfl rfl rfl ?_
   refine WXL.pick_t Met.none rfl rfl ?_
   refine WXL.nil ?_
   refine Fin.then_normal ?_
   refine WX.cond rfl (fun hc0 => ?_) (fun hc0 => nomatch hc0)
   refine WX.seq ?_
   refine WX.region rfl ?_
   refine WXL.assign Met.none rfl ?_
   refine WXL.nil ?_
   refine Fin.then_normal ?_
   refine WX.ret ?_
   refine Fin.then_ret ?_
   first
   | exact Fin.result (O' := rdO r rb rf M vs ([] ++ R)) (.inr rfl) rfl rfl drop_ (by unfold appendR; rw [if_pos (by omega)]; exact ⟨vs, [], rfl, rfl, h⟩)
   | exact Fin.result (O' := rdO r rb rf M vs ([] ++ R)) (.inr rfl) rfl rfl drop_ (by unfold appendR; rw [if_neg (by omega), if_pos (by assumption)]; exact ⟨vs, [], rfl, rfl, h⟩)
   | exact Fin.result (O' := rdO r rb rf M vs ([] ++ R)) (.inr rfl) rfl rfl drop_ (by unfold appendR; rw [if_neg (by omega), if_neg (by simp [hc1]), if_pos (by omega)]; exact ⟨vs, [], rfl, rfl, h⟩)
   | exact Fin.result (O' := rdO r rb rf (stepR (appendR1 M file b)).2 _ (G45 ++ R)) (.inr rfl) rfl rfl drop_ (by unfold appendR; rw [if_neg (by omega), if_neg (by simp [hc1]), if_neg (by omega), if_pos hc3]; exact ⟨_, G45, rfl, rfl, hI.step⟩)
   | exact Fin.result (O' := rdO r rb rf (stepR (appendR1 M file b)).2 _ (G45 ++ R)) (.inr rfl) rfl rfl drop_ (by unfold appendR; rw [if_neg (by omega), if_neg (by simp [hc1]), if_neg (by omega), if_neg (by simp [hc3])]; exact ⟨_, G45, rfl, rfl, hI.step⟩)
 · try simp only [cnd] at hg11
   refine WXL.move (Met.some rfl rfl rfl) rfl ?_
   refine WXL.bin (Met.some rfl rfl rfl) rfl rfl rfl ?_
   refine WXL.pick_f Met.none rfl rfl ?_
   refine WXL.nil ?_
   refine Fin.then_normal ?_
   refine WX.cond rfl (fun hc0 => ?_) (fun hc0 => ?_)
   · try simp only [cnd] at hc0
     refine WX.seq ?_
     refine WX.region rfl ?_
     refine WXL.assign Met.none rfl ?_
     refine WXL.nil ?_
     refine Fin.then_normal ?_
     refine WX.ret ?_
     refine Fin.then_ret ?_
     first
     | exact Fin.result (O' := rdO r rb rf M vs ([] ++ R)) (.inr rfl) rfl rfl drop_ (by unfold appendR; rw [if_pos (by omega)]; exact ⟨vs, [], rfl, rfl, h⟩)
     | exact Fin.result (O' := rdO r rb rf M vs ([] ++ R)) (.inr rfl) rfl rfl drop_ (by unfold appendR; rw [if_neg (by omega), if_pos (by assumption)]; exact ⟨vs, [], rfl, rfl, h⟩)
     | exact Fin.result (O' := rdO r rb rf M vs ([] ++ R)) (.inr rfl) rfl rfl drop_ (by unfold appendR; rw [if_neg (by omega), if_neg (by simp [hc1]), if_pos (by omega)]; exact ⟨vs, [], rfl, rfl, h⟩)
     | exact Fin.result (O' := rdO r rb rf (stepR (appendR1 M file b)).2 _ (G45 ++ R)) (.inr rfl) rfl rfl drop_ (by unfold appendR; rw [if_neg (by omega), if_neg (by simp [hc1]), if_neg (by omega), if_pos hc3]; exact ⟨_, G45, rfl, rfl, hI.step⟩)
     | exact Fin.result (O' := rdO r rb rf (stepR (appendR1 M file b)).2 _ (G45 ++ R)) (.inr rfl) rfl rfl drop_ (by unfold appendR; rw [if_neg (by omega), if_neg (by simp [hc1]), if_neg (by omega), if_neg (by simp [hc3])]; exact ⟨_, G45, rfl, rfl, hI.step⟩)
   · try simp only [cnd] at hc0
     refine WX.skip ?_
     refine Fin.then_normal ?_
     refine WX.seq ?_
     refine WX.seq ?_
     refine WX.region rfl ?_
     refine WXL.move Met.none rfl ?_
     refine WXL.nilCheck Met.none rfl ?_
     first | refine WXL.fieldAddr Met.none rfl Try.underlying58 rfl sz4 rfl ?_ | refine WXL.faS Met.none rfl Try.underlying58 rfl sz4 ?_
     first | refine WXL.ld Met.none rfl agg4 ?_ | refine WXL.ldS Met.none rfl agg4 ?_
     refine WXL.nil ?_
     refine Fin.then_normal ?_
     refine WX.cond rfl (fun hc1 => ?_) (fun hc1 => ?_)
     · try simp only [cnd] at hc1
       refine WX.seq ?_
       refine WX.region rfl ?_
       refine WXL.assign Met.none rfl ?_
       refine WXL.nil ?_
       refine Fin.then_normal ?_
       refine WX.ret ?_
       refine Fin.then_ret ?_
       first
       | exact Fin.result (O' := rdO r rb rf M vs ([] ++ R)) (.inr rfl) rfl rfl drop_ (by unfold appendR; rw [if_pos (by omega)]; exact ⟨vs, [], rfl, rfl, h⟩)
       | exact Fin.result (O' := rdO r rb rf M vs ([] ++ R)) (.inr rfl) rfl rfl drop_ (by unfold appendR; rw [if_neg (by omega), if_pos (by assumption)]; exact ⟨vs, [], rfl, rfl, h⟩)
       | exact Fin.result (O' := rdO r rb rf M vs ([] ++ R)) (.inr rfl) rfl rfl drop_ (by unfold appendR; rw [if_neg (by omega), if_neg (by simp [hc1]), if_pos (by omega)]; exact ⟨vs, [], rfl, rfl, h⟩)
       | exact Fin.result (O' := rdO r rb rf (stepR (appendR1 M file b)).2 _ (G45 ++ R)) (.inr rfl) rfl rfl drop_ (by unfold appendR; rw [if_neg (by omega), if_neg (by simp [hc1]), if_neg (by omega), if_pos hc3]; exact ⟨_, G45, rfl, rfl, hI.step⟩)
       | exact Fin.result (O' := rdO r rb rf (stepR (appendR1 M file b)).2 _ (G45 ++ R)) (.inr rfl) rfl rfl drop_ (by unfold appendR; rw [if_neg (by omega), if_neg (by simp [hc1]), if_neg (by omega), if_neg (by simp [hc3])]; exact ⟨_, G45, rfl, rfl, hI.step⟩)
     · try simp only [cnd] at hc1
       refine WX.skip ?_
       refine Fin.then_normal ?_
       refine WX.seq ?_
       refine WX.seq ?_
       refine WX.draw rfl ?_
       refine WXL.move Met.none rfl ?_
       refine WXL.cl (O1 := _) Met.none rfl (fnOk_of Try.func47 (by decide +kernel)) rfl (fun _ h => h) (rused_ok R r rb rf M vs h) (fun v O' hp => ?_)
       obtain ⟨rfl, hO⟩ := hp
       subst O'
       refine WXL.move Met.none rfl ?_
       refine WXL.len Met.none rfl Try.underlying27 ?_
       refine WXL.bin Met.none rfl rfl bvA ?_
       refine WXL.move Met.none rfl ?_
       refine WXL.nilCheck Met.none rfl ?_
       first | refine WXL.fieldAddr Met.none rfl Try.underlying58 rfl sz3 rfl ?_ | refine WXL.faS Met.none rfl Try.underlying58 rfl sz3 ?_
       first | refine WXL.ld Met.none rfl agg3 ?_ | refine WXL.ldS Met.none rfl agg3 ?_
       refine WXL.bin Met.none rfl rfl rfl ?_
       refine WXL.nil ?_
       refine Fin.then_normal ?_
       refine WX.cond rfl (fun hc2 => ?_) (fun hc2 => ?_)
       · try simp only [cnd] at hc2
         refine WX.seq ?_
         refine WX.region rfl ?_
         refine WXL.assign Met.none rfl ?_
         refine WXL.nil ?_
         refine Fin.then_normal ?_
         refine WX.ret ?_
         refine Fin.then_ret ?_
         first
         | exact Fin.result (O' := rdO r rb rf M vs ([] ++ R)) (.inr rfl) rfl rfl drop_ (by unfold appendR; rw [if_pos (by omega)]; exact ⟨vs, [], rfl, rfl, h⟩)
         | exact Fin.result (O' := rdO r rb rf M vs ([] ++ R)) (.inr rfl) rfl rfl drop_ (by unfold appendR; rw [if_neg (by omega), if_pos (by assumption)]; exact ⟨vs, [], rfl, rfl, h⟩)
         | exact Fin.result (O' := rdO r rb rf M vs ([] ++ R)) (.inr rfl) rfl rfl drop_ (by unfold appendR; rw [if_neg (by omega), if_neg (by simp [hc1]), if_pos (by omega)]; exact ⟨vs, [], rfl, rfl, h⟩)
         | exact Fin.result (O' := rdO r rb rf (stepR (appendR1 M file b)).2 _ (G45 ++ R)) (.inr rfl) rfl rfl drop_ (by unfold appendR; rw [if_neg (by omega), if_neg (by simp [hc1]), if_neg (by omega), if_pos hc3]; exact ⟨_, G45, rfl, rfl, hI.step⟩)
         | exact Fin.result (O' := rdO r rb rf (stepR (appendR1 M file b)).2 _ (G45 ++ R)) (.inr rfl) rfl rfl drop_ (by unfold appendR; rw [if_neg (by omega), if_neg (by simp [hc1]), if_neg (by omega), if_neg (by simp [hc3])]; exact ⟨_, G45, rfl, rfl, hI.step⟩)
       · try simp only [cnd] at hc2
         refine WX.skip ?_
         refine Fin.then_normal ?_
         refine WX.seq ?_
         refine WX.region rfl ?_
         refine WXL.assign Met.none rfl ?_
         refine WXL.nil ?_
         refine Fin.then_normal ?_
         refine WX.seq ?_
         have hk : file.toNat < 64 := by omega
         obtain ⟨fa, fc, hfv, hrow0, hnil, hB⟩ := h.file _ hk
         have hrow := hrow0.inc hi
         have hfl := h.len hk
         have hv : vs[file.toNat]? = some (.slice fa (nth M.B file.toNat).length fc) := by rw [← hfv]; exact nth_eq (by rw [h.lenV]; exact hk)
         refine WX.region rfl ?_
         refine WXL.move Met.none rfl ?_
         refine WXL.move Met.none rfl ?_
         refine WXL.nilCheck Met.none rfl ?_
         first | refine WXL.fieldAddr Met.none rfl Try.underlying58 rfl sz22 rfl ?_ | refine WXL.faS Met.none rfl Try.underlying58 rfl sz22 ?_
         first | refine WXL.ld Met.none rfl agg22 ?_ | refine WXL.ldS Met.none rfl agg22 ?_
         refine WXL.move Met.none rfl ?_
         first | refine WXL.ix Met.none rfl rfl elem22 sz27 ?_ | refine WXL.ixS Met.none rfl rfl elem22 sz27 ?_
         first | refine WXL.ld Met.none rfl agg27 ?_ (hv := hv) | refine WXL.ldS Met.none rfl agg27 ?_ (hv := hv)
         refine WXL.apG ([]) Met.none rfl rfl isrow27 elem27 sz5 by5 zero5 (Src.cons (Src.cons (Src.cons (hrow.src hnil)))) (fun a37 c37 G37 hG37 => ?_) (hm := (by rw [List.length_map]; omega)) (hg := (Grow.nil (sz := 1)))
         refine WXL.assign Met.none rfl ?_
         refine WXL.nil ?_
         refine Fin.then_normal ?_
         refine WX.seq ?_
         refine WX.re (O' := rdO r rb rf M vs (G37 ++ R)) ?_
         refine WX.draw rfl ?_
         refine WXL.move Met.none rfl ?_
         refine WXL.nilCheck Met.none rfl ?_
         first | refine WXL.fieldAddr Met.none rfl Try.underlying58 rfl sz22 rfl ?_ | refine WXL.faS Met.none rfl Try.underlying58 rfl sz22 ?_
         first | refine WXL.ld Met.none rfl agg22 ?_ | refine WXL.ldS Met.none rfl agg22 ?_
         refine WXL.move Met.none rfl ?_
         refine WXL.move Met.none rfl ?_
         refine WXL.move Met.none rfl ?_
         refine WXL.apG [_, _, _] Met.none rfl rfl isrow27 elem27 sz5 by5 zero5 (Src.cons (Src.cons (Src.cons (Src.app hb)))) (fun a45 c45 G45 hG45 => ?_) (hm := (by rw [List.length_map]; omega))
         first | refine WXL.ix Met.none rfl rfl elem22 sz27 ?_ | refine WXL.ixS Met.none rfl rfl elem22 sz27 ?_
         refine WXL.st (vs := [_]) (j := 1) Met.none rfl rfl rfl sz27 ?_ (hj := rfl) (hl := (by show file.toNat + 1 ≤ vs.length; rw [h.lenV]; omega)) (hc := (splice_one (by rw [h.lenV]; exact hk)))
         refine WXL.nil ?_
         refine Fin.then_normal ?_
         refine WX.seq ?_
         have hx : 0 + (nth M.B file.toNat).length + b.length = (nth M.B file.toNat ++ b).length := by rw [List.length_append]; omega
         have hvn : RowV (G45 ++ R0) (.slice a45 (0 + (nth M.B file.toNat).length + b.length) c45) (nth M.B file.toNat ++ b) := by
          have h1 := hG45.rowy (R := R0)
          rw [List.nil_append, ← List.map_append, hx] at h1
          rw [hx]
          exact ⟨a45, c45, rfl, h1, fun q => (hG45.nil0 q).1, fun y hy => by
           rcases List.mem_append.1 hy with q | q
           · exact hB y q
           · exact hBb y q⟩
         have hI : RdI (G45 ++ R0) (appendR1 M file b) (vs.set file.toNat (.slice a45 (0 + (nth M.B file.toNat).length + b.length) c45)) := (h.app (N := G45)).set hk hvn (by unfold lenR; rw [List.length_append]; omega) h.lenF h.plan (fun n hn => by
          have h1 := h.firm n hn
          rw [nth_setE (by rw [h.lenB]; exact hk)]
          split
          · rename_i q; subst q; rw [List.length_append]; omega
          · exact h1)
         refine WX.region rfl ?_
         refine WXL.move Met.none rfl ?_
         refine WXL.cl (O1 := _) Met.none rfl (fnOk_of Try.func55 (by decide +kernel)) rfl (fun _ h => h) (rstep_ok (G45 ++ R) r rb rf (appendR1 M file b) _ hI) (fun v O' hp => ?_)
         obtain ⟨rfl, hO⟩ := hp
         subst O'
         refine WXL.assign Met.none rfl ?_
         refine WXL.nil ?_
         refine Fin.then_normal ?_
         refine WX.seq ?_
         refine WX.seq ?_
         refine WX.region rfl ?_
         refine WXL.move Met.none rfl ?_
         refine WXL.nil ?_
         refine Fin.then_normal ?_
         refine WX.cond rfl (fun hc3 => ?_) (fun hc3 => ?_)
         · try simp only [cnd] at hc3
           refine WX.seq ?_
           refine WX.region rfl ?_
           refine WXL.assign Met.none rfl ?_
           refine WXL.nil ?_
           refine Fin.then_normal ?_
           refine WX.ret ?_
           refine Fin.then_ret ?_
           first
           | exact Fin.result (O' := rdO r rb rf M vs ([] ++ R)) (.inr rfl) rfl rfl drop_ (by unfold appendR; rw [if_pos (by omega)]; exact ⟨vs, [], rfl, rfl, h⟩)
           | exact Fin.result (O' := rdO r rb rf M vs ([] ++ R)) (.inr rfl) rfl rfl drop_ (by unfold appendR; rw [if_neg (by omega), if_pos (by assumption)]; exact ⟨vs, [], rfl, rfl, h⟩)
           | exact Fin.result (O' := rdO r rb rf M vs ([] ++ R)) (.inr rfl) rfl rfl drop_ (by unfold appendR; rw [if_neg (by omega), if_neg (by simp [hc1]), if_pos (by omega)]; exact ⟨vs, [], rfl, rfl, h⟩)
           | exact Fin.result (O' := rdO r rb rf (stepR (appendR1 M file b)).2 _ (G45 ++ R)) (.inr rfl) rfl rfl drop_ (by unfold appendR; rw [if_neg (by omega), if_neg (by simp [hc1]), if_neg (by omega), if_pos hc3]; exact ⟨_, G45, rfl, rfl, hI.step⟩)
           | exact Fin.result (O' := rdO r rb rf (stepR (appendR1 M file b)).2 _ (G45 ++ R)) (.inr rfl) rfl rfl drop_ (by unfold appendR; rw [if_neg (by omega), if_neg (by simp [hc1]), if_neg (by omega), if_neg (by simp [hc3])]; exact ⟨_, G45, rfl, rfl, hI.step⟩)
         · try simp only [cnd] at hc3
           refine WX.skip ?_
           refine Fin.then_normal ?_
           refine WX.seq ?_
           refine WX.region rfl ?_
           refine WXL.assign Met.none rfl ?_
           refine WXL.nil ?_
           refine Fin.then_normal ?_
           refine WX.ret ?_
           first
           | exact Fin.result (O' := rdO r rb rf M vs ([] ++ R)) (.inr rfl) rfl rfl drop_ (by unfold appendR; rw [if_pos (by omega)]; exact ⟨vs, [], rfl, rfl, h⟩)
           | exact Fin.result (O' := rdO r rb rf M vs ([] ++ R)) (.inr rfl) rfl rfl drop_ (by unfold appendR; rw [if_neg (by omega), if_pos (by assumption)]; exact ⟨vs, [], rfl, rfl, h⟩)
           | exact Fin.result (O' := rdO r rb rf M vs ([] ++ R)) (.inr rfl) rfl rfl drop_ (by unfold appendR; rw [if_neg (by omega), if_neg (by simp [hc1]), if_pos (by omega)]; exact ⟨vs, [], rfl, rfl, h⟩)
           | exact Fin.result (O' := rdO r rb rf (stepR (appendR1 M file b)).2 _ (G45 ++ R)) (.inr rfl) rfl rfl drop_ (by unfold appendR; rw [if_neg (by omega), if_neg (by simp [hc1]), if_neg (by omega), if_pos hc3]; exact ⟨_, G45, rfl, rfl, hI.step⟩)
           | exact Fin.result (O' := rdO r rb rf (stepR (appendR1 M file b)).2 _ (G45 ++ R)) (.inr rfl) rfl rfl drop_ (by unfold appendR; rw [if_neg (by omega), if_neg (by simp [hc1]), if_neg (by omega), if_neg (by simp [hc3])]; exact ⟨_, G45, rfl, rfl, hI.step⟩)
def firmI (M : Rd) (i : Nat) : List Int := (List.range i).map (lenR M) ++ M.F.drop i
theorem firmI_len {M : Rd} (h : M.F.length = 64) {i : Nat} (hi : i ≤ 64) : (firmI M i).length = 64 := by
 unfold firmI
 rw [List.length_append, List.length_map, List.length_range, List.length_drop]
 omega
theorem firmI_set {M : Rd} (h : M.F.length = 64) {i : Nat} (hi : i < 64) : (firmI M i).set i (lenR M i) = firmI M (i + 1) := by
 unfold firmI
 rw [List.set_append_right _ _ (by simp)]
 simp only [List.length_map, List.length_range, Nat.sub_self]
 rw [List.drop_eq_getElem_cons (by omega), List.set_cons_zero, List.range_succ, List.map_append]
 simp
theorem firmI_all {M : Rd} (h : M.F.length = 64) : firmI M 64 = (List.range 64).map (lenR M) := by
 unfold firmI
 rw [List.drop_of_length_le (by omega), List.append_nil]
theorem RdI.firmed {R : Objs} {M : Rd} {vs : List Value} (h : RdI R M vs) : RdI R (firmR M) vs :=
 ⟨h.lenV, h.lenB, by unfold firmR; simp, h.file, h.room, h.used, h.plan, fun n hn => by
  unfold firmR
  simp only
  rw [nth_map_range _ hn]
  exact ⟨lenR_nn M n, Int.le_refl _⟩⟩
theorem rsync_ok (R : Objs) {R0 : Objs} (r rb rf : Nat) (M : Rd) (vs : List Value) (h : RdI R0 M vs) : Spec Try.prog false 43 #[Ptr r 0] (rdO r rb rf M vs R) fun v O' => v = I (syncR M).1 ∧ O' = rdO r rb rf (syncR M).2 vs R ∧ RdI R0 (syncR M).2 vs := by
 refine Spec.enter (args := [_]) (m := 30) Try.func43 rfl rfl (by decide +kernel) fun h0 => ?_
 refine WX.seq ?_
 refine WX.region rfl ?_
 refine WXL.assign Met.none rfl ?_
 refine WXL.nil ?_
 refine Fin.then_normal ?_
 refine WX.seq ?_
 refine WX.seq ?_
 refine WX.region rfl ?_
 refine WXL.move Met.none rfl ?_
 refine WXL.nilCheck Met.none rfl ?_
 first | refine WXL.fieldAddr Met.none rfl Try.underlying58 rfl sz4 rfl ?_ | refine WXL.faS Met.none rfl Try.underlying58 rfl sz4 ?_
 first | refine WXL.ld Met.none rfl agg4 ?_ | refine WXL.ldS Met.none rfl agg4 ?_
 refine WXL.nil ?_
 refine Fin.then_normal ?_
 refine WX.cond rfl (fun hc0 => ?_) (fun hc0 => ?_)
 · try simp only [cnd] at hc0
   refine WX.seq ?_
   refine WX.region rfl ?_
   refine WXL.assign Met.none rfl ?_
   refine WXL.nil ?_
   refine Fin.then_normal ?_
   refine WX.ret ?_
   refine Fin.then_ret ?_
   first
   | exact Fin.result (O' := rdO r rb rf M vs R) (.inr rfl) rfl rfl drop_ (by unfold syncR; rw [if_pos (by assumption)]; exact ⟨rfl, rfl, h⟩)
   | exact Fin.result (O' := rdO r rb rf (stepR M).2 vs R) (.inr rfl) rfl rfl drop_ (by unfold syncR; rw [if_neg (by simp [hc0]), if_pos hc1]; exact ⟨rfl, rfl, h.step⟩)
   | exact Fin.result (O' := rdO r rb rf (firmR M2) vs R) (.inr rfl) rfl rfl drop_ (by unfold syncR; rw [if_neg (by simp [hc0]), if_neg (by simp [hc1]), ← hM2]; exact ⟨rfl, rfl, h2.firmed⟩)
 · try simp only [cnd] at hc0
   refine WX.skip ?_
   refine Fin.then_normal ?_
   refine WX.seq ?_
   refine WX.region rfl ?_
   refine WXL.move Met.none rfl ?_
   refine WXL.cl (O1 := _) Met.none rfl (fnOk_of Try.func55 (by decide +kernel)) rfl (fun _ h => h) (rstep_ok R r rb rf M vs h) (fun v O' hp => ?_)
   obtain ⟨rfl, hO⟩ := hp
   subst O'
   refine WXL.assign Met.none rfl ?_
   refine WXL.nil ?_
   refine Fin.then_normal ?_
   refine WX.seq ?_
   refine WX.seq ?_
   refine WX.region rfl ?_
   refine WXL.move Met.none rfl ?_
   refine WXL.nil ?_
   refine Fin.then_normal ?_
   refine WX.cond rfl (fun hc1 => ?_) (fun hc1 => ?_)
   · try simp only [cnd] at hc1
     refine WX.seq ?_
     refine WX.region rfl ?_
     refine WXL.assign Met.none rfl ?_
     refine WXL.nil ?_
     refine Fin.then_normal ?_
     refine WX.ret ?_
     refine Fin.then_ret ?_
     first
     | exact Fin.result (O' := rdO r rb rf M vs R) (.inr rfl) rfl rfl drop_ (by unfold syncR; rw [if_pos (by assumption)]; exact ⟨rfl, rfl, h⟩)
     | exact Fin.result (O' := rdO r rb rf (stepR M).2 vs R) (.inr rfl) rfl rfl drop_ (by unfold syncR; rw [if_neg (by simp [hc0]), if_pos hc1]; exact ⟨rfl, rfl, h.step⟩)
     | exact Fin.result (O' := rdO r rb rf (firmR M2) vs R) (.inr rfl) rfl rfl drop_ (by unfold syncR; rw [if_neg (by simp [hc0]), if_neg (by simp [hc1]), ← hM2]; exact ⟨rfl, rfl, h2.firmed⟩)
   · try simp only [cnd] at hc1
     refine WX.skip ?_
     refine Fin.then_normal ?_
     refine WX.seq ?_
     refine WX.seq ?_
     refine WX.region rfl ?_
     refine WXL.assign Met.none rfl ?_
     refine WXL.nil ?_
     refine Fin.then_normal ?_
     refine WX.block ?_
     obtain ⟨M2, hM2⟩ : ∃ M2, M2 = (stepR M).2 := ⟨_, rfl⟩
     have h2 : RdI R0 M2 vs := hM2 ▸ h.step
     rw [← hM2]
     refine WX.re (O' := rdO r rb rf ⟨M2.room, M2.B, firmI M2 0, M2.off, M2.plan⟩ vs R) ?_ (fun _ hs => hs)
     refine WX.loop (fun i : Nat => [(0, Ptr r 0), (4, I (i : Int))]) (fun i => rdO r rb rf ⟨M2.room, M2.B, firmI M2 i, M2.off, M2.plan⟩ vs R) (fun i => i ≤ 64) (fun i => 64 - i) 0 (by decide) (fun s hs => hs.tl [] 0) (fun i hi => ?_)
     refine WX.seq ?_
     refine WX.seq ?_
     refine WX.region rfl ?_
     refine WXL.move Met.none rfl ?_
     refine WXL.bin Met.none rfl rfl rfl ?_
     refine WXL.nil ?_
     refine Fin.then_normal ?_
     refine WX.cond rfl (fun hc2 => ?_) (fun hc2 => ?_)
     · try simp only [cnd] at hc2
       refine WX.skip ?_
       refine Fin.then_normal ?_
       refine WX.seq ?_
       refine WX.block ?_
       have hi64 : i < 64 := by omega
       obtain ⟨a, c, ev, _⟩ := h2.file i hi64
       have hv : vs[i]? = some (.slice a (nth M2.B i).length c) := by rw [← ev]; exact nth_eq (by rw [h2.lenV]; exact hi64)
       have hfl := firmI_len h2.lenF (i := i) (by omega)
       refine WX.draw rfl ?_
       refine WXL.move Met.none rfl ?_
       refine WXL.nilCheck Met.none rfl ?_
       first | refine WXL.fieldAddr Met.none rfl Try.underlying58 rfl sz33 rfl ?_ | refine WXL.faS Met.none rfl Try.underlying58 rfl sz33 ?_
       first | refine WXL.ld Met.none rfl agg33 ?_ | refine WXL.ldS Met.none rfl agg33 ?_
       refine WXL.move Met.none rfl ?_
       refine WXL.move Met.none rfl ?_
       refine WXL.nilCheck Met.none rfl ?_
       first | refine WXL.fieldAddr Met.none rfl Try.underlying58 rfl sz22 rfl ?_ | refine WXL.faS Met.none rfl Try.underlying58 rfl sz22 ?_
       first | refine WXL.ld Met.none rfl agg22 ?_ | refine WXL.ldS Met.none rfl agg22 ?_
       refine WXL.move Met.none rfl ?_
       first | refine WXL.ix Met.none rfl rfl elem22 sz27 ?_ | refine WXL.ixS Met.none rfl rfl elem22 sz27 ?_
       first | refine WXL.ld Met.none rfl agg27 ?_ (hv := hv) | refine WXL.ldS Met.none rfl agg27 ?_ (hv := hv)
       refine WXL.len Met.none rfl Try.underlying27 ?_
       first | refine WXL.ix Met.none rfl rfl elem33 sz3 ?_ | refine WXL.ixS Met.none rfl rfl elem33 sz3 ?_
       refine WXL.st (vs := [_]) (j := 2) Met.none rfl rfl rfl sz3 ?_ (hj := rfl) (hl := (by rw [List.length_map, hfl]; show i + 1 ≤ 64; omega)) (hc := (splice_map I _ i (lenR M2 i) (by rw [hfl]; exact hi64)))
       refine WXL.nil ?_
       refine Fin.block_normal ?_
       refine Fin.then_normal ?_
       refine WX.region rfl ?_
       refine WXL.move Met.none rfl ?_
       refine WXL.bin Met.none rfl rfl bvA ?_
       refine WXL.assign Met.none rfl ?_
       refine WXL.nil ?_
       exact Fin.loop_next (i + 1) (by omega) (by omega) (fun s hs => by rw [← firmI_set h2.lenF hi64]; exact hs.tl [] 0)
     · try simp only [cnd] at hc2
       refine WX.exit ?_
       refine Fin.then_exit ?_
       refine Fin.loop_exit ?_
       refine Fin.block_hit rfl ?_
       refine Fin.then_normal ?_
       refine WX.seq ?_
       have hie : i = 64 := by omega
       rw [hie, firmI_all h2.lenF]
       refine WX.region rfl ?_
       refine WXL.assign Met.none rfl ?_
       refine WXL.nil ?_
       refine Fin.then_normal ?_
       refine WX.ret ?_
       first
       | exact Fin.result (O' := rdO r rb rf M vs R) (.inr rfl) rfl rfl drop_ (by unfold syncR; rw [if_pos (by assumption)]; exact ⟨rfl, rfl, h⟩)
       | exact Fin.result (O' := rdO r rb rf (stepR M).2 vs R) (.inr rfl) rfl rfl drop_ (by unfold syncR; rw [if_neg (by simp [hc0]), if_pos hc1]; exact ⟨rfl, rfl, h.step⟩)
       | exact Fin.result (O' := rdO r rb rf (firmR M2) vs R) (.inr rfl) rfl rfl drop_ (by unfold syncR; rw [if_neg (by simp [hc0]), if_neg (by simp [hc1]), ← hM2]; exact ⟨rfl, rfl, h2.firmed⟩)
theorem rtrunc_ok (R : Objs) {R0 : Objs} (r rb rf : Nat) (M : Rd) (vs : List Value) (file size : Int) (h : RdI R0 M vs) (hi : ∀ g, Sat g R → Sat g R0) : Spec Try.prog false 44 #[Ptr r 0, I file, I size] (rdO r rb rf M vs R) fun v O' => ∃ vs', v = I (truncR M file size).1 ∧ O' = rdO r rb rf (truncR M file size).2 vs' R ∧ RdI R0 (truncR M file size).2 vs' := by
 have hfile : file.toNat < 64 → ∃ fa fc, vs[file.toNat]? = some (.slice fa (nth M.B file.toNat).length fc) ∧ Rowy R0 1 fa (nth M.B file.toNat).length ((nth M.B file.toNat).map B8) ∧ (fa = none → fc = 0) ∧ Bytes (nth M.B file.toNat) := fun hk => by
  obtain ⟨fa, fc, hfv, hrow0, hnil, hB⟩ := h.file _ hk
  exact ⟨fa, fc, by rw [← hfv]; exact nth_eq (by rw [h.lenV]; exact hk), hrow0, hnil, hB⟩
 refine Spec.enter (args := [_, _, _]) (m := 67) Try.func44 rfl rfl (by decide +kernel) fun h0 => ?_
 refine WX.seq ?_
 refine WX.region rfl ?_
 refine WXL.assign Met.none rfl ?_
 refine WXL.nil ?_
 refine Fin.then_normal ?_
 refine WX.seq ?_
 refine WX.seq ?_
 refine WX.region rfl ?_
 refine WXL.move Met.none rfl ?_
 refine WXL.bin Met.none rfl rfl rfl ?_
 refine WXL.move Met.none rfl ?_
 refine WXL.split (d := 10) rfl (fun hg10 => ?_) (fun hg10 => ?_)
 · try simp only [cnd] at hg10
   refine WXL.miss (j := 2) (d := 10) rfl rfl rfl ?_
   refine WXL.miss (j := 2) (d := 10) rfl rfl rfl ?_
   refine WXL.pick_t Met.none rfl rfl ?_
   refine WXL.move Met.none rfl ?_
   refine WXL.miss (j := 6) (d := 14) rfl rfl rfl ?_
   refine WXL.miss (j := 6) (d := 14) rfl rfl rfl ?_
   refine WXL.pick_t Met.none rfl rfl ?_
   refine WXL.move Met.none rfl ?_
   refine WXL.miss (j := 10) (d := 18) rfl rfl rfl ?_
   refine WXL.miss (j := 10) (d := 18) rfl rfl rfl ?_
   refine WXL.miss (j := 10) (d := 18) rfl rfl rfl ?_
   refine WXL.miss (j := 10) (d := 18) rfl rfl rfl ?_
   refine WXL.miss (j := 10) (d := 18) rfl rfl rfl ?_
   refine WXL.miss (j := 10) (d := 18) rfl rfl rfl ?_
   refine WXL.miss (j := 10) (d := 18) rfl rfl rfl ?_
   refine WXL.miss (j := 10) (d := 18) rfl rfl rfl ?_
   refine WXL.miss (j := 10) (d := 18) rfl rfl rfl ?_
   refine WXL.miss (j := 10) (d := 18) rfl rfl rfl ?_
   refine WXL.pick_t Met.none rfl rfl ?_
   refine WXL.nil ?_
   refine Fin.then_normal ?_
   refine WX.cond rfl (fun hc0 => ?_) (fun hc0 => nomatch hc0)
   refine WX.seq ?_
   refine WX.region rfl ?_
   refine WXL.assign Met.none rfl ?_
   refine WXL.nil ?_
   refine Fin.then_normal ?_
   refine WX.ret ?_
   refine Fin.then_ret ?_
   first
   | exact Fin.result (O' := rdO r rb rf M vs R) (.inr rfl) rfl rfl drop_ (by unfold truncR; rw [if_pos (by unfold lenR; omega)]; exact ⟨vs, rfl, rfl, h⟩)
   | exact Fin.result (O' := rdO r rb rf M vs R) (.inr rfl) rfl rfl drop_ (by unfold truncR; rw [if_neg (by unfold lenR; omega), if_pos (by assumption)]; exact ⟨vs, rfl, rfl, h⟩)
   | exact Fin.result (O' := rdO r rb rf (stepR M).2 vs R) (.inr rfl) rfl rfl drop_ (by unfold truncR; rw [if_neg (by unfold lenR; omega), if_neg (by simp [hc1]), if_pos hc2]; exact ⟨vs, rfl, rfl, h.step⟩)
   | exact Fin.result (O' := rdO r rb rf ⟨M2.room, M2.B.set file.toNat ((nth M2.B file.toNat).take k), M2.F.set file.toNat (min (nth M2.F file.toNat) size), M2.off, M2.plan⟩ (vs.set file.toNat (.slice fa k k)) R) (.inr rfl) rfl rfl (fun _ hs => by rw [hF2]; exact hs) (by
     have hlk : ((nth M.B file.toNat).take k).length = k := by rw [List.length_take]; omega
     have hpre := hrow0.pre hkl
     rw [Nat.mul_one, ← List.map_take] at hpre
     have hvn : RowV R0 (.slice fa k k) ((nth M.B file.toNat).take k) := ⟨fa, k, by rw [hlk], by rw [hlk]; exact hpre, hpre.nil0, fun y hy => hB y (List.mem_of_mem_take hy)⟩
     have hI : RdI R0 ⟨M2.room, M2.B.set file.toNat ((nth M.B file.toNat).take k), M2.F.set file.toNat (min (nth M2.F file.toNat) size), M2.off, M2.plan⟩ (vs.set file.toNat (.slice fa k k)) := h2.set hk hvn (by
       have := h2.used
       have h9 : lenR M2 file.toNat = ((nth M.B file.toNat).length : Nat) := by unfold lenR; rw [hB2]
       rw [h9, hlk]
       omega) (by rw [List.length_set]; exact h2.lenF) h2.plan (fun n hn => by
      have h1 := h2.firm n hn
      rw [nth_setE (by rw [h2.lenF]; exact hk), nth_setE (by rw [h2.lenB]; exact hk)]
      by_cases q : n = file.toNat
      · rw [if_pos q, if_pos q, hlk]
        rw [q] at h1
        omega
      · rw [if_neg q, if_neg q]; exact h1)
     unfold truncR
     rw [if_neg (by unfold lenR; omega), if_neg (by simp [hc1]), if_neg (by simp [hc2]), ← hM2, show size.toNat = k by omega]
     rw [← hB2] at hI
     exact ⟨_, rfl, rfl, hI⟩)
 · try simp only [cnd] at hg10
   refine WXL.move (Met.some rfl rfl rfl) rfl ?_
   refine WXL.bin (Met.some rfl rfl rfl) rfl rfl rfl ?_
   refine WXL.pick_f Met.none rfl rfl ?_
   refine WXL.move Met.none rfl ?_
   refine WXL.split (d := 14) rfl (fun hg14 => ?_) (fun hg14 => ?_)
   · try simp only [cnd] at hg14
     refine WXL.miss (j := 6) (d := 14) rfl rfl rfl ?_
     refine WXL.miss (j := 6) (d := 14) rfl rfl rfl ?_
     refine WXL.pick_t Met.none rfl rfl ?_
     refine WXL.move Met.none rfl ?_
     refine WXL.miss (j := 10) (d := 18) rfl rfl rfl ?_
     refine WXL.miss (j := 10) (d := 18) rfl rfl rfl ?_
     refine WXL.miss (j := 10) (d := 18) rfl rfl rfl ?_
     refine WXL.miss (j := 10) (d := 18) rfl rfl rfl ?_
     refine WXL.miss (j := 10) (d := 18) rfl rfl rfl ?_
     refine WXL.miss (j := 10) (d := 18) rfl rfl rfl ?_
     refine WXL.miss (j := 10) (d := 18) rfl rfl rfl ?_
     refine WXL.miss (j := 10) (d := 18) rfl rfl rfl ?_
     refine WXL.miss (j := 10) (d := 18) rfl rfl rfl ?_
     refine WXL.miss (j := 10) (d := 18) rfl rfl rfl ?_
     refine WXL.pick_t Met.none rfl rfl ?_
     refine WXL.nil ?_
     refine Fin.then_normal ?_
     refine WX.cond rfl (fun hc0 => ?_) (fun hc0 => nomatch hc0)
     refine WX.seq ?_
     refine WX.region rfl ?_
     refine WXL.assign Met.none rfl ?_
     refine WXL.nil ?_
     refine Fin.then_normal ?_
     refine WX.ret ?_
     refine Fin.then_ret ?_
     first
     | exact Fin.result (O' := rdO r rb rf M vs R) (.inr rfl) rfl rfl drop_ (by unfold truncR; rw [if_pos (by unfold lenR; omega)]; exact ⟨vs, rfl, rfl, h⟩)
     | exact Fin.result (O' := rdO r rb rf M vs R) (.inr rfl) rfl rfl drop_ (by unfold truncR; rw [if_neg (by unfold lenR; omega), if_pos (by assumption)]; exact ⟨vs, rfl, rfl, h⟩)
     | exact Fin.result (O' := rdO r rb rf (stepR M).2 vs R) (.inr rfl) rfl rfl drop_ (by unfold truncR; rw [if_neg (by unfold lenR; omega), if_neg (by simp [hc1]), if_pos hc2]; exact ⟨vs, rfl, rfl, h.step⟩)
     | exact Fin.result (O' := rdO r rb rf ⟨M2.room, M2.B.set file.toNat ((nth M2.B file.toNat).take k), M2.F.set file.toNat (min (nth M2.F file.toNat) size), M2.off, M2.plan⟩ (vs.set file.toNat (.slice fa k k)) R) (.inr rfl) rfl rfl (fun _ hs => by rw [hF2]; exact hs) (by
       have hlk : ((nth M.B file.toNat).take k).length = k := by rw [List.length_take]; omega
       have hpre := hrow0.pre hkl
       rw [Nat.mul_one, ← List.map_take] at hpre
       have hvn : RowV R0 (.slice fa k k) ((nth M.B file.toNat).take k) := ⟨fa, k, by rw [hlk], by rw [hlk]; exact hpre, hpre.nil0, fun y hy => hB y (List.mem_of_mem_take hy)⟩
       have hI : RdI R0 ⟨M2.room, M2.B.set file.toNat ((nth M.B file.toNat).take k), M2.F.set file.toNat (min (nth M2.F file.toNat) size), M2.off, M2.plan⟩ (vs.set file.toNat (.slice fa k k)) := h2.set hk hvn (by
         have := h2.used
         have h9 : lenR M2 file.toNat = ((nth M.B file.toNat).length : Nat) := by unfold lenR; rw [hB2]
         rw [h9, hlk]
         omega) (by rw [List.length_set]; exact h2.lenF) h2.plan (fun n hn => by
        have h1 := h2.firm n hn
        rw [nth_setE (by rw [h2.lenF]; exact hk), nth_setE (by rw [h2.lenB]; exact hk)]
        by_cases q : n = file.toNat
        · rw [if_pos q, if_pos q, hlk]
          rw [q] at h1
          omega
        · rw [if_neg q, if_neg q]; exact h1)
       unfold truncR
       rw [if_neg (by unfold lenR; omega), if_neg (by simp [hc1]), if_neg (by simp [hc2]), ← hM2, show size.toNat = k by omega]
       rw [← hB2] at hI
       exact ⟨_, rfl, rfl, hI⟩)
   · try simp only [cnd] at hg14
     refine WXL.move (Met.some rfl rfl rfl) rfl ?_
     refine WXL.bin (Met.some rfl rfl rfl) rfl rfl rfl ?_
     refine WXL.pick_f Met.none rfl rfl ?_
     refine WXL.move Met.none rfl ?_
     refine WXL.split (d := 18) rfl (fun hg18 => ?_) (fun hg18 => ?_)
     · try simp only [cnd] at hg18
       refine WXL.miss (j := 10) (d := 18) rfl rfl rfl ?_
       refine WXL.miss (j := 10) (d := 18) rfl rfl rfl ?_
       refine WXL.miss (j := 10) (d := 18) rfl rfl rfl ?_
       refine WXL.miss (j := 10) (d := 18) rfl rfl rfl ?_
       refine WXL.miss (j := 10) (d := 18) rfl rfl rfl ?_
       refine WXL.miss (j := 10) (d := 18) rfl rfl rfl ?_
       refine WXL.miss (j := 10) (d := 18) rfl rfl rfl ?_
       refine WXL.miss (j := 10) (d := 18) rfl rfl rfl ?_
       refine WXL.miss (j := 10) (d := 18) rfl rfl rfl ?_
       refine WXL.miss (j := 10) (d := 18) rfl rfl rfl ?_
       refine WXL.pick_t Met.none rfl rfl ?_
       refine WXL.nil ?_
       refine Fin.then_normal ?_
       refine WX.cond rfl (fun hc0 => ?_) (fun hc0 => nomatch hc0)
       refine WX.seq ?_
       refine WX.region rfl ?_
       refine WXL.assign Met.none rfl ?_
       refine WXL.nil ?_
       refine Fin.then_normal ?_
       refine WX.ret ?_
       refine Fin.then_ret ?_
       first
       | exact Fin.result (O' := rdO r rb rf M vs R) (.inr rfl) rfl rfl drop_ (by unfold truncR; rw [if_pos (by unfold lenR; omega)]; exact ⟨vs, rfl, rfl, h⟩)
       | exact Fin.result (O' := rdO r rb rf M vs R) (.inr rfl) rfl rfl drop_ (by unfold truncR; rw [if_neg (by unfold lenR; omega), if_pos (by assumption)]; exact ⟨vs, rfl, rfl, h⟩)
       | exact Fin.result (O' := rdO r rb rf (stepR M).2 vs R) (.inr rfl) rfl rfl drop_ (by unfold truncR; rw [if_neg (by unfold lenR; omega), if_neg (by simp [hc1]), if_pos hc2]; exact ⟨vs, rfl, rfl, h.step⟩)
       | exact Fin.result (O' := rdO r rb rf ⟨M2.room, M2.B.set file.toNat ((nth M2.B file.toNat).take k), M2.F.set file.toNat (min (nth M2.F file.toNat) size), M2.off, M2.plan⟩ (vs.set file.toNat (.slice fa k k)) R) (.inr rfl) rfl rfl (fun _ hs => by rw [hF2]; exact hs) (by
         have hlk : ((nth M.B file.toNat).take k).length = k := by rw [List.length_take]; omega
         have hpre := hrow0.pre hkl
         rw [Nat.mul_one, ← List.map_take] at hpre
         have hvn : RowV R0 (.slice fa k k) ((nth M.B file.toNat).take k) := ⟨fa, k, by rw [hlk], by rw [hlk]; exact hpre, hpre.nil0, fun y hy => hB y (List.mem_of_mem_take hy)⟩
         have hI : RdI R0 ⟨M2.room, M2.B.set file.toNat ((nth M.B file.toNat).take k), M2.F.set file.toNat (min (nth M2.F file.toNat) size), M2.off, M2.plan⟩ (vs.set file.toNat (.slice fa k k)) := h2.set hk hvn (by
           have := h2.used
           have h9 : lenR M2 file.toNat = ((nth M.B file.toNat).length : Nat) := by unfold lenR; rw [hB2]
           rw [h9, hlk]
           omega) (by rw [List.length_set]; exact h2.lenF) h2.plan (fun n hn => by
          have h1 := h2.firm n hn
          rw [nth_setE (by rw [h2.lenF]; exact hk), nth_setE (by rw [h2.lenB]; exact hk)]
          by_cases q : n = file.toNat
          · rw [if_pos q, if_pos q, hlk]
            rw [q] at h1
            omega
          · rw [if_neg q, if_neg q]; exact h1)
         unfold truncR
         rw [if_neg (by unfold lenR; omega), if_neg (by simp [hc1]), if_neg (by simp [hc2]), ← hM2, show size.toNat = k by omega]
         rw [← hB2] at hI
         exact ⟨_, rfl, rfl, hI⟩)
     · try simp only [cnd] at hg18
       refine WXL.move (Met.some rfl rfl rfl) rfl ?_
       refine WXL.move (Met.some rfl rfl rfl) rfl ?_
       refine WXL.nilCheck (Met.some rfl rfl rfl) rfl ?_
       first | refine WXL.fieldAddr (Met.some rfl rfl rfl) rfl Try.underlying58 rfl sz22 rfl ?_ | refine WXL.faS (Met.some rfl rfl rfl) rfl Try.underlying58 rfl sz22 ?_
       first | refine WXL.ld (Met.some rfl rfl rfl) rfl agg22 ?_ | refine WXL.ldS (Met.some rfl rfl rfl) rfl agg22 ?_
       refine WXL.move (Met.some rfl rfl rfl) rfl ?_
       first | refine WXL.ix (Met.some rfl rfl rfl) rfl rfl elem22 sz27 ?_ | refine WXL.ixS (Met.some rfl rfl rfl) rfl rfl elem22 sz27 ?_
       have hk : file.toNat < 64 := by omega
       obtain ⟨fa, fc, hv, hrow0, hnil, hB⟩ := hfile hk
       have hrow := hrow0.inc hi
       first | refine WXL.ld (Met.some rfl rfl rfl) rfl agg27 ?_ (hv := hv) | refine WXL.ldS (Met.some rfl rfl rfl) rfl agg27 ?_ (hv := hv)
       refine WXL.len (Met.some rfl rfl rfl) rfl Try.underlying27 ?_
       refine WXL.bin (Met.some rfl rfl rfl) rfl rfl rfl ?_
       refine WXL.pick_f Met.none rfl rfl ?_
       refine WXL.nil ?_
       refine Fin.then_normal ?_
       refine WX.cond rfl (fun hc0 => ?_) (fun hc0 => ?_)
       · try simp only [cnd] at hc0
         refine WX.seq ?_
         refine WX.region rfl ?_
         refine WXL.assign Met.none rfl ?_
         refine WXL.nil ?_
         refine Fin.then_normal ?_
         refine WX.ret ?_
         refine Fin.then_ret ?_
         first
         | exact Fin.result (O' := rdO r rb rf M vs R) (.inr rfl) rfl rfl drop_ (by unfold truncR; rw [if_pos (by unfold lenR; omega)]; exact ⟨vs, rfl, rfl, h⟩)
         | exact Fin.result (O' := rdO r rb rf M vs R) (.inr rfl) rfl rfl drop_ (by unfold truncR; rw [if_neg (by unfold lenR; omega), if_pos (by assumption)]; exact ⟨vs, rfl, rfl, h⟩)
         | exact Fin.result (O' := rdO r rb rf (stepR M).2 vs R) (.inr rfl) rfl rfl drop_ (by unfold truncR; rw [if_neg (by unfold lenR; omega), if_neg (by simp [hc1]), if_pos hc2]; exact ⟨vs, rfl, rfl, h.step⟩)
         | exact Fin.result (O' := rdO r rb rf ⟨M2.room, M2.B.set file.toNat ((nth M2.B file.toNat).take k), M2.F.set file.toNat (min (nth M2.F file.toNat) size), M2.off, M2.plan⟩ (vs.set file.toNat (.slice fa k k)) R) (.inr rfl) rfl rfl (fun _ hs => by rw [hF2]; exact hs) (by
           have hlk : ((nth M.B file.toNat).take k).length = k := by rw [List.length_take]; omega
           have hpre := hrow0.pre hkl
           rw [Nat.mul_one, ← List.map_take] at hpre
           have hvn : RowV R0 (.slice fa k k) ((nth M.B file.toNat).take k) := ⟨fa, k, by rw [hlk], by rw [hlk]; exact hpre, hpre.nil0, fun y hy => hB y (List.mem_of_mem_take hy)⟩
           have hI : RdI R0 ⟨M2.room, M2.B.set file.toNat ((nth M.B file.toNat).take k), M2.F.set file.toNat (min (nth M2.F file.toNat) size), M2.off, M2.plan⟩ (vs.set file.toNat (.slice fa k k)) := h2.set hk hvn (by
             have := h2.used
             have h9 : lenR M2 file.toNat = ((nth M.B file.toNat).length : Nat) := by unfold lenR; rw [hB2]
             rw [h9, hlk]
             omega) (by rw [List.length_set]; exact h2.lenF) h2.plan (fun n hn => by
            have h1 := h2.firm n hn
            rw [nth_setE (by rw [h2.lenF]; exact hk), nth_setE (by rw [h2.lenB]; exact hk)]
            by_cases q : n = file.toNat
            · rw [if_pos q, if_pos q, hlk]
              rw [q] at h1
              omega
            · rw [if_neg q, if_neg q]; exact h1)
           unfold truncR
           rw [if_neg (by unfold lenR; omega), if_neg (by simp [hc1]), if_neg (by simp [hc2]), ← hM2, show size.toNat = k by omega]
           rw [← hB2] at hI
           exact ⟨_, rfl, rfl, hI⟩)
       · try simp only [cnd] at hc0
         refine WX.skip ?_
         refine Fin.then_normal ?_
         refine WX.seq ?_
         refine WX.seq ?_
         refine WX.region rfl ?_
         refine WXL.move Met.none rfl ?_
         refine WXL.nilCheck Met.none rfl ?_
         first | refine WXL.fieldAddr Met.none rfl Try.underlying58 rfl sz4 rfl ?_ | refine WXL.faS Met.none rfl Try.underlying58 rfl sz4 ?_
         first | refine WXL.ld Met.none rfl agg4 ?_ | refine WXL.ldS Met.none rfl agg4 ?_
         refine WXL.nil ?_
         refine Fin.then_normal ?_
         refine WX.cond rfl (fun hc1 => ?_) (fun hc1 => ?_)
         · try simp only [cnd] at hc1
           refine WX.seq ?_
           refine WX.region rfl ?_
           refine WXL.assign Met.none rfl ?_
           refine WXL.nil ?_
           refine Fin.then_normal ?_
           refine WX.ret ?_
           refine Fin.then_ret ?_
           first
           | exact Fin.result (O' := rdO r rb rf M vs R) (.inr rfl) rfl rfl drop_ (by unfold truncR; rw [if_pos (by unfold lenR; omega)]; exact ⟨vs, rfl, rfl, h⟩)
           | exact Fin.result (O' := rdO r rb rf M vs R) (.inr rfl) rfl rfl drop_ (by unfold truncR; rw [if_neg (by unfold lenR; omega), if_pos (by assumption)]; exact ⟨vs, rfl, rfl, h⟩)
           | exact Fin.result (O' := rdO r rb rf (stepR M).2 vs R) (.inr rfl) rfl rfl drop_ (by unfold truncR; rw [if_neg (by unfold lenR; omega), if_neg (by simp [hc1]), if_pos hc2]; exact ⟨vs, rfl, rfl, h.step⟩)
           | exact Fin.result (O' := rdO r rb rf ⟨M2.room, M2.B.set file.toNat ((nth M2.B file.toNat).take k), M2.F.set file.toNat (min (nth M2.F file.toNat) size), M2.off, M2.plan⟩ (vs.set file.toNat (.slice fa k k)) R) (.inr rfl) rfl rfl (fun _ hs => by rw [hF2]; exact hs) (by
             have hlk : ((nth M.B file.toNat).take k).length = k := by rw [List.length_take]; omega
             have hpre := hrow0.pre hkl
             rw [Nat.mul_one, ← List.map_take] at hpre
             have hvn : RowV R0 (.slice fa k k) ((nth M.B file.toNat).take k) := ⟨fa, k, by rw [hlk], by rw [hlk]; exact hpre, hpre.nil0, fun y hy => hB y (List.mem_of_mem_take hy)⟩
             have hI : RdI R0 ⟨M2.room, M2.B.set file.toNat ((nth M.B file.toNat).take k), M2.F.set file.toNat (min (nth M2.F file.toNat) size), M2.off, M2.plan⟩ (vs.set file.toNat (.slice fa k k)) := h2.set hk hvn (by
               have := h2.used
               have h9 : lenR M2 file.toNat = ((nth M.B file.toNat).length : Nat) := by unfold lenR; rw [hB2]
               rw [h9, hlk]
               omega) (by rw [List.length_set]; exact h2.lenF) h2.plan (fun n hn => by
              have h1 := h2.firm n hn
              rw [nth_setE (by rw [h2.lenF]; exact hk), nth_setE (by rw [h2.lenB]; exact hk)]
              by_cases q : n = file.toNat
              · rw [if_pos q, if_pos q, hlk]
                rw [q] at h1
                omega
              · rw [if_neg q, if_neg q]; exact h1)
             unfold truncR
             rw [if_neg (by unfold lenR; omega), if_neg (by simp [hc1]), if_neg (by simp [hc2]), ← hM2, show size.toNat = k by omega]
             rw [← hB2] at hI
             exact ⟨_, rfl, rfl, hI⟩)
         · try simp only [cnd] at hc1
           refine WX.skip ?_
           refine Fin.then_normal ?_
           refine WX.seq ?_
           refine WX.region rfl ?_
           refine WXL.move Met.none rfl ?_
           refine WXL.cl (O1 := _) Met.none rfl (fnOk_of Try.func55 (by decide +kernel)) rfl (fun _ h => h) (rstep_ok R r rb rf M vs h) (fun v O' hp => ?_)
           obtain ⟨rfl, hO⟩ := hp
           subst O'
           refine WXL.assign Met.none rfl ?_
           refine WXL.nil ?_
           refine Fin.then_normal ?_
           refine WX.seq ?_
           refine WX.seq ?_
           refine WX.region rfl ?_
           refine WXL.move Met.none rfl ?_
           refine WXL.nil ?_
           refine Fin.then_normal ?_
           refine WX.cond rfl (fun hc2 => ?_) (fun hc2 => ?_)
           · try simp only [cnd] at hc2
             refine WX.seq ?_
             refine WX.region rfl ?_
             refine WXL.assign Met.none rfl ?_
             refine WXL.nil ?_
             refine Fin.then_normal ?_
             refine WX.ret ?_
             refine Fin.then_ret ?_
             first
             | exact Fin.result (O' := rdO r rb rf M vs R) (.inr rfl) rfl rfl drop_ (by unfold truncR; rw [if_pos (by unfold lenR; omega)]; exact ⟨vs, rfl, rfl, h⟩)
             | exact Fin.result (O' := rdO r rb rf M vs R) (.inr rfl) rfl rfl drop_ (by unfold truncR; rw [if_neg (by unfold lenR; omega), if_pos (by assumption)]; exact ⟨vs, rfl, rfl, h⟩)
             | exact Fin.result (O' := rdO r rb rf (stepR M).2 vs R) (.inr rfl) rfl rfl drop_ (by unfold truncR; rw [if_neg (by unfold lenR; omega), if_neg (by simp [hc1]), if_pos hc2]; exact ⟨vs, rfl, rfl, h.step⟩)
             | exact Fin.result (O' := rdO r rb rf ⟨M2.room, M2.B.set file.toNat ((nth M2.B file.toNat).take k), M2.F.set file.toNat (min (nth M2.F file.toNat) size), M2.off, M2.plan⟩ (vs.set file.toNat (.slice fa k k)) R) (.inr rfl) rfl rfl (fun _ hs => by rw [hF2]; exact hs) (by
               have hlk : ((nth M.B file.toNat).take k).length = k := by rw [List.length_take]; omega
               have hpre := hrow0.pre hkl
               rw [Nat.mul_one, ← List.map_take] at hpre
               have hvn : RowV R0 (.slice fa k k) ((nth M.B file.toNat).take k) := ⟨fa, k, by rw [hlk], by rw [hlk]; exact hpre, hpre.nil0, fun y hy => hB y (List.mem_of_mem_take hy)⟩
               have hI : RdI R0 ⟨M2.room, M2.B.set file.toNat ((nth M.B file.toNat).take k), M2.F.set file.toNat (min (nth M2.F file.toNat) size), M2.off, M2.plan⟩ (vs.set file.toNat (.slice fa k k)) := h2.set hk hvn (by
                 have := h2.used
                 have h9 : lenR M2 file.toNat = ((nth M.B file.toNat).length : Nat) := by unfold lenR; rw [hB2]
                 rw [h9, hlk]
                 omega) (by rw [List.length_set]; exact h2.lenF) h2.plan (fun n hn => by
                have h1 := h2.firm n hn
                rw [nth_setE (by rw [h2.lenF]; exact hk), nth_setE (by rw [h2.lenB]; exact hk)]
                by_cases q : n = file.toNat
                · rw [if_pos q, if_pos q, hlk]
                  rw [q] at h1
                  omega
                · rw [if_neg q, if_neg q]; exact h1)
               unfold truncR
               rw [if_neg (by unfold lenR; omega), if_neg (by simp [hc1]), if_neg (by simp [hc2]), ← hM2, show size.toNat = k by omega]
               rw [← hB2] at hI
               exact ⟨_, rfl, rfl, hI⟩)
           · try simp only [cnd] at hc2
             refine WX.skip ?_
             refine Fin.then_normal ?_
             refine WX.seq ?_
             obtain ⟨s1, s2, s3⟩ := stepR_same M
             obtain ⟨M2, hM2⟩ : ∃ M2, M2 = (stepR M).2 := ⟨_, rfl⟩
             have h2 : RdI R0 M2 vs := hM2 ▸ h.step
             have hB2 : M2.B = M.B := hM2 ▸ s1
             have hF2 : M2.F = M.F := hM2 ▸ s2
             obtain ⟨k, hkz⟩ : ∃ k : Nat, size = (k : Int) := ⟨size.toNat, by omega⟩
             have hkl : k ≤ (nth M.B file.toNat).length := by omega
             have hkn : file.toNat < M.F.length := by rw [h.lenF]; exact hk
             rw [← hM2]
             rw [show M2 = ⟨M2.room, M2.B, M2.F, M2.off, M2.plan⟩ from rfl, hF2]
             dsimp only
             refine WX.draw rfl ?_
             refine WXL.move Met.none rfl ?_
             refine WXL.nilCheck Met.none rfl ?_
             first | refine WXL.fieldAddr Met.none rfl Try.underlying58 rfl sz22 rfl ?_ | refine WXL.faS Met.none rfl Try.underlying58 rfl sz22 ?_
             first | refine WXL.ld Met.none rfl agg22 ?_ | refine WXL.ldS Met.none rfl agg22 ?_
             refine WXL.move Met.none rfl ?_
             refine WXL.move Met.none rfl ?_
             refine WXL.nilCheck Met.none rfl ?_
             first | refine WXL.fieldAddr Met.none rfl Try.underlying58 rfl sz22 rfl ?_ | refine WXL.faS Met.none rfl Try.underlying58 rfl sz22 ?_
             first | refine WXL.ld Met.none rfl agg22 ?_ | refine WXL.ldS Met.none rfl agg22 ?_
             refine WXL.move Met.none rfl ?_
             first | refine WXL.ix Met.none rfl rfl elem22 sz27 ?_ | refine WXL.ixS Met.none rfl rfl elem22 sz27 ?_
             first | refine WXL.ld Met.none rfl agg27 ?_ (hv := hv) | refine WXL.ldS Met.none rfl agg27 ?_ (hv := hv)
             refine WXL.move Met.none rfl ?_
             refine WXL.pre (m := k) Met.none rfl rfl elem27 sz5 (Rowy.cons (Rowy.cons (Rowy.cons hrow))) hnil ?_
             first | refine WXL.ix Met.none rfl rfl elem22 sz27 ?_ | refine WXL.ixS Met.none rfl rfl elem22 sz27 ?_
             refine WXL.st (vs := [_]) (j := 1) Met.none rfl rfl rfl sz27 ?_ (hj := rfl) (hl := (by show file.toNat + 1 ≤ vs.length; rw [h.lenV]; omega)) (hc := (splice_one (by rw [h.lenV]; exact hk)))
             refine WXL.nil ?_
             refine Fin.then_normal ?_
             refine WX.seq ?_
             refine WX.draw rfl ?_
             refine WXL.move Met.none rfl ?_
             refine WXL.nilCheck Met.none rfl ?_
             first | refine WXL.fieldAddr Met.none rfl Try.underlying58 rfl sz33 rfl ?_ | refine WXL.faS Met.none rfl Try.underlying58 rfl sz33 ?_
             first | refine WXL.ld Met.none rfl agg33 ?_ | refine WXL.ldS Met.none rfl agg33 ?_
             refine WXL.move Met.none rfl ?_
             refine WXL.move Met.none rfl ?_
             refine WXL.nilCheck Met.none rfl ?_
             first | refine WXL.fieldAddr Met.none rfl Try.underlying58 rfl sz33 rfl ?_ | refine WXL.faS Met.none rfl Try.underlying58 rfl sz33 ?_
             first | refine WXL.ld Met.none rfl agg33 ?_ | refine WXL.ldS Met.none rfl agg33 ?_
             refine WXL.move Met.none rfl ?_
             first | refine WXL.ix Met.none rfl rfl elem33 sz3 ?_ | refine WXL.ixS Met.none rfl rfl elem33 sz3 ?_
             first | refine WXL.ld Met.none rfl agg3 ?_ (hv := (cell_map I _ file.toNat hkn)) | refine WXL.ldS Met.none rfl agg3 ?_ (hv := (cell_map I _ file.toNat hkn))
             refine WXL.move Met.none rfl ?_
             refine WXL.min Met.none rfl rfl ?_
             first | refine WXL.ix Met.none rfl rfl elem33 sz3 ?_ | refine WXL.ixS Met.none rfl rfl elem33 sz3 ?_
             refine WXL.st (vs := [_]) (j := 2) Met.none rfl rfl rfl sz3 ?_ (hj := rfl) (hl := (by rw [List.length_map, h.lenF]; show file.toNat + 1 ≤ 64; omega))
             refine WXL.nil ?_
             refine Fin.then_normal ?_
             refine WX.seq ?_
             refine WX.region rfl ?_
             refine WXL.assign Met.none rfl ?_
             refine WXL.nil ?_
             refine Fin.then_normal ?_
             refine WX.ret ?_
             first
             | exact Fin.result (O' := rdO r rb rf M vs R) (.inr rfl) rfl rfl drop_ (by unfold truncR; rw [if_pos (by unfold lenR; omega)]; exact ⟨vs, rfl, rfl, h⟩)
             | exact Fin.result (O' := rdO r rb rf M vs R) (.inr rfl) rfl rfl drop_ (by unfold truncR; rw [if_neg (by unfold lenR; omega), if_pos (by assumption)]; exact ⟨vs, rfl, rfl, h⟩)
             | exact Fin.result (O' := rdO r rb rf (stepR M).2 vs R) (.inr rfl) rfl rfl drop_ (by unfold truncR; rw [if_neg (by unfold lenR; omega), if_neg (by simp [hc1]), if_pos hc2]; exact ⟨vs, rfl, rfl, h.step⟩)
             | exact Fin.result (O' := rdO r rb rf ⟨M2.room, M2.B.set file.toNat ((nth M2.B file.toNat).take k), M2.F.set file.toNat (min (nth M2.F file.toNat) size), M2.off, M2.plan⟩ (vs.set file.toNat (.slice fa k k)) R) (.inr rfl) rfl rfl (fun _ hs => by rw [hF2]; exact hs) (by
               have hlk : ((nth M.B file.toNat).take k).length = k := by rw [List.length_take]; omega
               have hpre := hrow0.pre hkl
               rw [Nat.mul_one, ← List.map_take] at hpre
               have hvn : RowV R0 (.slice fa k k) ((nth M.B file.toNat).take k) := ⟨fa, k, by rw [hlk], by rw [hlk]; exact hpre, hpre.nil0, fun y hy => hB y (List.mem_of_mem_take hy)⟩
               have hI : RdI R0 ⟨M2.room, M2.B.set file.toNat ((nth M.B file.toNat).take k), M2.F.set file.toNat (min (nth M2.F file.toNat) size), M2.off, M2.plan⟩ (vs.set file.toNat (.slice fa k k)) := h2.set hk hvn (by
                 have := h2.used
                 have h9 : lenR M2 file.toNat = ((nth M.B file.toNat).length : Nat) := by unfold lenR; rw [hB2]
                 rw [h9, hlk]
                 omega) (by rw [List.length_set]; exact h2.lenF) h2.plan (fun n hn => by
                have h1 := h2.firm n hn
                rw [nth_setE (by rw [h2.lenF]; exact hk), nth_setE (by rw [h2.lenB]; exact hk)]
                by_cases q : n = file.toNat
                · rw [if_pos q, if_pos q, hlk]
                  rw [q] at h1
                  omega
                · rw [if_neg q, if_neg q]; exact h1)
               unfold truncR
               rw [if_neg (by unfold lenR; omega), if_neg (by simp [hc1]), if_neg (by simp [hc2]), ← hM2, show size.toNat = k by omega]
               rw [← hB2] at hI
               exact ⟨_, rfl, rfl, hI⟩)
end Go.Proofs.Ytahaplbdhgfobaa.Eng
set_option linter.unusedVariables false
set_option linter.unusedSimpArgs false
set_option maxRecDepth 8000
namespace Go.Proofs.Ytahaplbdhgfobaa.Eng
def filesI (M : Rd) (i : Nat) : List Nat := (List.range i).filter fun i => decide (0 < (nth M.B i).length)
theorem filesI_succ (M : Rd) (i : Nat) : filesI M (i + 1) = filesI M i ++ (if 0 < (nth M.B i).length then [i] else []) := by
 unfold filesI
 rw [List.range_succ, List.filter_append]
 by_cases h : 0 < (nth M.B i).length
 · rw [if_pos h]; simp [h]
 · rw [if_neg h]; simp [h]
theorem filesI_len (M : Rd) (i : Nat) : (filesI M i).length ≤ i := by
 unfold filesI
 have := List.length_filter_le (fun i => decide (0 < (nth M.B i).length)) (List.range i)
 rw [List.length_range] at this
 exact this
def castV (l : List Nat) : List Value := l.map fun n => I ((n : Nat) : Int)
theorem rfiles_ok (R : Objs) {R0 : Objs} (r rb rf : Nat) (M : Rd) (vs : List Value) (h : RdI R0 M vs) : Spec Try.prog false 49 #[Ptr r 0] (rdO r rb rf M vs R) fun v O' => ∃ a c G, v = .slice a (filesR M).length c ∧ Grow 1 a (filesR M).length c (castV (filesR M)) G ∧ O' = rdO r rb rf M vs (G ++ R) := by
 refine Spec.enter (args := [_]) (m := 23) Try.func49 rfl rfl (by decide +kernel) fun h0 => ?_
 refine WX.seq ?_
 refine WX.region rfl ?_
 refine WXL.assign Met.none rfl ?_
 refine WXL.nil ?_
 refine Fin.then_normal ?_
 refine WX.seq ?_
 refine WX.region rfl ?_
 refine WXL.assign Met.none rfl ?_
 refine WXL.nil ?_
 refine Fin.then_normal ?_
 refine WX.seq ?_
 refine WX.seq ?_
 refine WX.region rfl ?_
 refine WXL.assign Met.none rfl ?_
 refine WXL.nil ?_
 refine Fin.then_normal ?_
 refine WX.block ?_
 refine WX.re (O' := rdO r rb rf M vs ([] ++ R)) ?_
 refine WX.loop (fun q : Nat × Option Addr × Nat × Objs => [(0, Ptr r 0), (3, .slice q.2.1 (filesI M q.1).length q.2.2.1), (4, I (q.1 : Int))]) (fun q => rdO r rb rf M vs (q.2.2.2 ++ R)) (fun q => q.1 ≤ 64 ∧ Grow 1 q.2.1 (filesI M q.1).length q.2.2.1 (castV (filesI M q.1)) q.2.2.2) (fun q => 64 - q.1) (0, none, 0, []) ⟨Nat.zero_le _, .nil⟩ (fun s hs => hs.tl [] 0) (fun q hq => ?_)
 obtain ⟨i, a3, c3, G3⟩ := q
 obtain ⟨hi, hG3⟩ := hq
 simp only at hi hG3
 dsimp only
 have hfl := filesI_len M i
 have hfs := filesI_succ M i
 refine WX.seq ?_
 refine WX.seq ?_
 refine WX.region rfl ?_
 refine WXL.move Met.none rfl ?_
 refine WXL.bin Met.none rfl rfl rfl ?_
 refine WXL.nil ?_
 refine Fin.then_normal ?_
 refine WX.cond rfl (fun hc0 => ?_) (fun hc0 => ?_)
 · try simp only [cnd] at hc0
   refine WX.skip ?_
   refine Fin.then_normal ?_
   refine WX.seq ?_
   refine WX.block ?_
   refine WX.seq ?_
   have hi64 : i < 64 := by omega
   obtain ⟨a, c, ev, _⟩ := h.file i hi64
   have hv : vs[i]? = some (.slice a (nth M.B i).length c) := by rw [← ev]; exact nth_eq (by rw [h.lenV]; exact hi64)
   refine WX.region rfl ?_
   refine WXL.move Met.none rfl ?_
   refine WXL.nilCheck Met.none rfl ?_
   first | refine WXL.fieldAddr Met.none rfl Try.underlying58 rfl sz22 rfl ?_ | refine WXL.faS Met.none rfl Try.underlying58 rfl sz22 ?_
   first | refine WXL.ld Met.none rfl agg22 ?_ | refine WXL.ldS Met.none rfl agg22 ?_
   refine WXL.move Met.none rfl ?_
   first | refine WXL.ix Met.none rfl rfl elem22 sz27 ?_ | refine WXL.ixS Met.none rfl rfl elem22 sz27 ?_
   first | refine WXL.ld Met.none rfl agg27 ?_ (hv := hv) | refine WXL.ldS Met.none rfl agg27 ?_ (hv := hv)
   refine WXL.len Met.none rfl Try.underlying27 ?_
   refine WXL.bin Met.none rfl rfl rfl ?_
   refine WXL.nil ?_
   refine Fin.then_normal ?_
   refine WX.cond rfl (fun hc1 => ?_) (fun hc1 => ?_)
   · try simp only [cnd] at hc1
     rw [if_pos (by omega)] at hfs
     refine WX.region rfl ?_
     refine WXL.move Met.none rfl ?_
     refine WXL.move Met.none rfl ?_
     refine WXL.buildSlice (c := [_]) Met.none rfl elem33 sz3 zero3 (by decide) (by decide) rfl rfl rfl rfl (fun b20 => ?_)
     refine WXL.apG [_, _, _, _] Met.none rfl rfl isrow33 elem33 sz3 by3 zero3 (Src.lit (cs := [_])) (fun a21 c21 G21 hG21 => ?_)
     refine WXL.assign Met.none rfl ?_
     refine WXL.nil ?_
     refine Fin.block_normal ?_
     refine Fin.then_normal ?_
     first | refine WX.re (O' := rdO r rb rf M vs (G21 ++ R)) ?_ | skip
     refine WX.region rfl ?_
     refine WXL.move Met.none rfl ?_
     refine WXL.bin Met.none rfl rfl bvA ?_
     refine WXL.assign Met.none rfl ?_
     refine WXL.nil ?_
     first
     | exact Fin.loop_next (i + 1, a21, c21, G21) ⟨by simp only; omega, by simp only; rw [hfs, List.length_append]; unfold castV at hG21 ⊢; rw [List.map_append]; exact hG21⟩ (by simp only; omega) (fun s hs => by dsimp only; rw [hfs, List.length_append]; exact hs.tl [] 0)
     | exact Fin.loop_next (i + 1, a3, c3, G3) ⟨by simp only; omega, by simp only; rw [hfs]; exact hG3⟩ (by simp only; omega) (fun s hs => by dsimp only; rw [hfs]; exact hs.tl [] 0)
   · try simp only [cnd] at hc1
     rw [if_neg (by omega), List.append_nil] at hfs
     refine WX.skip ?_
     refine Fin.block_normal ?_
     refine Fin.then_normal ?_
     first | refine WX.re (O' := rdO r rb rf M vs (G21 ++ R)) ?_ | skip
     refine WX.region rfl ?_
     refine WXL.move Met.none rfl ?_
     refine WXL.bin Met.none rfl rfl bvA ?_
     refine WXL.assign Met.none rfl ?_
     refine WXL.nil ?_
     first
     | exact Fin.loop_next (i + 1, a21, c21, G21) ⟨by simp only; omega, by simp only; rw [hfs, List.length_append]; unfold castV at hG21 ⊢; rw [List.map_append]; exact hG21⟩ (by simp only; omega) (fun s hs => by dsimp only; rw [hfs, List.length_append]; exact hs.tl [] 0)
     | exact Fin.loop_next (i + 1, a3, c3, G3) ⟨by simp only; omega, by simp only; rw [hfs]; exact hG3⟩ (by simp only; omega) (fun s hs => by dsimp only; rw [hfs]; exact hs.tl [] 0)
 · try simp only [cnd] at hc0
   refine WX.exit ?_
   refine Fin.then_exit ?_
   refine Fin.loop_exit ?_
   refine Fin.block_hit rfl ?_
   refine Fin.then_normal ?_
   refine WX.seq ?_
   have hie : i = 64 := by omega
   rw [hie] at hG3 ⊢
   refine WX.region rfl ?_
   refine WXL.move Met.none rfl ?_
   refine WXL.assign Met.none rfl ?_
   refine WXL.nil ?_
   refine Fin.then_normal ?_
   refine WX.ret ?_
   exact Fin.result (O' := rdO r rb rf M vs (G3 ++ R)) (.inr rfl) rfl rfl drop_ ⟨a3, c3, G3, rfl, hG3, rfl⟩
def copB (M : Rd) (i : Nat) : List (List Int) := M.B.take i ++ List.replicate (64 - i) []
def copF (M : Rd) (i : Nat) : List Int := M.F.take i ++ List.replicate (64 - i) 0
theorem cop_nth {α : Type} [Inhabited α] {l : List α} {a : α} (hl : l.length = 64) {i n : Nat} (hi : i ≤ 64) (hn : n < 64) : nth (l.take i ++ List.replicate (64 - i) a) n = if n < i then nth l n else a := by
 rw [nth_get (by rw [List.length_append, List.length_take, List.length_replicate]; omega)]
 split
 · rename_i h
   rw [List.getElem_append_left (by rw [List.length_take]; omega), List.getElem_take, nth_get (by omega)]
 · rename_i h
   rw [List.getElem_append_right (by rw [List.length_take]; omega), List.getElem_replicate]
theorem cop_set {α : Type} [Inhabited α] {l : List α} {a : α} (hl : l.length = 64) {i : Nat} (hi : i < 64) : (l.take i ++ List.replicate (64 - i) a).set i (nth l i) = l.take (i + 1) ++ List.replicate (64 - (i + 1)) a := by
 apply List.ext_getElem
 · simp [hl]; omega
 · intro n h1 h2
   rw [List.length_set, List.length_append, List.length_take, List.length_replicate] at h1
   have hn : n < 64 := by omega
   rw [← nth_get h2, cop_nth hl (by omega) hn, ← nth_get (by rw [List.length_set, List.length_append, List.length_take, List.length_replicate]; exact h1), nth_setE (by rw [List.length_append, List.length_take, List.length_replicate]; omega), cop_nth hl (by omega) hn]
   by_cases h : n = i
   · subst h; rw [if_pos rfl, if_pos (by omega)]
   · rw [if_neg h]
     by_cases h3 : n < i
     · rw [if_pos h3, if_pos (by omega)]
     · rw [if_neg h3, if_neg (by omega)]
theorem cop_all {α : Type} {l : List α} {a : α} (hl : l.length = 64) : l.take 64 ++ List.replicate (64 - 64) a = l := by
 rw [List.take_of_length_le (by omega)]
 simp
structure CoS where
 i : Nat
 vs : List Value
 N : Objs
theorem rcopy_ok (R : Objs) {R0 : Objs} (r rb rf : Nat) (M : Rd) (vs : List Value) (h : RdI R0 M vs) (hi : ∀ g, Sat g R → Sat g R0) : Spec Try.prog false 33 #[Ptr r 0] (rdO r rb rf M vs R) fun v O' => ∃ r2 rb2 rf2 vs2 N, v = Ptr r2 0 ∧ O' = rdO r2 rb2 rf2 M vs2 (rdO r rb rf M vs (N ++ R)) ∧ RdI N M vs2 := by
 refine Spec.enter (args := [_]) (m := 63) Try.func33 rfl rfl (by decide +kernel) fun h0 => ?_
 refine WX.seq ?_
 refine WX.region rfl ?_
 refine WXL.assign Met.none rfl ?_
 refine WXL.nil ?_
 refine Fin.then_normal ?_
 refine WX.seq ?_
 refine WX.region rfl ?_
 refine WXL.move Met.none rfl ?_
 refine WXL.nilCheck Met.none rfl ?_
 first | refine WXL.fieldAddr Met.none rfl Try.underlying58 rfl sz3 rfl ?_ | refine WXL.faS Met.none rfl Try.underlying58 rfl sz3 ?_
 first | refine WXL.ld Met.none rfl agg3 ?_ | refine WXL.ldS Met.none rfl agg3 ?_
 refine WXL.cl (O1 := _) Met.none rfl (fnOk_of Try.func22 (by decide +kernel)) rfl (fun _ h => h) (rnew_ok _ M.room) (fun v O' hp => ?_)
 obtain ⟨r2, rb2, rf2, rfl, rfl⟩ := hp
 refine WXL.assign Met.none rfl ?_
 refine WXL.nil ?_
 refine Fin.then_normal ?_
 refine WX.seq ?_
 refine WX.seq ?_
 refine WX.region rfl ?_
 refine WXL.assign Met.none rfl ?_
 refine WXL.nil ?_
 refine Fin.then_normal ?_
 refine WX.block ?_
 refine WX.re (O' := rdO r2 rb2 rf2 ⟨M.room, copB M 0, copF M 0, false, -1⟩ vs0 (rdO r rb rf M vs ([] ++ R))) ?_ (by rw [show copF M 0 = List.replicate 64 0 from by unfold copF; rw [List.take_zero]; rfl]; exact fun _ hs => hs)
 refine WX.loop (fun q : CoS => [(0, Ptr r 0), (3, Ptr r2 0), (4, I (q.i : Int))]) (fun q => rdO r2 rb2 rf2 ⟨M.room, copB M q.i, copF M q.i, false, -1⟩ q.vs (rdO r rb rf M vs (q.N ++ R))) (fun q => q.i ≤ 64 ∧ q.vs.length = 64 ∧ (∀ n, n < q.i → RowV q.N (nth q.vs n) (nth M.B n)) ∧ ∀ n, q.i ≤ n → n < 64 → nth q.vs n = .slice none 0 0) (fun q => 64 - q.i) ⟨0, vs0, []⟩ ⟨Nat.zero_le _, by unfold vs0; simp, (fun n hn => absurd hn (Nat.not_lt_zero _)), fun n _ hn => by unfold vs0; exact nth_replicate hn⟩ (fun s hs => hs.tl [] 0) (fun q hq => ?_)
 obtain ⟨i, ws, N⟩ := q
 obtain ⟨hi4, hwl, hw1, hw2⟩ := hq
 simp only at hi4 hwl hw1 hw2
 dsimp only
 refine WX.seq ?_
 refine WX.seq ?_
 refine WX.region rfl ?_
 refine WXL.move Met.none rfl ?_
 refine WXL.bin Met.none rfl rfl rfl ?_
 refine WXL.nil ?_
 refine Fin.then_normal ?_
 refine WX.cond rfl (fun hc0 => ?_) (fun hc0 => ?_)
 · try simp only [cnd] at hc0
   refine WX.skip ?_
   refine Fin.then_normal ?_
   refine WX.seq ?_
   refine WX.block ?_
   refine WX.seq ?_
   have hi64 : i < 64 := by omega
   obtain ⟨fa, fc, hfv, hrow0, hnil, hB⟩ := h.file i hi64
   have hrow := hrow0.inc hi
   have hfl := h.len hi64
   have hv : vs[i]? = some (.slice fa (nth M.B i).length fc) := by rw [← hfv]; exact nth_eq (by rw [h.lenV]; exact hi64)
   have hw : ws[i]? = some (.slice none 0 0) := by rw [← hw2 i (Nat.le_refl _) hi64]; exact nth_eq (by rw [hwl]; exact hi64)
   have hFl : (copF M i).length = 64 := by unfold copF; rw [List.length_append, List.length_take, List.length_replicate, h.lenF]; omega
   refine WX.draw rfl ?_
   refine WXL.move Met.none rfl ?_
   refine WXL.nilCheck Met.none rfl ?_
   first | refine WXL.fieldAddr Met.none rfl Try.underlying58 rfl sz22 rfl ?_ | refine WXL.faS Met.none rfl Try.underlying58 rfl sz22 ?_
   first | refine WXL.ld Met.none rfl agg22 ?_ | refine WXL.ldS Met.none rfl agg22 ?_
   refine WXL.move Met.none rfl ?_
   refine WXL.move Met.none rfl ?_
   refine WXL.nilCheck Met.none rfl ?_
   first | refine WXL.fieldAddr Met.none rfl Try.underlying58 rfl sz22 rfl ?_ | refine WXL.faS Met.none rfl Try.underlying58 rfl sz22 ?_
   first | refine WXL.ld Met.none rfl agg22 ?_ | refine WXL.ldS Met.none rfl agg22 ?_
   refine WXL.move Met.none rfl ?_
   first | refine WXL.ix Met.none rfl rfl elem22 sz27 ?_ | refine WXL.ixS Met.none rfl rfl elem22 sz27 ?_
   first | refine WXL.ld Met.none rfl agg27 ?_ (hv := hw) | refine WXL.ldS Met.none rfl agg27 ?_ (hv := hw)
   refine WXL.move Met.none rfl ?_
   refine WXL.nilCheck Met.none rfl ?_
   first | refine WXL.fieldAddr Met.none rfl Try.underlying58 rfl sz22 rfl ?_ | refine WXL.faS Met.none rfl Try.underlying58 rfl sz22 ?_
   first | refine WXL.ld Met.none rfl agg22 ?_ | refine WXL.ldS Met.none rfl agg22 ?_
   refine WXL.move Met.none rfl ?_
   first | refine WXL.ix Met.none rfl rfl elem22 sz27 ?_ | refine WXL.ixS Met.none rfl rfl elem22 sz27 ?_
   first | refine WXL.ld Met.none rfl agg27 ?_ (hv := hv) | refine WXL.ldS Met.none rfl agg27 ?_ (hv := hv)
   refine WXL.apG [_, _, _, _, _, _] Met.none rfl rfl isrow27 elem27 sz5 by5 zero5 (Src.cons (Src.cons (Src.cons (Src.cons (Src.cons (Src.cons (Src.app (hrow.src hnil)))))))) (fun a33 c33 G33 hG33 => ?_) (hm := (by rw [List.length_map]; omega)) (hO := (show _ = [_, _, _, _, _, _] ++ ([] ++ (N ++ R)) from rfl)) (hg := (Grow.nil (sz := 1)))
   first | refine WXL.ix Met.none rfl rfl elem22 sz27 ?_ | refine WXL.ixS Met.none rfl rfl elem22 sz27 ?_
   refine WXL.st (vs := [_]) (j := 1) Met.none rfl rfl rfl sz27 ?_ (hj := rfl) (hl := (by show i + 1 ≤ ws.length; rw [hwl]; omega)) (hc := (splice_one (by rw [hwl]; exact hi64)))
   refine WXL.nil ?_
   refine Fin.then_normal ?_
   refine WX.draw rfl ?_
   refine WXL.move Met.none rfl ?_
   refine WXL.nilCheck Met.none rfl ?_
   first | refine WXL.fieldAddr Met.none rfl Try.underlying58 rfl sz33 rfl ?_ | refine WXL.faS Met.none rfl Try.underlying58 rfl sz33 ?_
   first | refine WXL.ld Met.none rfl agg33 ?_ | refine WXL.ldS Met.none rfl agg33 ?_
   refine WXL.move Met.none rfl ?_
   refine WXL.move Met.none rfl ?_
   refine WXL.nilCheck Met.none rfl ?_
   first | refine WXL.fieldAddr Met.none rfl Try.underlying58 rfl sz33 rfl ?_ | refine WXL.faS Met.none rfl Try.underlying58 rfl sz33 ?_
   first | refine WXL.ld Met.none rfl agg33 ?_ | refine WXL.ldS Met.none rfl agg33 ?_
   refine WXL.move Met.none rfl ?_
   first | refine WXL.ix Met.none rfl rfl elem33 sz3 ?_ | refine WXL.ixS Met.none rfl rfl elem33 sz3 ?_
   first | refine WXL.ld Met.none rfl agg3 ?_ (hv := (cell_map I _ i (by rw [h.lenF]; exact hi64))) | refine WXL.ldS Met.none rfl agg3 ?_ (hv := (cell_map I _ i (by rw [h.lenF]; exact hi64)))
   first | refine WXL.ix Met.none rfl rfl elem33 sz3 ?_ | refine WXL.ixS Met.none rfl rfl elem33 sz3 ?_
   refine WXL.st (vs := [_]) (j := 2) Met.none rfl rfl rfl sz3 ?_ (hj := rfl) (hl := (by rw [List.length_map, hFl]; show i + 1 ≤ 64; omega)) (hc := (splice_map I _ i (nth M.F i) (by rw [hFl]; exact hi64)))
   refine WXL.nil ?_
   refine Fin.block_normal ?_
   refine Fin.then_normal ?_
   refine WX.re (O' := rdO r2 rb2 rf2 ⟨M.room, copB M (i + 1), copF M (i + 1), false, -1⟩ (ws.set i (.slice a33 (0 + (nth M.B i).length) c33)) (rdO r rb rf M vs ((G33 ++ N) ++ R))) ?_ (by rw [show copF M (i + 1) = (copF M i).set i (nth M.F i) from (cop_set h.lenF hi64).symm]; exact sub_)
   refine WX.region rfl ?_
   refine WXL.move Met.none rfl ?_
   refine WXL.bin Met.none rfl rfl bvA ?_
   refine WXL.assign Met.none rfl ?_
   refine WXL.nil ?_
   refine Fin.loop_next (⟨i + 1, ws.set i (.slice a33 (0 + (nth M.B i).length) c33), G33 ++ N⟩ : CoS) ⟨by simp only; omega, by simp only [List.length_set]; exact hwl, fun n hn => ?_, fun n h1 h2 => ?_⟩ (by simp only; omega) (fun s hs => hs.tl [] 0)
   · simp only at hn ⊢
     rw [nth_setE (by rw [hwl]; exact hi64)]
     by_cases hq : n = i
     · rw [if_pos hq, hq]
       have h3 := hG33.rowy (R := N)
       rw [List.nil_append, Nat.zero_add] at h3
       exact ⟨a33, c33, by rw [Nat.zero_add], h3, fun q => (hG33.nil0 q).1, hB⟩
     · rw [if_neg hq]
       exact (hw1 n (by omega)).app
   · simp only at h1 ⊢
     rw [nth_setE (by rw [hwl]; exact hi64), if_neg (by omega)]
     exact hw2 n (by omega) h2
 · try simp only [cnd] at hc0
   refine WX.exit ?_
   refine Fin.then_exit ?_
   refine Fin.loop_exit ?_
   refine Fin.block_hit rfl ?_
   refine Fin.then_normal ?_
   refine WX.seq ?_
   have hie : i = 64 := by omega
   subst hie
   refine WX.re (O' := rdO r2 rb2 rf2 ⟨M.room, M.B, M.F, false, -1⟩ ws (rdO r rb rf M vs (N ++ R))) ?_ (by rw [show copF M 64 = M.F from cop_all h.lenF]; exact fun _ hs => hs)
   refine WX.region rfl ?_
   refine WXL.move Met.none rfl ?_
   refine WXL.move Met.none rfl ?_
   refine WXL.nilCheck Met.none rfl ?_
   first | refine WXL.fieldAddr Met.none rfl Try.underlying58 rfl sz4 rfl ?_ | refine WXL.faS Met.none rfl Try.underlying58 rfl sz4 ?_
   first | refine WXL.ld Met.none rfl agg4 ?_ | refine WXL.ldS Met.none rfl agg4 ?_
   refine WXL.nilCheck Met.none rfl ?_
   first | refine WXL.fieldAddr Met.none rfl Try.underlying58 rfl sz4 rfl ?_ | refine WXL.faS Met.none rfl Try.underlying58 rfl sz4 ?_
   refine WXL.st (vs := [_]) (j := 0) Met.none rfl rfl rfl sz4 ?_ (hj := rfl)
   refine WXL.nil ?_
   refine Fin.then_normal ?_
   refine WX.seq ?_
   refine WX.region rfl ?_
   refine WXL.move Met.none rfl ?_
   refine WXL.move Met.none rfl ?_
   refine WXL.nilCheck Met.none rfl ?_
   first | refine WXL.fieldAddr Met.none rfl Try.underlying58 rfl sz3 rfl ?_ | refine WXL.faS Met.none rfl Try.underlying58 rfl sz3 ?_
   first | refine WXL.ld Met.none rfl agg3 ?_ | refine WXL.ldS Met.none rfl agg3 ?_
   refine WXL.nilCheck Met.none rfl ?_
   first | refine WXL.fieldAddr Met.none rfl Try.underlying58 rfl sz3 rfl ?_ | refine WXL.faS Met.none rfl Try.underlying58 rfl sz3 ?_
   refine WXL.st (vs := [_]) (j := 0) Met.none rfl rfl rfl sz3 ?_ (hj := rfl)
   refine WXL.nil ?_
   refine Fin.then_normal ?_
   refine WX.seq ?_
   refine WX.region rfl ?_
   refine WXL.move Met.none rfl ?_
   refine WXL.assign Met.none rfl ?_
   refine WXL.nil ?_
   refine Fin.then_normal ?_
   refine WX.ret ?_
   exact Fin.result (O' := rdO r2 rb2 rf2 M ws (rdO r rb rf M vs (N ++ R))) (.inr rfl) rfl rfl drop_ ⟨r2, rb2, rf2, ws, N, rfl, rfl, ⟨hwl, h.lenB, h.lenF, hw1, h.room, h.used, h.plan, h.firm⟩⟩
end Go.Proofs.Ytahaplbdhgfobaa.Eng
set_option linter.unusedVariables false
set_option linter.unusedSimpArgs false
set_option maxRecDepth 8000
namespace Go.Proofs.Ytahaplbdhgfobaa.Eng
def flipO (o : OwnF) (p k : Nat) : OwnF :=
 ⟨o.n, ⟨o.f.bs.set (o.f.d.toNat + p) (flipB (nth o.f.bs (o.f.d.toNat + p)) k), o.f.d⟩, o.a, o.c, match o.a with
  | some ⟨b, _, _⟩ => [(b, ⟨1, false, (o.f.bs.set (o.f.d.toNat + p) (flipB (nth o.f.bs (o.f.d.toNat + p)) k)).map B8⟩)]
  | none => []⟩
def flipOw (p k : Nat) : List OwnF → List OwnF
 | [] => []
 | o :: l => if p < looseN o.f then flipO o p k :: l else o :: flipOw (p - looseN o.f) k l
theorem flipOw_nf (k : Nat) : ∀ (p : Nat) (l : List OwnF), (flipOw p k l).map OwnF.nf = flipC p k (l.map OwnF.nf)
 | _, [] => rfl
 | p, o :: l => by
  unfold flipOw
  rw [List.map_cons]
  unfold flipC
  by_cases h : p < looseN o.f
  · rw [if_pos h, if_pos (show p < looseN (OwnF.nf o).2 from h)]; rfl
  · rw [if_neg h, if_neg (show ¬ p < looseN (OwnF.nf o).2 from h), List.map_cons, flipOw_nf k _ l]; rfl
theorem flipOw_at (k r : Nat) {o : OwnF} {l2 : List OwnF} (hr : r < looseN o.f) : ∀ (l1 : List OwnF), flipOw (looseSum (l1.map OwnF.nf) + r) k (l1 ++ o :: l2) = l1 ++ flipO o r k :: l2
 | [] => by
  show flipOw (0 + r) k (o :: l2) = _
  rw [Nat.zero_add]
  unfold flipOw
  rw [if_pos hr]
  rfl
 | x :: l1 => by
  have e : looseSum ((x :: l1).map OwnF.nf) = looseN x.f + looseSum (l1.map OwnF.nf) := rfl
  rw [List.cons_append, List.cons_append, e]
  conv => lhs; unfold flipOw
  rw [if_neg (by omega), show looseN x.f + looseSum (l1.map OwnF.nf) + r - looseN x.f = looseSum (l1.map OwnF.nf) + r by omega, flipOw_at k r hr l1]
structure CrV (M : Rd) (vs : List Value) (L : List (Int × Fi)) (ow : List OwnF) (ws : List Value) : Prop where
 nf : ow.map OwnF.nf = L
 len : ws.length = 64
 row : ∀ o ∈ ow, Grow 1 o.a o.f.bs.length o.c (o.f.bs.map B8) o.G ∧ Bytes o.f.bs ∧ (0 ≤ o.n ∧ o.n < 64) ∧ nth ws o.n.toNat = .slice o.a o.f.bs.length o.c
 other : ∀ n : Nat, n < 64 → ((n : Nat) : Int) ∉ ow.map (·.n) → nth ws n = nth vs n
theorem flip_row {M : Rd} {vs : List Value} {o : OwnF} {r k : Nat} {ws : List Value} (h : Grow 1 o.a o.f.bs.length o.c (o.f.bs.map B8) o.G ∧ Bytes o.f.bs ∧ (0 ≤ o.n ∧ o.n < 64) ∧ nth ws o.n.toNat = .slice o.a o.f.bs.length o.c) :
  Grow 1 (flipO o r k).a (flipO o r k).f.bs.length (flipO o r k).c ((flipO o r k).f.bs.map B8) (flipO o r k).G ∧ Bytes (flipO o r k).f.bs ∧ (0 ≤ (flipO o r k).n ∧ (flipO o r k).n < 64) ∧ nth ws (flipO o r k).n.toNat = .slice (flipO o r k).a (flipO o r k).f.bs.length (flipO o r k).c := by
 obtain ⟨h1, h2, h3, h4⟩ := h
 have hl : (flipO o r k).f.bs.length = o.f.bs.length := List.length_set
 refine ⟨?_, ?_, h3, by rw [hl]; exact h4⟩
 · rw [hl]
   rcases h1 with ⟨a1, a2, a3, a4, a5⟩ | ⟨b, a1, a2, a3⟩
   · have hz : o.f.bs = [] := List.length_eq_zero_iff.1 a2
     refine .inl ⟨a1, a2, a3, ?_, ?_⟩
     · unfold flipO; simp [hz]
     · unfold flipO; simp only [a1]
   · refine .inr ⟨b, a1, ?_, ?_⟩
     · unfold flipO; simp only [a1]
     · unfold flipO
       simp only [List.length_map, List.length_set] at a3 ⊢
       omega
 · intro y hy
   rcases List.mem_or_eq_of_mem_set hy with p | p
   · exact h2 y p
   · rw [p]; exact flipB_range _ _
theorem flipOw_row (k : Nat) {ws : List Value} : ∀ (p : Nat) (l : List OwnF), (∀ o ∈ l, Grow 1 o.a o.f.bs.length o.c (o.f.bs.map B8) o.G ∧ Bytes o.f.bs ∧ (0 ≤ o.n ∧ o.n < 64) ∧ nth ws o.n.toNat = .slice o.a o.f.bs.length o.c) → ∀ o ∈ flipOw p k l, Grow 1 o.a o.f.bs.length o.c (o.f.bs.map B8) o.G ∧ Bytes o.f.bs ∧ (0 ≤ o.n ∧ o.n < 64) ∧ nth ws o.n.toNat = .slice o.a o.f.bs.length o.c
 | _, [], h => fun o ho => by simp [flipOw] at ho
 | p, x :: l, h => by
  unfold flipOw
  intro o ho
  split at ho
  · rcases List.mem_cons.1 ho with rfl | ho
    · exact flip_row (M := ⟨0, [], [], false, 0⟩) (vs := []) (h x (List.mem_cons_self ..))
    · exact h o (List.mem_cons_of_mem _ ho)
  · rcases List.mem_cons.1 ho with rfl | ho
    · exact h o (List.mem_cons_self ..)
    · exact flipOw_row k (p - looseN x.f) l (fun o' h' => h o' (List.mem_cons_of_mem _ h')) o ho
theorem flipOw_keys (k : Nat) : ∀ (p : Nat) (l : List OwnF), (flipOw p k l).map (·.n) = l.map (·.n)
 | _, [] => rfl
 | p, x :: l => by
  unfold flipOw
  split
  · rfl
  · rw [List.map_cons, List.map_cons, flipOw_keys k _ l]
theorem CrV.flip {M : Rd} {vs ws : List Value} {L : List (Int × Fi)} {ow : List OwnF} (h : CrV M vs L ow ws) (p k : Nat) : CrV M vs (flipC p k L) (flipOw p k ow) ws :=
 ⟨by rw [flipOw_nf, h.nf], h.len, flipOw_row k p ow h.row, fun n hn hk => h.other n hn (by rw [flipOw_keys] at hk; exact hk)⟩
def crashB (M : Rd) (L : List (Int × Fi)) : List (List Int) := (List.range 64).map fun n => ((mget ((n : Nat) : Int) L).getD ⟨[], 0⟩).bs
theorem CrV.file {M : Rd} {vs ws : List Value} {L : List (Int × Fi)} {ow : List OwnF} {R0 : Objs} (h : CrV M vs L ow ws) (hR : RdI R0 M vs) (hnd : (L.map (·.1)).Nodup) (hk : ∀ n : Nat, n < 64 → ((n : Nat) : Int) ∉ L.map (·.1) → nth M.B n = []) {n : Nat} (hn : n < 64) : RowV (rowsO ow ++ R0) (nth ws n) (nth (crashB M L) n) := by
 have hkeys : ow.map (·.n) = L.map (·.1) := by rw [← h.nf, List.map_map]; rfl
 unfold crashB
 rw [nth_map_range _ hn]
 by_cases hin : ((n : Nat) : Int) ∈ ow.map (·.n)
 · obtain ⟨o, ho, hon⟩ := List.mem_map.1 hin
   obtain ⟨h1, h2, h3, h4⟩ := h.row o ho
   have hm : mget ((n : Nat) : Int) L = some o.f := mget_some hnd (by rw [← h.nf, ← hon]; exact List.mem_map.2 ⟨o, ho, rfl⟩)
   rw [hm]
   rw [show o.n.toNat = n by omega] at h4
   rw [h4]
   have hr := h1.rowy (R := ([] : Objs))
   rw [List.append_nil] at hr
   exact ⟨o.a, o.c, rfl, hr.inc fun g hg => hg.sub fun Q => by
    have := rowsO_count Q ho
    simp only [List.countP_append]
    omega, fun q => (h1.nil0 q).1, h2⟩
 · have hz := hk n hn (by rw [← hkeys]; exact hin)
   rw [mget_none (by rw [← hkeys]; exact hin), h.other n hn hin]
   have := hR.file n hn
   rw [hz] at this
   exact this.app
end Go.Proofs.Ytahaplbdhgfobaa.Eng
set_option linter.unusedVariables false
set_option linter.unusedSimpArgs false
set_option maxRecDepth 8000
namespace Go.Proofs.Ytahaplbdhgfobaa.Eng
theorem filesR_len (M : Rd) : (filesR M).length ≤ 64 := filesI_len M 64
theorem filesR_nd (M : Rd) : (filesR M).Nodup := (List.nodup_range.filter _)
theorem cutsR_succ (M : Rd) (keep : List Int) (i : Nat) : cutsR M keep (i + 1) = cutsR M keep i ++ [cutAtR M keep i] := by
 unfold cutsR
 rw [List.range_succ, List.map_append]
 rfl
theorem cutsR_keys (M : Rd) (keep : List Int) {i : Nat} (hi : i ≤ (filesR M).length) : (cutsR M keep i).map (·.1) = ((filesR M).take i).map fun n => ((n : Nat) : Int) := by
 unfold cutsR
 rw [List.map_map]
 apply List.ext_getElem
 · rw [List.length_map, List.length_range, List.length_map, List.length_take]; omega
 · intro j h1 h2
   rw [List.length_map, List.length_range] at h1
   simp only [List.getElem_map, List.getElem_range, Function.comp, cutAtR, List.getElem_take]
   rw [nth_get (by omega)]
theorem cutR_len {M : Rd} {vs : List Value} {R : Objs} (h : RdI R M vs) (keep : List Int) {f : Nat} (hf : f < 64) (i : Nat) : ((cutF keep i (fiR M f)).bs.length : Int) = nth M.F f + keepN keep i (fiR M f) ∧ 0 ≤ keepN keep i (fiR M f) ∧ nth M.F f + keepN keep i (fiR M f) ≤ ((nth M.B f).length : Nat) := by
 have hd := h.firm f hf
 have h1 := cutF_len keep i (f := fiR M f) hd
 have h2 := keepN_range keep i (f := fiR M f) hd
 exact ⟨h1, h2.1, h2.2⟩
theorem looseR_le {M : Rd} {vs : List Value} {R : Objs} (h : RdI R M vs) (keep : List Int) : ∀ i, i ≤ (filesR M).length → looseSum (cutsR M keep i) ≤ i * 16777216
 | 0, _ => Nat.zero_le _
 | i + 1, hi => by
  have h1 := looseR_le h keep i (by omega)
  have hm := (filesR_mem.1 (nth_mem (show i < (filesR M).length by omega))).1
  have h2 := h.len hm
  have h3 := cutR_len h keep hm i
  rw [cutsR_succ, looseSum_app, Nat.succ_mul]
  have h4 : looseSum [cutAtR M keep i] ≤ 16777216 := by
   show looseN (cutF keep i (fiR M (nth (filesR M) i))) + 0 ≤ 16777216
   unfold looseN
   omega
  omega
def owQ (at0 : Int) (ow : List OwnF) (q : Nat) : List OwnF := if 0 ≤ at0 ∧ at0.toNat / 8 < q then flipOw (at0.toNat / 8) (7 - at0.toNat % 8) ow else ow
theorem flipC_keys (k : Nat) : ∀ (p : Nat) (l : List (Int × Fi)), (flipC p k l).map (·.1) = l.map (·.1)
 | _, [] => rfl
 | p, x :: l => by
  unfold flipC
  split
  · rfl
  · rw [List.map_cons, List.map_cons, flipC_keys k _ l]
theorem crashCR_keys (M : Rd) (keep : List Int) (flip : Int) : (crashCR M keep flip).map (·.1) = (filesR M).map fun n => ((n : Nat) : Int) := by
 have h := cutsR_keys M keep (Nat.le_refl _)
 rw [List.take_length] at h
 unfold crashCR
 simp only
 split
 · rw [flipC_keys, h]
 · exact h
theorem crashCR_nd (M : Rd) (keep : List Int) (flip : Int) : ((crashCR M keep flip).map (·.1)).Nodup := by
 rw [crashCR_keys]
 exact List.pairwise_map.2 ((filesR_nd M).imp fun q e => q (by omega))
theorem crashCR_none {M : Rd} {keep : List Int} {flip : Int} {n : Nat} (hn : n < 64) (h : ((n : Nat) : Int) ∉ (crashCR M keep flip).map (·.1)) : nth M.B n = [] := by
 rw [crashCR_keys] at h
 by_cases hz : nth M.B n = []
 · exact hz
 · exact absurd (List.mem_map.2 ⟨n, filesR_mem.2 ⟨hn, hz⟩, rfl⟩) h
theorem crashCR_len {M : Rd} {vs : List Value} {R : Objs} (h : RdI R M vs) (keep : List Int) (flip : Int) (n : Nat) : (((mget ((n : Nat) : Int) (crashCR M keep flip)).getD ⟨[], 0⟩).bs.length : Int) ≤ lenR M n := by
 have hcut : ∀ f, mget ((n : Nat) : Int) (cutsR M keep (filesR M).length) = some f → (f.bs.length : Int) ≤ lenR M n := fun f hf => by
  obtain ⟨i, hi, he⟩ := List.mem_map.1 (mget_mem hf)
  have hi := List.mem_range.1 hi
  unfold cutAtR at he
  injection he with h1 h2
  have hm := (filesR_mem.1 (nth_mem hi)).1
  have h3 := cutR_len h keep hm i
  have hnn : nth (filesR M) i = n := by omega
  rw [hnn] at h3 h2
  rw [← h2]
  unfold lenR
  omega
 have key : ∀ f, mget ((n : Nat) : Int) (crashCR M keep flip) = some f → (f.bs.length : Int) ≤ lenR M n := fun f hf => by
  unfold crashCR at hf
  simp only at hf
  split at hf
  · rcases flipC_get (flip.toNat % (8 * looseSum (cutsR M keep (filesR M).length)) / 8) (7 - flip.toNat % (8 * looseSum (cutsR M keep (filesR M).length)) % 8) (cutsR M keep (filesR M).length) ((n : Nat) : Int) with ⟨h1, _⟩ | ⟨g, g', h1, h2, h3, h4, h5⟩
    · rw [hf] at h1; cases h1
    · rw [hf] at h2
      injection h2 with h2
      subst h2
      rw [h4]
      exact hcut g h1
  · exact hcut f hf
 cases hm : mget ((n : Nat) : Int) (crashCR M keep flip) with
 | none => exact lenR_nn M n
 | some f => exact key f hm
theorem sumR_mono {g h : Nat → Int} (hh : ∀ i, g i ≤ h i) : ∀ n, sumR g n ≤ sumR h n
 | 0 => Int.le_refl _
 | n + 1 => by
  have h1 := sumR_mono hh n
  have h2 := hh n
  show sumR g n + g n ≤ sumR h n + h n
  omega
theorem crashR_I {M : Rd} {vs ws : List Value} {R0 : Objs} {ow : List OwnF} (h : RdI R0 M vs) {keep : List Int} {flip : Int} (hV : CrV M vs (crashCR M keep flip) ow ws) : RdI (rowsO ow ++ R0) (crashR M keep flip) ws := by
 have hB : (crashR M keep flip).B = crashB M (crashCR M keep flip) := rfl
 have hlen : ∀ n, n < 64 → lenR (crashR M keep flip) n = (((mget ((n : Nat) : Int) (crashCR M keep flip)).getD ⟨[], 0⟩).bs.length : Nat) := fun n hn => by
  unfold lenR
  rw [hB]
  unfold crashB
  rw [nth_map_range _ hn]
 refine ⟨hV.len, by rw [hB]; unfold crashB; simp, by unfold crashR; simp, fun n hn => ?_, h.room, ?_, ⟨by show (-2 : Int) ≤ -1; decide, by show (-1 : Int) < _; decide⟩, fun n hn => ?_⟩
 · rw [hB]
   exact hV.file h (crashCR_nd M keep flip) (fun n hn hk => crashCR_none hn hk) hn
 · have h1 : usedR (crashR M keep flip) = sumR (fun n => (((mget ((n : Nat) : Int) (crashCR M keep flip)).getD ⟨[], 0⟩).bs.length : Nat)) 64 := sumR_congr hlen
   have h2 := sumR_mono (crashCR_len h keep flip) 64
   have h3 := h.used
   rw [h1]
   unfold usedR at h3
   exact Int.le_trans h2 h3
 · have h1 : nth (crashR M keep flip).F n = lenR (crashR M keep flip) n := by
     rw [hlen n hn]
     show nth ((List.range 64).map fun n => ((((mget ((n : Nat) : Int) (crashCR M keep flip)).getD ⟨[], 0⟩).bs.length : Nat) : Int)) n = _
     rw [nth_map_range _ hn]
   rw [h1]
   exact ⟨lenR_nn _ _, Int.le_refl _⟩
theorem owQ_same {at0 : Int} {ow : List OwnF} {q : Nat} (h : ¬ (0 ≤ at0 ∧ at0.toNat / 8 = q)) : owQ at0 ow (q + 1) = owQ at0 ow q := by
 unfold owQ
 by_cases h1 : 0 ≤ at0 ∧ at0.toNat / 8 < q
 · rw [if_pos h1, if_pos (by omega)]
 · rw [if_neg h1, if_neg (by omega)]
theorem owQ_here {at0 : Int} {ow : List OwnF} {q : Nat} (h : 0 ≤ at0) (hq : at0.toNat / 8 = q) : owQ at0 ow q = ow ∧ owQ at0 ow (q + 1) = flipOw q (7 - at0.toNat % 8) ow := by
 unfold owQ
 rw [if_neg (by omega), if_pos (by omega), hq]
 exact ⟨rfl, rfl⟩
set_option maxHeartbeats 2000000 in
theorem rcrash_ok (R : Objs) {R0 : Objs} (r rb rf : Nat) (M : Rd) (vs : List Value) (keep : List Int) (ak : Option Addr) (ck : Nat) (flip : Int) (h : RdI R0 M vs) (hi : ∀ Q : Nat × Ent → Bool, R0.countP Q ≤ R.countP Q) (hf64 : In64 flip) (hkl : Short keep) (hk : Src R 1 (.slice ak keep.length ck) keep.length (keep.map I)) :
  Spec Try.prog false 46 #[Ptr r 0, .slice ak keep.length ck, I flip] (rdO r rb rf M vs R) fun v O' => ∃ vs' N, O' = rdO r rb rf (crashR M keep flip) vs' (N ++ R) ∧ RdI (N ++ R0) (crashR M keep flip) vs' := by
 have hfl := filesR_len M
 refine Spec.enter (args := [_, _, _]) (m := 178) Try.func46 rfl rfl (by decide +kernel) fun h0 => ?_
 refine WX.seq ?_
 refine WX.region rfl ?_
 refine WXL.move Met.none rfl ?_
 refine WXL.cl (O1 := _) Met.none rfl (fnOk_of Try.func49 (by decide +kernel)) rfl (fun _ h => h) (rfiles_ok R r rb rf M vs h) (fun v O' hp => ?_)
 obtain ⟨a6, c6, Gf, rfl, hGf, rfl⟩ := hp
 refine WXL.assign Met.none rfl ?_
 refine WXL.nil ?_
 refine Fin.then_normal ?_
 refine WX.seq ?_
 refine WX.region rfl ?_
 refine WXL.assign Met.none rfl ?_
 refine WXL.nil ?_
 refine Fin.then_normal ?_
 refine WX.seq ?_
 refine WX.seq ?_
 refine WX.region rfl ?_
 refine WXL.assign Met.none rfl ?_
 refine WXL.nil ?_
 refine Fin.then_normal ?_
 refine WX.block ?_
 obtain ⟨B, hB⟩ : ∃ B, B = Gf ++ R := ⟨_, rfl⟩
 have hsF : Src B 1 (.slice a6 (filesR M).length c6) (filesR M).length (castV (filesR M)) := hB ▸ hGf.src
 have hsK : Src B 1 (.slice ak keep.length ck) keep.length (keep.map I) := hB ▸ Src.app hk
 have hiB : ∀ Q : Nat × Ent → Bool, R0.countP Q ≤ B.countP Q := fun Q => by
  have := hi Q
  rw [hB, List.countP_append]
  omega
 refine WX.re (O' := rdO r rb rf M vs ([] ++ B)) ?_ (by rw [hB]; exact sub_)
 refine WX.loop (fun q : Nat × List OwnF × List Value => [(0, Ptr r 0), (1, .slice ak keep.length ck), (2, I flip), (6, .slice a6 (filesR M).length c6), (7, I ((looseSum (cutsR M keep q.1) : Nat) : Int)), (8, I (q.1 : Int))]) (fun q => rdO r rb rf M q.2.2 (rowsO q.2.1 ++ B)) (fun q => q.1 ≤ (filesR M).length ∧ CrV M vs (cutsR M keep q.1) q.2.1 q.2.2) (fun q => (filesR M).length - q.1) (0, [], vs) ⟨Nat.zero_le _, rfl, h.lenV, (fun o ho => by simp at ho), fun n _ _ => rfl⟩ (fun s hs => hs.tl [] 0) (fun q hq => ?_)
 obtain ⟨i, ow, ws⟩ := q
 obtain ⟨hin, hV⟩ := hq
 simp only at hin hV
 dsimp only
 have hlo := looseR_le h keep i hin
 refine WX.seq ?_
 refine WX.seq ?_
 refine WX.region rfl ?_
 refine WXL.move Met.none rfl ?_
 refine WXL.move Met.none rfl ?_
 refine WXL.len Met.none rfl Try.underlying33 ?_
 refine WXL.bin Met.none rfl rfl rfl ?_
 refine WXL.nil ?_
 refine Fin.then_normal ?_
 refine WX.cond rfl (fun hc0 => ?_) (fun hc0 => ?_)
 · try simp only [cnd] at hc0
   refine WX.skip ?_
   refine Fin.then_normal ?_
   refine WX.seq ?_
   refine WX.block ?_
   refine WX.seq ?_
   have hik : i < (filesR M).length := by omega
   obtain ⟨f, hf⟩ : ∃ f, f = nth (filesR M) i := ⟨_, rfl⟩
   have hfm : f ∈ filesR M := hf ▸ nth_mem hik
   have hf64' := (filesR_mem.1 hfm).1
   have hnot : ((f : Nat) : Int) ∉ ow.map (·.n) := by
    have e1 : ow.map (·.n) = (cutsR M keep i).map (·.1) := by rw [← hV.nf, List.map_map]; rfl
    rw [e1, cutsR_keys M keep hin, List.mem_map]
    rintro ⟨g, hg, he⟩
    have : g = f := by omega
    subst this
    rw [List.mem_take_iff_getElem] at hg
    obtain ⟨j, hj, hje⟩ := hg
    rw [hf, nth_get hik] at hje
    have := (List.getElem_inj (filesR_nd M)).1 hje
    omega
   obtain ⟨fa, fc, hfv, hrow0, hnil, hfB⟩ := h.file f hf64'
   have hflen := h.len hf64'
   have hrow := hrow0.inc (R := rowsO ow ++ B) (fun g hg => hg.sub (by intro Q; have := hiB Q; simp only [List.countP_append]; omega))
   have hw : ws[f]? = some (.slice fa (nth M.B f).length fc) := by rw [← hfv, ← hV.other f hf64' hnot]; exact nth_eq (by rw [hV.len]; exact hf64')
   have hFf : f < M.F.length := by rw [h.lenF]; exact hf64'
   have hfd := h.firm f hf64'
   obtain ⟨cb, hcb⟩ : ∃ cb, cb = (cutF keep i (fiR M f)).bs := ⟨_, rfl⟩
   obtain ⟨hcl, hk0, hk1⟩ := cutR_len h keep hf64' i
   rw [← hcb] at hcl
   obtain ⟨kk, hkk⟩ : ∃ kk, kk = keepN keep i (fiR M f) := ⟨_, rfl⟩
   rw [← hkk] at hcl hk0 hk1
   have htk : (nth M.B f).take cb.length = cb := by
    rw [hcb]
    show (nth M.B f).take ((nth M.B f).take _).length = (nth M.B f).take _
    rw [List.length_take, ← List.take_take, List.take_length]
   have hkk2 : kk = if i < keep.length then max 0 (min (nth keep i) (((nth M.B f).length : Nat) - nth M.F f)) else 0 := hkk
   refine WX.region rfl ?_
   refine WXL.move Met.none rfl ?_
   refine WXL.move Met.none rfl ?_
   first | refine WXL.ix Met.none rfl rfl elem33 sz3 ?_ | refine WXL.ixS Met.none rfl rfl elem33 sz3 ?_
   first | refine WXL.ld Met.none rfl agg3 ?_ (hv := (show (castV (filesR M))[i]? = some (I ((f : Nat) : Int)) from by unfold castV; rw [hf]; exact cell_map _ _ _ hik)) | refine WXL.ldS Met.none rfl agg3 ?_ (hv := (show (castV (filesR M))[i]? = some (I ((f : Nat) : Int)) from by unfold castV; rw [hf]; exact cell_map _ _ _ hik))
   refine WXL.assign Met.none rfl ?_
   refine WXL.nil ?_
   refine Fin.then_normal ?_
   refine WX.seq ?_
   refine WX.region rfl ?_
   refine WXL.assign Met.none rfl ?_
   refine WXL.nil ?_
   refine Fin.then_normal ?_
   refine WX.seq ?_
   refine WX.seq ?_
   refine WX.region rfl ?_
   refine WXL.move Met.none rfl ?_
   refine WXL.move Met.none rfl ?_
   refine WXL.len Met.none rfl Try.underlying33 ?_
   refine WXL.bin Met.none rfl rfl rfl ?_
   refine WXL.nil ?_
   refine Fin.then_normal ?_
   refine WX.cond rfl (fun hc1 => ?_) (fun hc1 => ?_)
   · try simp only [cnd] at hc1
     rw [if_pos (by omega)] at hkk2
     refine WX.draw rfl ?_
     refine WXL.move Met.none rfl ?_
     refine WXL.move Met.none rfl ?_
     first | refine WXL.ix Met.none rfl rfl elem33 sz3 ?_ | refine WXL.ixS Met.none rfl rfl elem33 sz3 ?_
     first | refine WXL.ld Met.none rfl agg3 ?_ (hv := (cell_map I _ i (by omega))) | refine WXL.ldS Met.none rfl agg3 ?_ (hv := (cell_map I _ i (by omega)))
     refine WXL.move Met.none rfl ?_
     refine WXL.nilCheck Met.none rfl ?_
     first | refine WXL.fieldAddr Met.none rfl Try.underlying58 rfl sz22 rfl ?_ | refine WXL.faS Met.none rfl Try.underlying58 rfl sz22 ?_
     first | refine WXL.ld Met.none rfl agg22 ?_ | refine WXL.ldS Met.none rfl agg22 ?_
     refine WXL.move Met.none rfl ?_
     first | refine WXL.ix Met.none rfl rfl elem22 sz27 ?_ | refine WXL.ixS Met.none rfl rfl elem22 sz27 ?_
     first | refine WXL.ld Met.none rfl agg27 ?_ (hv := hw) | refine WXL.ldS Met.none rfl agg27 ?_ (hv := hw)
     refine WXL.len Met.none rfl Try.underlying27 ?_
     refine WXL.move Met.none rfl ?_
     refine WXL.nilCheck Met.none rfl ?_
     first | refine WXL.fieldAddr Met.none rfl Try.underlying58 rfl sz33 rfl ?_ | refine WXL.faS Met.none rfl Try.underlying58 rfl sz33 ?_
     first | refine WXL.ld Met.none rfl agg33 ?_ | refine WXL.ldS Met.none rfl agg33 ?_
     refine WXL.move Met.none rfl ?_
     first | refine WXL.ix Met.none rfl rfl elem33 sz3 ?_ | refine WXL.ixS Met.none rfl rfl elem33 sz3 ?_
     first | refine WXL.ld Met.none rfl agg3 ?_ (hv := (cell_map I _ f hFf)) | refine WXL.ldS Met.none rfl agg3 ?_ (hv := (cell_map I _ f hFf))
     refine WXL.bin Met.none rfl rfl bvS ?_
     refine WXL.min Met.none rfl rfl ?_
     refine WXL.max Met.none rfl rfl ?_
     refine WXL.assign Met.none rfl ?_
     refine WXL.nil ?_
     refine Fin.then_normal ?_
     refine WX.seq ?_
     refine WX.region rfl ?_
     refine WXL.assign Met.none rfl ?_
     refine WXL.nil ?_
     refine Fin.then_normal ?_
     refine WX.seq ?_
     refine WX.draw rfl ?_
     refine WXL.move Met.none rfl ?_
     refine WXL.nilCheck Met.none rfl ?_
     first | refine WXL.fieldAddr Met.none rfl Try.underlying58 rfl sz22 rfl ?_ | refine WXL.faS Met.none rfl Try.underlying58 rfl sz22 ?_
     first | refine WXL.ld Met.none rfl agg22 ?_ | refine WXL.ldS Met.none rfl agg22 ?_
     refine WXL.move Met.none rfl ?_
     refine WXL.move Met.none rfl ?_
     refine WXL.move Met.none rfl ?_
     refine WXL.nilCheck Met.none rfl ?_
     first | refine WXL.fieldAddr Met.none rfl Try.underlying58 rfl sz22 rfl ?_ | refine WXL.faS Met.none rfl Try.underlying58 rfl sz22 ?_
     first | refine WXL.ld Met.none rfl agg22 ?_ | refine WXL.ldS Met.none rfl agg22 ?_
     refine WXL.move Met.none rfl ?_
     first | refine WXL.ix Met.none rfl rfl elem22 sz27 ?_ | refine WXL.ixS Met.none rfl rfl elem22 sz27 ?_
     first | refine WXL.ld Met.none rfl agg27 ?_ (hv := hw) | refine WXL.ldS Met.none rfl agg27 ?_ (hv := hw)
     refine WXL.move Met.none rfl ?_
     refine WXL.nilCheck Met.none rfl ?_
     first | refine WXL.fieldAddr Met.none rfl Try.underlying58 rfl sz33 rfl ?_ | refine WXL.faS Met.none rfl Try.underlying58 rfl sz33 ?_
     first | refine WXL.ld Met.none rfl agg33 ?_ | refine WXL.ldS Met.none rfl agg33 ?_
     refine WXL.move Met.none rfl ?_
     first | refine WXL.ix Met.none rfl rfl elem33 sz3 ?_ | refine WXL.ixS Met.none rfl rfl elem33 sz3 ?_
     first | refine WXL.ld Met.none rfl agg3 ?_ (hv := (cell_map I _ f hFf)) | refine WXL.ldS Met.none rfl agg3 ?_ (hv := (cell_map I _ f hFf))
     refine WXL.move Met.none rfl ?_
     refine WXL.bin Met.none rfl rfl bvA ?_
     refine WXL.pre (m := cb.length) Met.none rfl rfl elem27 sz5 (Rowy.cons (Rowy.cons (Rowy.cons hrow))) hnil ?_
     have hpre := hrow.pre (m := cb.length) (by omega)
     rw [Nat.mul_one, ← List.map_take, htk] at hpre
     refine WXL.apG [_, _, _] Met.none rfl rfl isrow27 elem27 sz5 by5 zero5 (Src.cons (Src.cons (Src.cons (hpre.src hpre.nil0)))) (fun a78 c78 G78 hG78 => ?_) (hm := (by rw [List.length_map]; omega)) (hO := (show _ = [_, _, _] ++ ([] ++ (rowsO ow ++ B)) from rfl)) (hg := (Grow.nil (sz := 1)))
     first | refine WXL.ix Met.none rfl rfl elem22 sz27 ?_ | refine WXL.ixS Met.none rfl rfl elem22 sz27 ?_
     refine WXL.st (vs := [_]) (j := 1) Met.none rfl rfl rfl sz27 ?_ (hj := rfl) (hl := (by show f + 1 ≤ ws.length; rw [hV.len]; omega)) (hc := (splice_one (by rw [hV.len]; exact hf64')))
     refine WXL.nil ?_
     refine Fin.then_normal ?_
     refine WX.region rfl ?_
     refine WXL.move Met.none rfl ?_
     refine WXL.move Met.none rfl ?_
     refine WXL.bin Met.none rfl rfl bvA ?_
     refine WXL.assign Met.none rfl ?_
     refine WXL.nil ?_
     refine Fin.block_normal ?_
     refine Fin.then_normal ?_
     refine WX.re (O' := rdO r rb rf M (ws.set f (.slice a78 (0 + cb.length) c78)) ((rowsO ow ++ G78) ++ B)) ?_
     refine WX.region rfl ?_
     refine WXL.move Met.none rfl ?_
     refine WXL.bin Met.none rfl rfl bvA ?_
     refine WXL.assign Met.none rfl ?_
     refine WXL.nil ?_
     obtain ⟨o, ho⟩ : ∃ o : OwnF, o = ⟨((f : Nat) : Int), cutF keep i (fiR M f), a78, c78, G78⟩ := ⟨_, rfl⟩
     have hcut : cutAtR M keep i = OwnF.nf o := by unfold cutAtR OwnF.nf; rw [← hf, ho]
     have hro : rowsO (ow ++ [o]) = rowsO ow ++ G78 := by
      rw [rowsO_app]
      show rowsO ow ++ (o.G ++ []) = _
      rw [List.append_nil, ho]
     have hlsn : looseSum (cutsR M keep (i + 1)) = looseSum (cutsR M keep i) + (cb.length - (nth M.F f).toNat) := by
      rw [cutsR_succ, looseSum_app, hcut]
      show _ + (looseN o.f + 0) = _
      rw [ho]
      show _ + ((cutF keep i (fiR M f)).bs.length - (nth M.F f).toNat + 0) = _
      rw [← hcb]
      omega
     have hG : Grow 1 a78 cb.length c78 (cb.map B8) G78 := by
      have := hG78
      rw [List.nil_append, Nat.zero_add] at this
      exact this
     refine Fin.loop_next (i + 1, ow ++ [o], ws.set f (.slice a78 (0 + cb.length) c78)) ⟨by simp only; omega, by simp only; rw [List.map_append, hV.nf, cutsR_succ, hcut]; rfl, by simp only [List.length_set]; exact hV.len, fun o' h' => ?_, fun m hm hmn => ?_⟩ (by simp only; omega) ?_
     · simp only
       rcases List.mem_append.1 h' with q | q
       · obtain ⟨q1, q2, q3, q4⟩ := hV.row o' q
         refine ⟨q1, q2, q3, ?_⟩
         rw [nth_setE (by rw [hV.len]; exact hf64'), if_neg (fun e => hnot (List.mem_map.2 ⟨o', q, by omega⟩))]
         exact q4
       · rw [List.mem_singleton] at q
         subst q
         rw [ho]
         simp only
         rw [← hcb]
         refine ⟨hG, by rw [← htk]; exact take_bytes hfB, ⟨by omega, by omega⟩, ?_⟩
         rw [Int.toNat_natCast, nth_setE (by rw [hV.len]; exact hf64'), if_pos rfl, Nat.zero_add]
     · simp only at hmn ⊢
       rw [List.map_append, List.mem_append, not_or] at hmn
       rw [nth_setE (by rw [hV.len]; exact hf64'), if_neg (fun e => hmn.2 (by rw [ho, e]; simp))]
       exact hV.other m hm hmn.1
     · dsimp only
       rw [hro, hlsn]
       exact (fun s hs => hs.tl [] 0)
   · try simp only [cnd] at hc1
     rw [if_neg (by omega)] at hkk2
     refine WX.skip ?_
     refine Fin.then_normal ?_
     refine WX.seq ?_
     refine WX.region rfl ?_
     refine WXL.assign Met.none rfl ?_
     refine WXL.nil ?_
     refine Fin.then_normal ?_
     refine WX.seq ?_
     refine WX.draw rfl ?_
     refine WXL.move Met.none rfl ?_
     refine WXL.nilCheck Met.none rfl ?_
     first | refine WXL.fieldAddr Met.none rfl Try.underlying58 rfl sz22 rfl ?_ | refine WXL.faS Met.none rfl Try.underlying58 rfl sz22 ?_
     first | refine WXL.ld Met.none rfl agg22 ?_ | refine WXL.ldS Met.none rfl agg22 ?_
     refine WXL.move Met.none rfl ?_
     refine WXL.move Met.none rfl ?_
     refine WXL.move Met.none rfl ?_
     refine WXL.nilCheck Met.none rfl ?_
     first | refine WXL.fieldAddr Met.none rfl Try.underlying58 rfl sz22 rfl ?_ | refine WXL.faS Met.none rfl Try.underlying58 rfl sz22 ?_
     first | refine WXL.ld Met.none rfl agg22 ?_ | refine WXL.ldS Met.none rfl agg22 ?_
     refine WXL.move Met.none rfl ?_
     first | refine WXL.ix Met.none rfl rfl elem22 sz27 ?_ | refine WXL.ixS Met.none rfl rfl elem22 sz27 ?_
     first | refine WXL.ld Met.none rfl agg27 ?_ (hv := hw) | refine WXL.ldS Met.none rfl agg27 ?_ (hv := hw)
     refine WXL.move Met.none rfl ?_
     refine WXL.nilCheck Met.none rfl ?_
     first | refine WXL.fieldAddr Met.none rfl Try.underlying58 rfl sz33 rfl ?_ | refine WXL.faS Met.none rfl Try.underlying58 rfl sz33 ?_
     first | refine WXL.ld Met.none rfl agg33 ?_ | refine WXL.ldS Met.none rfl agg33 ?_
     refine WXL.move Met.none rfl ?_
     first | refine WXL.ix Met.none rfl rfl elem33 sz3 ?_ | refine WXL.ixS Met.none rfl rfl elem33 sz3 ?_
     first | refine WXL.ld Met.none rfl agg3 ?_ (hv := (cell_map I _ f hFf)) | refine WXL.ldS Met.none rfl agg3 ?_ (hv := (cell_map I _ f hFf))
     refine WXL.move Met.none rfl ?_
     refine WXL.bin Met.none rfl rfl bvA ?_
     refine WXL.pre (m := cb.length) Met.none rfl rfl elem27 sz5 (Rowy.cons (Rowy.cons (Rowy.cons hrow))) hnil ?_
     have hpre := hrow.pre (m := cb.length) (by omega)
     rw [Nat.mul_one, ← List.map_take, htk] at hpre
     refine WXL.apG [_, _, _] Met.none rfl rfl isrow27 elem27 sz5 by5 zero5 (Src.cons (Src.cons (Src.cons (hpre.src hpre.nil0)))) (fun a78 c78 G78 hG78 => ?_) (hm := (by rw [List.length_map]; omega)) (hO := (show _ = [_, _, _] ++ ([] ++ (rowsO ow ++ B)) from rfl)) (hg := (Grow.nil (sz := 1)))
     first | refine WXL.ix Met.none rfl rfl elem22 sz27 ?_ | refine WXL.ixS Met.none rfl rfl elem22 sz27 ?_
     refine WXL.st (vs := [_]) (j := 1) Met.none rfl rfl rfl sz27 ?_ (hj := rfl) (hl := (by show f + 1 ≤ ws.length; rw [hV.len]; omega)) (hc := (splice_one (by rw [hV.len]; exact hf64')))
     refine WXL.nil ?_
     refine Fin.then_normal ?_
     refine WX.region rfl ?_
     refine WXL.move Met.none rfl ?_
     refine WXL.move Met.none rfl ?_
     refine WXL.bin Met.none rfl rfl bvA ?_
     refine WXL.assign Met.none rfl ?_
     refine WXL.nil ?_
     refine Fin.block_normal ?_
     refine Fin.then_normal ?_
     refine WX.re (O' := rdO r rb rf M (ws.set f (.slice a78 (0 + cb.length) c78)) ((rowsO ow ++ G78) ++ B)) ?_
     refine WX.region rfl ?_
     refine WXL.move Met.none rfl ?_
     refine WXL.bin Met.none rfl rfl bvA ?_
     refine WXL.assign Met.none rfl ?_
     refine WXL.nil ?_
     obtain ⟨o, ho⟩ : ∃ o : OwnF, o = ⟨((f : Nat) : Int), cutF keep i (fiR M f), a78, c78, G78⟩ := ⟨_, rfl⟩
     have hcut : cutAtR M keep i = OwnF.nf o := by unfold cutAtR OwnF.nf; rw [← hf, ho]
     have hro : rowsO (ow ++ [o]) = rowsO ow ++ G78 := by
      rw [rowsO_app]
      show rowsO ow ++ (o.G ++ []) = _
      rw [List.append_nil, ho]
     have hlsn : looseSum (cutsR M keep (i + 1)) = looseSum (cutsR M keep i) + (cb.length - (nth M.F f).toNat) := by
      rw [cutsR_succ, looseSum_app, hcut]
      show _ + (looseN o.f + 0) = _
      rw [ho]
      show _ + ((cutF keep i (fiR M f)).bs.length - (nth M.F f).toNat + 0) = _
      rw [← hcb]
      omega
     have hG : Grow 1 a78 cb.length c78 (cb.map B8) G78 := by
      have := hG78
      rw [List.nil_append, Nat.zero_add] at this
      exact this
     refine Fin.loop_next (i + 1, ow ++ [o], ws.set f (.slice a78 (0 + cb.length) c78)) ⟨by simp only; omega, by simp only; rw [List.map_append, hV.nf, cutsR_succ, hcut]; rfl, by simp only [List.length_set]; exact hV.len, fun o' h' => ?_, fun m hm hmn => ?_⟩ (by simp only; omega) ?_
     · simp only
       rcases List.mem_append.1 h' with q | q
       · obtain ⟨q1, q2, q3, q4⟩ := hV.row o' q
         refine ⟨q1, q2, q3, ?_⟩
         rw [nth_setE (by rw [hV.len]; exact hf64'), if_neg (fun e => hnot (List.mem_map.2 ⟨o', q, by omega⟩))]
         exact q4
       · rw [List.mem_singleton] at q
         subst q
         rw [ho]
         simp only
         rw [← hcb]
         refine ⟨hG, by rw [← htk]; exact take_bytes hfB, ⟨by omega, by omega⟩, ?_⟩
         rw [Int.toNat_natCast, nth_setE (by rw [hV.len]; exact hf64'), if_pos rfl, Nat.zero_add]
     · simp only at hmn ⊢
       rw [List.map_append, List.mem_append, not_or] at hmn
       rw [nth_setE (by rw [hV.len]; exact hf64'), if_neg (fun e => hmn.2 (by rw [ho, e]; simp))]
       exact hV.other m hm hmn.1
     · dsimp only
       rw [hro, hlsn]
       exact (fun s hs => hs.tl [] 0)
 · try simp only [cnd] at hc0
   refine WX.exit ?_
   refine Fin.then_exit ?_
   refine Fin.loop_exit ?_
   refine Fin.block_hit rfl ?_
   refine Fin.then_normal ?_
   refine WX.seq ?_
   have hie : i = (filesR M).length := by omega
   obtain ⟨S, hS⟩ : ∃ S, S = looseSum (cutsR M keep (filesR M).length) := ⟨_, rfl⟩
   rw [hie, ← hS]
   rw [hie] at hV hlo
   rw [← hS] at hlo
   have hSb : S ≤ 1073741824 := by
    have : (filesR M).length * 16777216 ≤ 64 * 16777216 := Nat.mul_le_mul_right _ hfl
    omega
   refine WX.region rfl ?_
   refine WXL.assign Met.none rfl ?_
   refine WXL.nil ?_
   refine Fin.then_normal ?_
   refine WX.seq ?_
   refine WX.seq ?_
   refine WX.region rfl ?_
   refine WXL.move Met.none rfl ?_
   refine WXL.bin Met.none rfl rfl rfl ?_
   refine WXL.move Met.none rfl ?_
   refine WXL.split (d := 85) rfl (fun hg85 => ?_) (fun hg85 => ?_)
   · try simp only [cnd] at hg85
     refine WXL.move (Met.some rfl rfl rfl) rfl ?_
     refine WXL.bin (Met.some rfl rfl rfl) rfl rfl rfl ?_
     refine WXL.pick_t Met.none rfl rfl ?_
     refine WXL.nil ?_
     refine Fin.then_normal ?_
     refine WX.cond rfl (fun hc2 => ?_) (fun hc2 => ?_)
     · try simp only [cnd] at hc2
       obtain ⟨A, hA⟩ : ∃ A, A = flip.toNat % (8 * S) := ⟨_, rfl⟩
       have hAm : flip.tmod (8 * (S : Int)) = ((A : Nat) : Int) := by
        rw [Int.tmod_eq_emod_of_nonneg (by omega), hA, Int.natCast_emod, Int.natCast_mul, Int.toNat_of_nonneg (by omega)]
        rfl
       have hAlt : A < 8 * S := by rw [hA]; exact Nat.mod_lt _ (by omega)
       refine WX.region rfl ?_
       refine WXL.move Met.none rfl ?_
       refine WXL.move Met.none rfl ?_
       refine WXL.bin Met.none rfl rfl bvM ?_
       refine WXL.rem Met.none rfl rfl (by omega) ?_
       rw [hAm]
       obtain ⟨at0, hat, hat2, hcr⟩ : ∃ at0 : Int, at0 = ((A : Nat) : Int) ∧ (at0 = -1 ∨ (0 ≤ at0 ∧ at0 < 8 * (S : Int))) ∧ crashCR M keep flip = (if 0 ≤ at0 then flipC (at0.toNat / 8) (7 - at0.toNat % 8) (cutsR M keep (filesR M).length) else cutsR M keep (filesR M).length) := ⟨(A : Nat), rfl, .inr ⟨by omega, by omega⟩, by
        unfold crashCR
        simp only
        rw [← hS, if_pos (show 0 ≤ flip ∧ 0 < 8 * S by omega), if_pos (show (0 : Int) ≤ ((A : Nat) : Int) by omega), Int.toNat_natCast, hA]⟩
       refine WXL.assign Met.none rfl ?_
       refine WXL.nil ?_
       refine Fin.then_normal ?_
       refine WX.seq ?_
       refine WX.seq ?_
       have hkeys : ow.map (·.n) = (filesR M).map fun n => ((n : Nat) : Int) := by
        have e1 : ow.map (·.n) = (cutsR M keep (filesR M).length).map (·.1) := by rw [← hV.nf, List.map_map]; rfl
        rw [e1, cutsR_keys M keep (Nat.le_refl _), List.take_length]
       have howl : ow.length = (filesR M).length := by
        have := congrArg List.length hkeys
        simpa using this
       refine WX.region rfl ?_
       refine WXL.assign Met.none rfl ?_
       refine WXL.nil ?_
       refine Fin.then_normal ?_
       refine WX.block ?_
       refine WX.re (O' := rdO r rb rf M ws (rowsO (owQ at0 ow (looseSum (cutsR M keep 0))) ++ B)) ?_ (by rw [show owQ at0 ow (looseSum (cutsR M keep 0)) = ow from by unfold owQ; rw [if_neg (by show ¬ (0 ≤ at0 ∧ at0.toNat / 8 < 0); omega)]]; exact fun _ hs => hs)
       refine WX.loop (fun j : Nat => [(0, Ptr r 0), (6, .slice a6 (filesR M).length c6), (12, I (at0 - 8 * ((looseSum (cutsR M keep j) : Nat) : Int))), (13, I (j : Int))]) (fun j => rdO r rb rf M ws (rowsO (owQ at0 ow (looseSum (cutsR M keep j))) ++ B)) (fun j => j ≤ (filesR M).length) (fun j => (filesR M).length - j) 0 (Nat.zero_le _) (fun s hs => by rw [show ((looseSum (cutsR M keep 0) : Nat) : Int) = 0 from rfl]; exact hs.tl [] 0) (fun j hj => ?_)
       have hlj := looseR_le h keep j hj
       refine WX.seq ?_
       refine WX.seq ?_
       refine WX.region rfl ?_
       refine WXL.move Met.none rfl ?_
       refine WXL.move Met.none rfl ?_
       refine WXL.len Met.none rfl Try.underlying33 ?_
       refine WXL.bin Met.none rfl rfl rfl ?_
       refine WXL.nil ?_
       refine Fin.then_normal ?_
       refine WX.cond rfl (fun hc3 => ?_) (fun hc3 => ?_)
       · try simp only [cnd] at hc3
         refine WX.skip ?_
         refine Fin.then_normal ?_
         refine WX.seq ?_
         refine WX.block ?_
         refine WX.seq ?_
         have hjk : j < (filesR M).length := by omega
         obtain ⟨f, hf⟩ : ∃ f, f = nth (filesR M) j := ⟨_, rfl⟩
         have hfm : f ∈ filesR M := hf ▸ nth_mem hjk
         have hf64' := (filesR_mem.1 hfm).1
         have hFf : f < M.F.length := by rw [h.lenF]; exact hf64'
         have hfd := h.firm f hf64'
         obtain ⟨dn, hdn⟩ : ∃ dn : Nat, nth M.F f = ((dn : Nat) : Int) := ⟨(nth M.F f).toNat, by omega⟩
         obtain ⟨o, ho⟩ : ∃ o : OwnF, o = ow[j]'(by omega) := ⟨_, rfl⟩
         have hom : o ∈ ow := ho ▸ List.getElem_mem _
         have honf : OwnF.nf o = cutAtR M keep j := by
          have h1 : (ow.map OwnF.nf)[j]'(by rw [List.length_map]; omega) = OwnF.nf o := by rw [List.getElem_map, ho]
          rw [← h1]
          simp only [hV.nf, cutsR, List.getElem_map, List.getElem_range]
         have hon : o.n = ((f : Nat) : Int) := by
          have := congrArg Prod.fst honf
          rw [hf]
          exact this
         have hof : o.f = cutF keep j (fiR M f) := by
          have := congrArg Prod.snd honf
          rw [hf]
          exact this
         have hod : o.f.d = ((dn : Nat) : Int) := by rw [hof, ← hdn]; rfl
         obtain ⟨hoG, hoB, _, hov⟩ := hV.row o hom
         rw [hon, Int.toNat_natCast] at hov
         have hwf : ws[f]? = some (.slice o.a o.f.bs.length o.c) := by rw [← hov]; exact nth_eq (by rw [hV.len]; exact hf64')
         have hocl := cutR_len h keep hf64' j
         rw [← hof] at hocl
         have hflen := h.len hf64'
         have hln : looseN o.f = o.f.bs.length - dn := by unfold looseN; rw [hod, Int.toNat_natCast]
         have hsj : looseSum (cutsR M keep (j + 1)) = looseSum (cutsR M keep j) + looseN o.f := by
          rw [cutsR_succ, looseSum_app, ← honf]
          rfl
         have hsplit : ow = ow.take j ++ o :: ow.drop (j + 1) := by rw [ho, List.getElem_cons_drop, List.take_append_drop]
         have hst : looseSum ((ow.take j).map OwnF.nf) = looseSum (cutsR M keep j) := by
          rw [List.map_take, hV.nf]
          unfold cutsR
          rw [← List.map_take, List.take_range, Nat.min_eq_left (by omega)]
         refine WX.region rfl ?_
         refine WXL.move Met.none rfl ?_
         refine WXL.move Met.none rfl ?_
         first | refine WXL.ix Met.none rfl rfl elem33 sz3 ?_ | refine WXL.ixS Met.none rfl rfl elem33 sz3 ?_
         first | refine WXL.ld Met.none rfl agg3 ?_ (hv := (show (castV (filesR M))[j]? = some (I ((f : Nat) : Int)) from by unfold castV; rw [hf]; exact cell_map _ _ _ hjk)) | refine WXL.ldS Met.none rfl agg3 ?_ (hv := (show (castV (filesR M))[j]? = some (I ((f : Nat) : Int)) from by unfold castV; rw [hf]; exact cell_map _ _ _ hjk))
         refine WXL.assign Met.none rfl ?_
         refine WXL.nil ?_
         refine Fin.then_normal ?_
         refine WX.seq ?_
         refine WX.region rfl ?_
         refine WXL.move Met.none rfl ?_
         refine WXL.nilCheck Met.none rfl ?_
         first | refine WXL.fieldAddr Met.none rfl Try.underlying58 rfl sz33 rfl ?_ | refine WXL.faS Met.none rfl Try.underlying58 rfl sz33 ?_
         first | refine WXL.ld Met.none rfl agg33 ?_ | refine WXL.ldS Met.none rfl agg33 ?_
         refine WXL.move Met.none rfl ?_
         first | refine WXL.ix Met.none rfl rfl elem33 sz3 ?_ | refine WXL.ixS Met.none rfl rfl elem33 sz3 ?_
         first | refine WXL.ld Met.none rfl agg3 ?_ (hv := (cell_map I _ f hFf)) | refine WXL.ldS Met.none rfl agg3 ?_ (hv := (cell_map I _ f hFf))
         refine WXL.assign Met.none rfl ?_
         refine WXL.nil ?_
         refine Fin.then_normal ?_
         refine WX.block ?_
         refine WX.loop (fun rr : Nat => [(0, Ptr r 0), (6, .slice a6 (filesR M).length c6), (12, I (at0 - 8 * (((looseSum (cutsR M keep j) + rr : Nat)) : Int))), (13, I (j : Int)), (14, I (f : Int)), (15, I ((dn + rr : Nat) : Int))]) (fun rr => rdO r rb rf M ws (rowsO (owQ at0 ow (looseSum (cutsR M keep j) + rr)) ++ B)) (fun rr => rr ≤ looseN o.f) (fun rr => looseN o.f - rr) 0 (Nat.zero_le _) (fun s hs => hs.tl [] 0) (fun rr hrr => ?_)
         refine WX.seq ?_
         refine WX.seq ?_
         refine WX.region rfl ?_
         refine WXL.move Met.none rfl ?_
         refine WXL.move Met.none rfl ?_
         refine WXL.nilCheck Met.none rfl ?_
         first | refine WXL.fieldAddr Met.none rfl Try.underlying58 rfl sz22 rfl ?_ | refine WXL.faS Met.none rfl Try.underlying58 rfl sz22 ?_
         first | refine WXL.ld Met.none rfl agg22 ?_ | refine WXL.ldS Met.none rfl agg22 ?_
         refine WXL.move Met.none rfl ?_
         first | refine WXL.ix Met.none rfl rfl elem22 sz27 ?_ | refine WXL.ixS Met.none rfl rfl elem22 sz27 ?_
         first | refine WXL.ld Met.none rfl agg27 ?_ (hv := hwf) | refine WXL.ldS Met.none rfl agg27 ?_ (hv := hwf)
         refine WXL.len Met.none rfl Try.underlying27 ?_
         refine WXL.bin Met.none rfl rfl rfl ?_
         refine WXL.nil ?_
         refine Fin.then_normal ?_
         refine WX.cond rfl (fun hc4 => ?_) (fun hc4 => ?_)
         · try simp only [cnd] at hc4
           refine WX.skip ?_
           refine Fin.then_normal ?_
           refine WX.seq ?_
           refine WX.block ?_
           refine WX.seq ?_
           refine WX.seq ?_
           refine WX.region rfl ?_
           refine WXL.move Met.none rfl ?_
           refine WXL.bin Met.none rfl rfl rfl ?_
           refine WXL.move Met.none rfl ?_
           refine WXL.split (d := 124) rfl (fun hg124 => ?_) (fun hg124 => ?_)
           · try simp only [cnd] at hg124
             refine WXL.move (Met.some rfl rfl rfl) rfl ?_
             refine WXL.bin (Met.some rfl rfl rfl) rfl rfl rfl ?_
             refine WXL.pick_t Met.none rfl rfl ?_
             refine WXL.nil ?_
             refine Fin.then_normal ?_
             refine WX.cond rfl (fun hc5 => ?_) (fun hc5 => ?_)
             · try simp only [cnd] at hc5
               have hrl : rr < looseN o.f := by omega
               have ha0 : 0 ≤ at0 := by omega
               have hp : at0.toNat / 8 = looseSum (cutsR M keep j) + rr := by omega
               obtain ⟨q1, q2⟩ := owQ_here (ow := ow) ha0 hp
               obtain ⟨b, hoa, hoGe⟩ : ∃ b, o.a = some ⟨b, 0, none⟩ ∧ o.G = [(b, ⟨1, false, o.f.bs.map B8⟩)] := by
                rcases hoG with ⟨_, h0, _⟩ | ⟨b, h1, h2, _⟩
                · omega
                · exact ⟨b, h1, h2⟩
               have hrs : rowsO (owQ at0 ow (looseSum (cutsR M keep j) + rr)) = rowsO (ow.take j) ++ ([(b, ⟨1, false, o.f.bs.map B8⟩)] ++ rowsO (ow.drop (j + 1))) := by
                rw [q1]
                conv => lhs; rw [hsplit]
                rw [rowsO_app, rowsO_cons, hoGe]
               have hzl : dn + rr < o.f.bs.length := by omega
               have hwf2 : ws[f]? = some (.slice (some ⟨b, 0, none⟩) o.f.bs.length o.c) := by rw [← hoa]; exact hwf
               have hk7 : (7 : Int) - (at0 - 8 * (((looseSum (cutsR M keep j) + rr : Nat)) : Int)) = ((7 - at0.toNat % 8 : Nat) : Int) := by omega
               have hrs2 : rowsO (owQ at0 ow (looseSum (cutsR M keep j) + (rr + 1))) = rowsO (ow.take j) ++ ([(b, ⟨1, false, (o.f.bs.set (dn + rr) (flipB (nth o.f.bs (dn + rr)) (7 - at0.toNat % 8))).map B8⟩)] ++ rowsO (ow.drop (j + 1))) := by
                rw [← Nat.add_assoc, q2]
                conv => lhs; rw [hsplit, ← hst]
                rw [flipOw_at _ rr hrl, rowsO_app, rowsO_cons]
                congr 1
                unfold flipO
                simp only [hoa, hod, Int.toNat_natCast]
               rw [hrs]
               refine WX.re (O' := (b, ⟨1, false, o.f.bs.map B8⟩) :: rdO r rb rf M ws ((rowsO (ow.take j) ++ rowsO (ow.drop (j + 1))) ++ B)) ?_
               refine WX.draw rfl ?_
               refine WXL.move Met.none rfl ?_
               refine WXL.nilCheck Met.none rfl ?_
               first | refine WXL.fieldAddr Met.none rfl Try.underlying58 rfl sz22 rfl ?_ | refine WXL.faS Met.none rfl Try.underlying58 rfl sz22 ?_
               first | refine WXL.ld Met.none rfl agg22 ?_ | refine WXL.ldS Met.none rfl agg22 ?_
               refine WXL.move Met.none rfl ?_
               first | refine WXL.ix Met.none rfl rfl elem22 sz27 ?_ | refine WXL.ixS Met.none rfl rfl elem22 sz27 ?_
               first | refine WXL.ld Met.none rfl agg27 ?_ (hv := hwf2) | refine WXL.ldS Met.none rfl agg27 ?_ (hv := hwf2)
               refine WXL.move Met.none rfl ?_
               refine WXL.move Met.none rfl ?_
               refine WXL.nilCheck Met.none rfl ?_
               first | refine WXL.fieldAddr Met.none rfl Try.underlying58 rfl sz22 rfl ?_ | refine WXL.faS Met.none rfl Try.underlying58 rfl sz22 ?_
               first | refine WXL.ld Met.none rfl agg22 ?_ | refine WXL.ldS Met.none rfl agg22 ?_
               refine WXL.move Met.none rfl ?_
               first | refine WXL.ix Met.none rfl rfl elem22 sz27 ?_ | refine WXL.ixS Met.none rfl rfl elem22 sz27 ?_
               first | refine WXL.ld Met.none rfl agg27 ?_ (hv := hwf2) | refine WXL.ldS Met.none rfl agg27 ?_ (hv := hwf2)
               refine WXL.move Met.none rfl ?_
               first | refine WXL.ix Met.none rfl rfl elem27 sz5 ?_ | refine WXL.ixS Met.none rfl rfl elem27 sz5 ?_
               first | refine WXL.ld Met.none rfl agg5 ?_ (hv := (cell_map _ _ _ hzl)) | refine WXL.ldS Met.none rfl agg5 ?_ (hv := (cell_map _ _ _ hzl))
               refine WXL.move Met.none rfl ?_
               refine WXL.bin Met.none rfl rfl bvS ?_
               rw [hk7]
               refine WXL.conv Met.none rfl Try.underlying3 Try.underlying77 (wrap_u64 (by omega) (by omega)) ?_
               refine WXL.shl Met.none rfl rfl (by omega) ?_
               refine WXL.bin Met.none rfl rfl (show _ = some (B8 (flipB (nth o.f.bs (dn + rr)) (7 - at0.toNat % 8))) from rfl) ?_
               first | refine WXL.ix Met.none rfl rfl elem27 sz5 ?_ | refine WXL.ixS Met.none rfl rfl elem27 sz5 ?_
               refine WXL.st (vs := [_]) (j := 0) Met.none rfl rfl rfl sz5 ?_ (hj := rfl)
               refine WXL.nil ?_
               refine Fin.then_normal ?_
               first
               | refine WX.re (O' := rdO r rb rf M ws (rowsO (owQ at0 ow (looseSum (cutsR M keep j) + (rr + 1))) ++ B)) ?_ (by rw [hrs2]; exact sub_)
               | refine WX.re (O' := rdO r rb rf M ws (rowsO (owQ at0 ow (looseSum (cutsR M keep j) + (rr + 1))) ++ B)) ?_ (by rw [← Nat.add_assoc, owQ_same (by omega)]; exact fun _ hs => hs)
               refine WX.region rfl ?_
               refine WXL.move Met.none rfl ?_
               refine WXL.bin Met.none rfl rfl bvS ?_
               refine WXL.assign Met.none rfl ?_
               refine WXL.nil ?_
               refine Fin.block_normal ?_
               refine Fin.then_normal ?_
               refine WX.region rfl ?_
               refine WXL.move Met.none rfl ?_
               refine WXL.bin Met.none rfl rfl bvA ?_
               refine WXL.assign Met.none rfl ?_
               refine WXL.nil ?_
               exact Fin.loop_next (rr + 1) (by omega) (by omega) (fun s hs => hs.tl [] 0)
             · try simp only [cnd] at hc5
               refine WX.skip ?_
               refine Fin.then_normal ?_
               first
               | refine WX.re (O' := rdO r rb rf M ws (rowsO (owQ at0 ow (looseSum (cutsR M keep j) + (rr + 1))) ++ B)) ?_ (by rw [hrs2]; exact sub_)
               | refine WX.re (O' := rdO r rb rf M ws (rowsO (owQ at0 ow (looseSum (cutsR M keep j) + (rr + 1))) ++ B)) ?_ (by rw [← Nat.add_assoc, owQ_same (by omega)]; exact fun _ hs => hs)
               refine WX.region rfl ?_
               refine WXL.move Met.none rfl ?_
               refine WXL.bin Met.none rfl rfl bvS ?_
               refine WXL.assign Met.none rfl ?_
               refine WXL.nil ?_
               refine Fin.block_normal ?_
               refine Fin.then_normal ?_
               refine WX.region rfl ?_
               refine WXL.move Met.none rfl ?_
               refine WXL.bin Met.none rfl rfl bvA ?_
               refine WXL.assign Met.none rfl ?_
               refine WXL.nil ?_
               exact Fin.loop_next (rr + 1) (by omega) (by omega) (fun s hs => hs.tl [] 0)
           · try simp only [cnd] at hg124
             refine WXL.miss (j := 2) (d := 124) rfl rfl rfl ?_
             refine WXL.miss (j := 2) (d := 124) rfl rfl rfl ?_
             refine WXL.pick_f Met.none rfl rfl ?_
             refine WXL.nil ?_
             refine Fin.then_normal ?_
             refine WX.cond rfl (fun hc5 => nomatch hc5) (fun hc5 => ?_)
             refine WX.skip ?_
             refine Fin.then_normal ?_
             first
             | refine WX.re (O' := rdO r rb rf M ws (rowsO (owQ at0 ow (looseSum (cutsR M keep j) + (rr + 1))) ++ B)) ?_ (by rw [hrs2]; exact sub_)
             | refine WX.re (O' := rdO r rb rf M ws (rowsO (owQ at0 ow (looseSum (cutsR M keep j) + (rr + 1))) ++ B)) ?_ (by rw [← Nat.add_assoc, owQ_same (by omega)]; exact fun _ hs => hs)
             refine WX.region rfl ?_
             refine WXL.move Met.none rfl ?_
             refine WXL.bin Met.none rfl rfl bvS ?_
             refine WXL.assign Met.none rfl ?_
             refine WXL.nil ?_
             refine Fin.block_normal ?_
             refine Fin.then_normal ?_
             refine WX.region rfl ?_
             refine WXL.move Met.none rfl ?_
             refine WXL.bin Met.none rfl rfl bvA ?_
             refine WXL.assign Met.none rfl ?_
             refine WXL.nil ?_
             exact Fin.loop_next (rr + 1) (by omega) (by omega) (fun s hs => hs.tl [] 0)
         · try simp only [cnd] at hc4
           refine WX.exit ?_
           refine Fin.then_exit ?_
           refine Fin.loop_exit ?_
           refine Fin.block_hit rfl ?_
           refine Fin.block_normal ?_
           refine Fin.then_normal ?_
           have hre : rr = looseN o.f := by omega
           subst hre
           rw [← hsj]
           refine WX.region rfl ?_
           refine WXL.move Met.none rfl ?_
           refine WXL.bin Met.none rfl rfl bvA ?_
           refine WXL.assign Met.none rfl ?_
           refine WXL.nil ?_
           exact Fin.loop_next (j + 1) (by omega) (by omega) (fun s hs => hs.tl [] 0)
       · try simp only [cnd] at hc3
         refine WX.exit ?_
         refine Fin.then_exit ?_
         refine Fin.loop_exit ?_
         refine Fin.block_hit rfl ?_
         refine Fin.then_normal ?_
         refine WX.seq ?_
         refine WX.seq ?_
         have hje : j = (filesR M).length := by omega
         rw [hje, ← hS]
         have hVF : CrV M vs (crashCR M keep flip) (owQ at0 ow S) ws := by
          rw [hcr]
          unfold owQ
          rcases hat2 with h1 | ⟨h1, h2⟩
          · rw [if_neg (by omega), if_neg (by omega)]; exact hV
          · rw [if_pos h1, if_pos (by omega)]; exact hV.flip _ _
         have hIF := crashR_I h hVF
         obtain ⟨M3, hM3⟩ : ∃ M3 : Rd, M3 = ⟨M.room, (crashR M keep flip).B, M.F, M.off, M.plan⟩ := ⟨_, rfl⟩
         have hF3 : M3.F.length = 64 := by rw [hM3]; exact h.lenF
         generalize owQ at0 ow S = owF at hVF hIF ⊢
         refine WX.region rfl ?_
         refine WXL.assign Met.none rfl ?_
         refine WXL.nil ?_
         refine Fin.then_normal ?_
         refine WX.block ?_
         refine WX.re (O' := rdO r rb rf ⟨M.room, M.B, firmI M3 0, M.off, M.plan⟩ ws (rowsO owF ++ B)) ?_ (by rw [show firmI M3 0 = M.F from by rw [hM3]; rfl]; exact fun _ hs => hs)
         refine WX.loop (fun i : Nat => [(0, Ptr r 0), (16, I (i : Int))]) (fun i => rdO r rb rf ⟨M.room, M.B, firmI M3 i, M.off, M.plan⟩ ws (rowsO owF ++ B)) (fun i => i ≤ 64) (fun i => 64 - i) 0 (by decide) (fun s hs => hs.tl [] 0) (fun i hi => ?_)
         refine WX.seq ?_
         refine WX.seq ?_
         refine WX.region rfl ?_
         refine WXL.move Met.none rfl ?_
         refine WXL.bin Met.none rfl rfl rfl ?_
         refine WXL.nil ?_
         refine Fin.then_normal ?_
         refine WX.cond rfl (fun hc6 => ?_) (fun hc6 => ?_)
         · try simp only [cnd] at hc6
           refine WX.skip ?_
           refine Fin.then_normal ?_
           refine WX.seq ?_
           refine WX.block ?_
           have hi64 : i < 64 := by omega
           obtain ⟨a, c, ev, _⟩ := hIF.file i hi64
           have hv : ws[i]? = some (.slice a (nth (crashR M keep flip).B i).length c) := by rw [← ev]; exact nth_eq (by rw [hVF.len]; exact hi64)
           have hfl3 := firmI_len hF3 (i := i) (by omega)
           have hl3 : lenR M3 i = ((nth (crashR M keep flip).B i).length : Nat) := by unfold lenR; rw [hM3]
           refine WX.draw rfl ?_
           refine WXL.move Met.none rfl ?_
           refine WXL.nilCheck Met.none rfl ?_
           first | refine WXL.fieldAddr Met.none rfl Try.underlying58 rfl sz33 rfl ?_ | refine WXL.faS Met.none rfl Try.underlying58 rfl sz33 ?_
           first | refine WXL.ld Met.none rfl agg33 ?_ | refine WXL.ldS Met.none rfl agg33 ?_
           refine WXL.move Met.none rfl ?_
           refine WXL.move Met.none rfl ?_
           refine WXL.nilCheck Met.none rfl ?_
           first | refine WXL.fieldAddr Met.none rfl Try.underlying58 rfl sz22 rfl ?_ | refine WXL.faS Met.none rfl Try.underlying58 rfl sz22 ?_
           first | refine WXL.ld Met.none rfl agg22 ?_ | refine WXL.ldS Met.none rfl agg22 ?_
           refine WXL.move Met.none rfl ?_
           first | refine WXL.ix Met.none rfl rfl elem22 sz27 ?_ | refine WXL.ixS Met.none rfl rfl elem22 sz27 ?_
           first | refine WXL.ld Met.none rfl agg27 ?_ (hv := hv) | refine WXL.ldS Met.none rfl agg27 ?_ (hv := hv)
           refine WXL.len Met.none rfl Try.underlying27 ?_
           first | refine WXL.ix Met.none rfl rfl elem33 sz3 ?_ | refine WXL.ixS Met.none rfl rfl elem33 sz3 ?_
           refine WXL.st (vs := [_]) (j := 2) Met.none rfl rfl rfl sz3 ?_ (hj := rfl) (hl := (by rw [List.length_map, hfl3]; show i + 1 ≤ 64; omega)) (hc := (show splice (List.map I (firmI M3 i)) i [I (((nth (crashR M keep flip).B i).length : Nat) : Int)] = List.map I ((firmI M3 i).set i (lenR M3 i)) from by rw [hl3]; exact splice_map I _ i _ (by rw [hfl3]; exact hi64)))
           refine WXL.nil ?_
           refine Fin.block_normal ?_
           refine Fin.then_normal ?_
           refine WX.region rfl ?_
           refine WXL.move Met.none rfl ?_
           refine WXL.bin Met.none rfl rfl bvA ?_
           refine WXL.assign Met.none rfl ?_
           refine WXL.nil ?_
           exact Fin.loop_next (i + 1) (by omega) (by omega) (fun s hs => by rw [← firmI_set hF3 hi64]; exact hs.tl [] 0)
         · try simp only [cnd] at hc6
           refine WX.exit ?_
           refine Fin.then_exit ?_
           refine Fin.loop_exit ?_
           refine Fin.block_hit rfl ?_
           refine Fin.then_normal ?_
           refine WX.seq ?_
           have hi6 : i = 64 := by omega
           rw [hi6, firmI_all hF3]
           refine WX.region rfl ?_
           refine WXL.move Met.none rfl ?_
           refine WXL.nilCheck Met.none rfl ?_
           first | refine WXL.fieldAddr Met.none rfl Try.underlying58 rfl sz4 rfl ?_ | refine WXL.faS Met.none rfl Try.underlying58 rfl sz4 ?_
           refine WXL.st (vs := [_]) (j := 0) Met.none rfl rfl rfl sz4 ?_ (hj := rfl)
           refine WXL.nil ?_
           refine Fin.then_normal ?_
           refine WX.region rfl ?_
           refine WXL.move Met.none rfl ?_
           refine WXL.nilCheck Met.none rfl ?_
           first | refine WXL.fieldAddr Met.none rfl Try.underlying58 rfl sz3 rfl ?_ | refine WXL.faS Met.none rfl Try.underlying58 rfl sz3 ?_
           refine WXL.st (vs := [_]) (j := 0) Met.none rfl rfl rfl sz3 ?_ (hj := rfl)
           refine WXL.nil ?_
           exact Fin.result (O' := rdO r rb rf ⟨M.room, (crashR M keep flip).B, (crashR M keep flip).F, false, -1⟩ ws (rowsO owF ++ R)) (.inl rfl) rfl rfl (by
            have e1 : (List.range 64).map (lenR M3) = (crashR M keep flip).F := by
             show (List.range 64).map (lenR M3) = (List.range 64).map fun n => ((((mget ((n : Nat) : Int) (crashCR M keep flip)).getD ⟨[], 0⟩).bs.length : Nat) : Int)
             refine List.map_congr_left fun n hn => ?_
             have hn := List.mem_range.1 hn
             unfold lenR
             rw [hM3]
             show (((nth ((List.range 64).map fun n => ((mget ((n : Nat) : Int) (crashCR M keep flip)).getD ⟨[], 0⟩).bs) n).length : Nat) : Int) = _
             rw [nth_map_range _ hn]
            rw [e1, hB]
            intro g hg
            have hg2 : Sat g (rdO r rb rf ⟨M.room, (crashR M keep flip).B, (crashR M keep flip).F, false, -1⟩ ws (rowsO owF ++ (Gf ++ R))) := hg
            exact hg2.sub (by intro Q; simp only [List.countP_append, List.countP_cons]; omega)) ⟨ws, rowsO owF, rfl, hIF⟩
     · try simp only [cnd] at hc2
       obtain ⟨at0, hat, hat2, hcr⟩ : ∃ at0 : Int, at0 = -1 ∧ (at0 = -1 ∨ (0 ≤ at0 ∧ at0 < 8 * (S : Int))) ∧ crashCR M keep flip = (if 0 ≤ at0 then flipC (at0.toNat / 8) (7 - at0.toNat % 8) (cutsR M keep (filesR M).length) else cutsR M keep (filesR M).length) := ⟨-1, rfl, .inl rfl, by
        unfold crashCR
        simp only
        rw [← hS, if_neg (show ¬ (0 ≤ flip ∧ 0 < 8 * S) by omega), if_neg (show ¬ (0 : Int) ≤ -1 by decide)]⟩
       refine WX.skip ?_
       refine Fin.then_normal ?_
       refine WX.seq ?_
       refine WX.seq ?_
       have hkeys : ow.map (·.n) = (filesR M).map fun n => ((n : Nat) : Int) := by
        have e1 : ow.map (·.n) = (cutsR M keep (filesR M).length).map (·.1) := by rw [← hV.nf, List.map_map]; rfl
        rw [e1, cutsR_keys M keep (Nat.le_refl _), List.take_length]
       have howl : ow.length = (filesR M).length := by
        have := congrArg List.length hkeys
        simpa using this
       refine WX.region rfl ?_
       refine WXL.assign Met.none rfl ?_
       refine WXL.nil ?_
       refine Fin.then_normal ?_
       refine WX.block ?_
       refine WX.re (O' := rdO r rb rf M ws (rowsO (owQ at0 ow (looseSum (cutsR M keep 0))) ++ B)) ?_ (by rw [show owQ at0 ow (looseSum (cutsR M keep 0)) = ow from by unfold owQ; rw [if_neg (by show ¬ (0 ≤ at0 ∧ at0.toNat / 8 < 0); omega)]]; exact fun _ hs => hs)
       refine WX.loop (fun j : Nat => [(0, Ptr r 0), (6, .slice a6 (filesR M).length c6), (12, I (at0 - 8 * ((looseSum (cutsR M keep j) : Nat) : Int))), (13, I (j : Int))]) (fun j => rdO r rb rf M ws (rowsO (owQ at0 ow (looseSum (cutsR M keep j))) ++ B)) (fun j => j ≤ (filesR M).length) (fun j => (filesR M).length - j) 0 (Nat.zero_le _) (fun s hs => by rw [show ((looseSum (cutsR M keep 0) : Nat) : Int) = 0 from rfl]; exact hs.tl [] 0) (fun j hj => ?_)
       have hlj := looseR_le h keep j hj
       refine WX.seq ?_
       refine WX.seq ?_
       refine WX.region rfl ?_
       refine WXL.move Met.none rfl ?_
       refine WXL.move Met.none rfl ?_
       refine WXL.len Met.none rfl Try.underlying33 ?_
       refine WXL.bin Met.none rfl rfl rfl ?_
       refine WXL.nil ?_
       refine Fin.then_normal ?_
       refine WX.cond rfl (fun hc3 => ?_) (fun hc3 => ?_)
       · try simp only [cnd] at hc3
         refine WX.skip ?_
         refine Fin.then_normal ?_
         refine WX.seq ?_
         refine WX.block ?_
         refine WX.seq ?_
         have hjk : j < (filesR M).length := by omega
         obtain ⟨f, hf⟩ : ∃ f, f = nth (filesR M) j := ⟨_, rfl⟩
         have hfm : f ∈ filesR M := hf ▸ nth_mem hjk
         have hf64' := (filesR_mem.1 hfm).1
         have hFf : f < M.F.length := by rw [h.lenF]; exact hf64'
         have hfd := h.firm f hf64'
         obtain ⟨dn, hdn⟩ : ∃ dn : Nat, nth M.F f = ((dn : Nat) : Int) := ⟨(nth M.F f).toNat, by omega⟩
         obtain ⟨o, ho⟩ : ∃ o : OwnF, o = ow[j]'(by omega) := ⟨_, rfl⟩
         have hom : o ∈ ow := ho ▸ List.getElem_mem _
         have honf : OwnF.nf o = cutAtR M keep j := by
          have h1 : (ow.map OwnF.nf)[j]'(by rw [List.length_map]; omega) = OwnF.nf o := by rw [List.getElem_map, ho]
          rw [← h1]
          simp only [hV.nf, cutsR, List.getElem_map, List.getElem_range]
         have hon : o.n = ((f : Nat) : Int) := by
          have := congrArg Prod.fst honf
          rw [hf]
          exact this
         have hof : o.f = cutF keep j (fiR M f) := by
          have := congrArg Prod.snd honf
          rw [hf]
          exact this
         have hod : o.f.d = ((dn : Nat) : Int) := by rw [hof, ← hdn]; rfl
         obtain ⟨hoG, hoB, _, hov⟩ := hV.row o hom
         rw [hon, Int.toNat_natCast] at hov
         have hwf : ws[f]? = some (.slice o.a o.f.bs.length o.c) := by rw [← hov]; exact nth_eq (by rw [hV.len]; exact hf64')
         have hocl := cutR_len h keep hf64' j
         rw [← hof] at hocl
         have hflen := h.len hf64'
         have hln : looseN o.f = o.f.bs.length - dn := by unfold looseN; rw [hod, Int.toNat_natCast]
         have hsj : looseSum (cutsR M keep (j + 1)) = looseSum (cutsR M keep j) + looseN o.f := by
          rw [cutsR_succ, looseSum_app, ← honf]
          rfl
         have hsplit : ow = ow.take j ++ o :: ow.drop (j + 1) := by rw [ho, List.getElem_cons_drop, List.take_append_drop]
         have hst : looseSum ((ow.take j).map OwnF.nf) = looseSum (cutsR M keep j) := by
          rw [List.map_take, hV.nf]
          unfold cutsR
          rw [← List.map_take, List.take_range, Nat.min_eq_left (by omega)]
         refine WX.region rfl ?_
         refine WXL.move Met.none rfl ?_
         refine WXL.move Met.none rfl ?_
         first | refine WXL.ix Met.none rfl rfl elem33 sz3 ?_ | refine WXL.ixS Met.none rfl rfl elem33 sz3 ?_
         first | refine WXL.ld Met.none rfl agg3 ?_ (hv := (show (castV (filesR M))[j]? = some (I ((f : Nat) : Int)) from by unfold castV; rw [hf]; exact cell_map _ _ _ hjk)) | refine WXL.ldS Met.none rfl agg3 ?_ (hv := (show (castV (filesR M))[j]? = some (I ((f : Nat) : Int)) from by unfold castV; rw [hf]; exact cell_map _ _ _ hjk))
         refine WXL.assign Met.none rfl ?_
         refine WXL.nil ?_
         refine Fin.then_normal ?_
         refine WX.seq ?_
         refine WX.region rfl ?_
         refine WXL.move Met.none rfl ?_
         refine WXL.nilCheck Met.none rfl ?_
         first | refine WXL.fieldAddr Met.none rfl Try.underlying58 rfl sz33 rfl ?_ | refine WXL.faS Met.none rfl Try.underlying58 rfl sz33 ?_
         first | refine WXL.ld Met.none rfl agg33 ?_ | refine WXL.ldS Met.none rfl agg33 ?_
         refine WXL.move Met.none rfl ?_
         first | refine WXL.ix Met.none rfl rfl elem33 sz3 ?_ | refine WXL.ixS Met.none rfl rfl elem33 sz3 ?_
         first | refine WXL.ld Met.none rfl agg3 ?_ (hv := (cell_map I _ f hFf)) | refine WXL.ldS Met.none rfl agg3 ?_ (hv := (cell_map I _ f hFf))
         refine WXL.assign Met.none rfl ?_
         refine WXL.nil ?_
         refine Fin.then_normal ?_
         refine WX.block ?_
         refine WX.loop (fun rr : Nat => [(0, Ptr r 0), (6, .slice a6 (filesR M).length c6), (12, I (at0 - 8 * (((looseSum (cutsR M keep j) + rr : Nat)) : Int))), (13, I (j : Int)), (14, I (f : Int)), (15, I ((dn + rr : Nat) : Int))]) (fun rr => rdO r rb rf M ws (rowsO (owQ at0 ow (looseSum (cutsR M keep j) + rr)) ++ B)) (fun rr => rr ≤ looseN o.f) (fun rr => looseN o.f - rr) 0 (Nat.zero_le _) (fun s hs => hs.tl [] 0) (fun rr hrr => ?_)
         refine WX.seq ?_
         refine WX.seq ?_
         refine WX.region rfl ?_
         refine WXL.move Met.none rfl ?_
         refine WXL.move Met.none rfl ?_
         refine WXL.nilCheck Met.none rfl ?_
         first | refine WXL.fieldAddr Met.none rfl Try.underlying58 rfl sz22 rfl ?_ | refine WXL.faS Met.none rfl Try.underlying58 rfl sz22 ?_
         first | refine WXL.ld Met.none rfl agg22 ?_ | refine WXL.ldS Met.none rfl agg22 ?_
         refine WXL.move Met.none rfl ?_
         first | refine WXL.ix Met.none rfl rfl elem22 sz27 ?_ | refine WXL.ixS Met.none rfl rfl elem22 sz27 ?_
         first | refine WXL.ld Met.none rfl agg27 ?_ (hv := hwf) | refine WXL.ldS Met.none rfl agg27 ?_ (hv := hwf)
         refine WXL.len Met.none rfl Try.underlying27 ?_
         refine WXL.bin Met.none rfl rfl rfl ?_
         refine WXL.nil ?_
         refine Fin.then_normal ?_
         refine WX.cond rfl (fun hc4 => ?_) (fun hc4 => ?_)
         · try simp only [cnd] at hc4
           refine WX.skip ?_
           refine Fin.then_normal ?_
           refine WX.seq ?_
           refine WX.block ?_
           refine WX.seq ?_
           refine WX.seq ?_
           refine WX.region rfl ?_
           refine WXL.move Met.none rfl ?_
           refine WXL.bin Met.none rfl rfl rfl ?_
           refine WXL.move Met.none rfl ?_
           refine WXL.split (d := 124) rfl (fun hg124 => ?_) (fun hg124 => ?_)
           · try simp only [cnd] at hg124
             refine WXL.move (Met.some rfl rfl rfl) rfl ?_
             refine WXL.bin (Met.some rfl rfl rfl) rfl rfl rfl ?_
             refine WXL.pick_t Met.none rfl rfl ?_
             refine WXL.nil ?_
             refine Fin.then_normal ?_
             refine WX.cond rfl (fun hc5 => ?_) (fun hc5 => ?_)
             · try simp only [cnd] at hc5
               have hrl : rr < looseN o.f := by omega
               have ha0 : 0 ≤ at0 := by omega
               have hp : at0.toNat / 8 = looseSum (cutsR M keep j) + rr := by omega
               obtain ⟨q1, q2⟩ := owQ_here (ow := ow) ha0 hp
               obtain ⟨b, hoa, hoGe⟩ : ∃ b, o.a = some ⟨b, 0, none⟩ ∧ o.G = [(b, ⟨1, false, o.f.bs.map B8⟩)] := by
                rcases hoG with ⟨_, h0, _⟩ | ⟨b, h1, h2, _⟩
                · omega
                · exact ⟨b, h1, h2⟩
               have hrs : rowsO (owQ at0 ow (looseSum (cutsR M keep j) + rr)) = rowsO (ow.take j) ++ ([(b, ⟨1, false, o.f.bs.map B8⟩)] ++ rowsO (ow.drop (j + 1))) := by
                rw [q1]
                conv => lhs; rw [hsplit]
                rw [rowsO_app, rowsO_cons, hoGe]
               have hzl : dn + rr < o.f.bs.length := by omega
               have hwf2 : ws[f]? = some (.slice (some ⟨b, 0, none⟩) o.f.bs.length o.c) := by rw [← hoa]; exact hwf
               have hk7 : (7 : Int) - (at0 - 8 * (((looseSum (cutsR M keep j) + rr : Nat)) : Int)) = ((7 - at0.toNat % 8 : Nat) : Int) := by omega
               have hrs2 : rowsO (owQ at0 ow (looseSum (cutsR M keep j) + (rr + 1))) = rowsO (ow.take j) ++ ([(b, ⟨1, false, (o.f.bs.set (dn + rr) (flipB (nth o.f.bs (dn + rr)) (7 - at0.toNat % 8))).map B8⟩)] ++ rowsO (ow.drop (j + 1))) := by
                rw [← Nat.add_assoc, q2]
                conv => lhs; rw [hsplit, ← hst]
                rw [flipOw_at _ rr hrl, rowsO_app, rowsO_cons]
                congr 1
                unfold flipO
                simp only [hoa, hod, Int.toNat_natCast]
               rw [hrs]
               refine WX.re (O' := (b, ⟨1, false, o.f.bs.map B8⟩) :: rdO r rb rf M ws ((rowsO (ow.take j) ++ rowsO (ow.drop (j + 1))) ++ B)) ?_
               refine WX.draw rfl ?_
               refine WXL.move Met.none rfl ?_
               refine WXL.nilCheck Met.none rfl ?_
               first | refine WXL.fieldAddr Met.none rfl Try.underlying58 rfl sz22 rfl ?_ | refine WXL.faS Met.none rfl Try.underlying58 rfl sz22 ?_
               first | refine WXL.ld Met.none rfl agg22 ?_ | refine WXL.ldS Met.none rfl agg22 ?_
               refine WXL.move Met.none rfl ?_
               first | refine WXL.ix Met.none rfl rfl elem22 sz27 ?_ | refine WXL.ixS Met.none rfl rfl elem22 sz27 ?_
               first | refine WXL.ld Met.none rfl agg27 ?_ (hv := hwf2) | refine WXL.ldS Met.none rfl agg27 ?_ (hv := hwf2)
               refine WXL.move Met.none rfl ?_
               refine WXL.move Met.none rfl ?_
               refine WXL.nilCheck Met.none rfl ?_
               first | refine WXL.fieldAddr Met.none rfl Try.underlying58 rfl sz22 rfl ?_ | refine WXL.faS Met.none rfl Try.underlying58 rfl sz22 ?_
               first | refine WXL.ld Met.none rfl agg22 ?_ | refine WXL.ldS Met.none rfl agg22 ?_
               refine WXL.move Met.none rfl ?_
               first | refine WXL.ix Met.none rfl rfl elem22 sz27 ?_ | refine WXL.ixS Met.none rfl rfl elem22 sz27 ?_
               first | refine WXL.ld Met.none rfl agg27 ?_ (hv := hwf2) | refine WXL.ldS Met.none rfl agg27 ?_ (hv := hwf2)
               refine WXL.move Met.none rfl ?_
               first | refine WXL.ix Met.none rfl rfl elem27 sz5 ?_ | refine WXL.ixS Met.none rfl rfl elem27 sz5 ?_
               first | refine WXL.ld Met.none rfl agg5 ?_ (hv := (cell_map _ _ _ hzl)) | refine WXL.ldS Met.none rfl agg5 ?_ (hv := (cell_map _ _ _ hzl))
               refine WXL.move Met.none rfl ?_
               refine WXL.bin Met.none rfl rfl bvS ?_
               rw [hk7]
               refine WXL.conv Met.none rfl Try.underlying3 Try.underlying77 (wrap_u64 (by omega) (by omega)) ?_
               refine WXL.shl Met.none rfl rfl (by omega) ?_
               refine WXL.bin Met.none rfl rfl (show _ = some (B8 (flipB (nth o.f.bs (dn + rr)) (7 - at0.toNat % 8))) from rfl) ?_
               first | refine WXL.ix Met.none rfl rfl elem27 sz5 ?_ | refine WXL.ixS Met.none rfl rfl elem27 sz5 ?_
               refine WXL.st (vs := [_]) (j := 0) Met.none rfl rfl rfl sz5 ?_ (hj := rfl)
               refine WXL.nil ?_
               refine Fin.then_normal ?_
               first
               | refine WX.re (O' := rdO r rb rf M ws (rowsO (owQ at0 ow (looseSum (cutsR M keep j) + (rr + 1))) ++ B)) ?_ (by rw [hrs2]; exact sub_)
               | refine WX.re (O' := rdO r rb rf M ws (rowsO (owQ at0 ow (looseSum (cutsR M keep j) + (rr + 1))) ++ B)) ?_ (by rw [← Nat.add_assoc, owQ_same (by omega)]; exact fun _ hs => hs)
               refine WX.region rfl ?_
               refine WXL.move Met.none rfl ?_
               refine WXL.bin Met.none rfl rfl bvS ?_
               refine WXL.assign Met.none rfl ?_
               refine WXL.nil ?_
               refine Fin.block_normal ?_
               refine Fin.then_normal ?_
               refine WX.region rfl ?_
               refine WXL.move Met.none rfl ?_
               refine WXL.bin Met.none rfl rfl bvA ?_
               refine WXL.assign Met.none rfl ?_
               refine WXL.nil ?_
               exact Fin.loop_next (rr + 1) (by omega) (by omega) (fun s hs => hs.tl [] 0)
             · try simp only [cnd] at hc5
               refine WX.skip ?_
               refine Fin.then_normal ?_
               first
               | refine WX.re (O' := rdO r rb rf M ws (rowsO (owQ at0 ow (looseSum (cutsR M keep j) + (rr + 1))) ++ B)) ?_ (by rw [hrs2]; exact sub_)
               | refine WX.re (O' := rdO r rb rf M ws (rowsO (owQ at0 ow (looseSum (cutsR M keep j) + (rr + 1))) ++ B)) ?_ (by rw [← Nat.add_assoc, owQ_same (by omega)]; exact fun _ hs => hs)
               refine WX.region rfl ?_
               refine WXL.move Met.none rfl ?_
               refine WXL.bin Met.none rfl rfl bvS ?_
               refine WXL.assign Met.none rfl ?_
               refine WXL.nil ?_
               refine Fin.block_normal ?_
               refine Fin.then_normal ?_
               refine WX.region rfl ?_
               refine WXL.move Met.none rfl ?_
               refine WXL.bin Met.none rfl rfl bvA ?_
               refine WXL.assign Met.none rfl ?_
               refine WXL.nil ?_
               exact Fin.loop_next (rr + 1) (by omega) (by omega) (fun s hs => hs.tl [] 0)
           · try simp only [cnd] at hg124
             refine WXL.miss (j := 2) (d := 124) rfl rfl rfl ?_
             refine WXL.miss (j := 2) (d := 124) rfl rfl rfl ?_
             refine WXL.pick_f Met.none rfl rfl ?_
             refine WXL.nil ?_
             refine Fin.then_normal ?_
             refine WX.cond rfl (fun hc5 => nomatch hc5) (fun hc5 => ?_)
             refine WX.skip ?_
             refine Fin.then_normal ?_
             first
             | refine WX.re (O' := rdO r rb rf M ws (rowsO (owQ at0 ow (looseSum (cutsR M keep j) + (rr + 1))) ++ B)) ?_ (by rw [hrs2]; exact sub_)
             | refine WX.re (O' := rdO r rb rf M ws (rowsO (owQ at0 ow (looseSum (cutsR M keep j) + (rr + 1))) ++ B)) ?_ (by rw [← Nat.add_assoc, owQ_same (by omega)]; exact fun _ hs => hs)
             refine WX.region rfl ?_
             refine WXL.move Met.none rfl ?_
             refine WXL.bin Met.none rfl rfl bvS ?_
             refine WXL.assign Met.none rfl ?_
             refine WXL.nil ?_
             refine Fin.block_normal ?_
             refine Fin.then_normal ?_
             refine WX.region rfl ?_
             refine WXL.move Met.none rfl ?_
             refine WXL.bin Met.none rfl rfl bvA ?_
             refine WXL.assign Met.none rfl ?_
             refine WXL.nil ?_
             exact Fin.loop_next (rr + 1) (by omega) (by omega) (fun s hs => hs.tl [] 0)
         · try simp only [cnd] at hc4
           refine WX.exit ?_
           refine Fin.then_exit ?_
           refine Fin.loop_exit ?_
           refine Fin.block_hit rfl ?_
           refine Fin.block_normal ?_
           refine Fin.then_normal ?_
           have hre : rr = looseN o.f := by omega
           subst hre
           rw [← hsj]
           refine WX.region rfl ?_
           refine WXL.move Met.none rfl ?_
           refine WXL.bin Met.none rfl rfl bvA ?_
           refine WXL.assign Met.none rfl ?_
           refine WXL.nil ?_
           exact Fin.loop_next (j + 1) (by omega) (by omega) (fun s hs => hs.tl [] 0)
       · try simp only [cnd] at hc3
         refine WX.exit ?_
         refine Fin.then_exit ?_
         refine Fin.loop_exit ?_
         refine Fin.block_hit rfl ?_
         refine Fin.then_normal ?_
         refine WX.seq ?_
         refine WX.seq ?_
         have hje : j = (filesR M).length := by omega
         rw [hje, ← hS]
         have hVF : CrV M vs (crashCR M keep flip) (owQ at0 ow S) ws := by
          rw [hcr]
          unfold owQ
          rcases hat2 with h1 | ⟨h1, h2⟩
          · rw [if_neg (by omega), if_neg (by omega)]; exact hV
          · rw [if_pos h1, if_pos (by omega)]; exact hV.flip _ _
         have hIF := crashR_I h hVF
         obtain ⟨M3, hM3⟩ : ∃ M3 : Rd, M3 = ⟨M.room, (crashR M keep flip).B, M.F, M.off, M.plan⟩ := ⟨_, rfl⟩
         have hF3 : M3.F.length = 64 := by rw [hM3]; exact h.lenF
         generalize owQ at0 ow S = owF at hVF hIF ⊢
         refine WX.region rfl ?_
         refine WXL.assign Met.none rfl ?_
         refine WXL.nil ?_
         refine Fin.then_normal ?_
         refine WX.block ?_
         refine WX.re (O' := rdO r rb rf ⟨M.room, M.B, firmI M3 0, M.off, M.plan⟩ ws (rowsO owF ++ B)) ?_ (by rw [show firmI M3 0 = M.F from by rw [hM3]; rfl]; exact fun _ hs => hs)
         refine WX.loop (fun i : Nat => [(0, Ptr r 0), (16, I (i : Int))]) (fun i => rdO r rb rf ⟨M.room, M.B, firmI M3 i, M.off, M.plan⟩ ws (rowsO owF ++ B)) (fun i => i ≤ 64) (fun i => 64 - i) 0 (by decide) (fun s hs => hs.tl [] 0) (fun i hi => ?_)
         refine WX.seq ?_
         refine WX.seq ?_
         refine WX.region rfl ?_
         refine WXL.move Met.none rfl ?_
         refine WXL.bin Met.none rfl rfl rfl ?_
         refine WXL.nil ?_
         refine Fin.then_normal ?_
         refine WX.cond rfl (fun hc6 => ?_) (fun hc6 => ?_)
         · try simp only [cnd] at hc6
           refine WX.skip ?_
           refine Fin.then_normal ?_
           refine WX.seq ?_
           refine WX.block ?_
           have hi64 : i < 64 := by omega
           obtain ⟨a, c, ev, _⟩ := hIF.file i hi64
           have hv : ws[i]? = some (.slice a (nth (crashR M keep flip).B i).length c) := by rw [← ev]; exact nth_eq (by rw [hVF.len]; exact hi64)
           have hfl3 := firmI_len hF3 (i := i) (by omega)
           have hl3 : lenR M3 i = ((nth (crashR M keep flip).B i).length : Nat) := by unfold lenR; rw [hM3]
           refine WX.draw rfl ?_
           refine WXL.move Met.none rfl ?_
           refine WXL.nilCheck Met.none rfl ?_
           first | refine WXL.fieldAddr Met.none rfl Try.underlying58 rfl sz33 rfl ?_ | refine WXL.faS Met.none rfl Try.underlying58 rfl sz33 ?_
           first | refine WXL.ld Met.none rfl agg33 ?_ | refine WXL.ldS Met.none rfl agg33 ?_
           refine WXL.move Met.none rfl ?_
           refine WXL.move Met.none rfl ?_
           refine WXL.nilCheck Met.none rfl ?_
           first | refine WXL.fieldAddr Met.none rfl Try.underlying58 rfl sz22 rfl ?_ | refine WXL.faS Met.none rfl Try.underlying58 rfl sz22 ?_
           first | refine WXL.ld Met.none rfl agg22 ?_ | refine WXL.ldS Met.none rfl agg22 ?_
           refine WXL.move Met.none rfl ?_
           first | refine WXL.ix Met.none rfl rfl elem22 sz27 ?_ | refine WXL.ixS Met.none rfl rfl elem22 sz27 ?_
           first | refine WXL.ld Met.none rfl agg27 ?_ (hv := hv) | refine WXL.ldS Met.none rfl agg27 ?_ (hv := hv)
           refine WXL.len Met.none rfl Try.underlying27 ?_
           first | refine WXL.ix Met.none rfl rfl elem33 sz3 ?_ | refine WXL.ixS Met.none rfl rfl elem33 sz3 ?_
           refine WXL.st (vs := [_]) (j := 2) Met.none rfl rfl rfl sz3 ?_ (hj := rfl) (hl := (by rw [List.length_map, hfl3]; show i + 1 ≤ 64; omega)) (hc := (show splice (List.map I (firmI M3 i)) i [I (((nth (crashR M keep flip).B i).length : Nat) : Int)] = List.map I ((firmI M3 i).set i (lenR M3 i)) from by rw [hl3]; exact splice_map I _ i _ (by rw [hfl3]; exact hi64)))
           refine WXL.nil ?_
           refine Fin.block_normal ?_
           refine Fin.then_normal ?_
           refine WX.region rfl ?_
           refine WXL.move Met.none rfl ?_
           refine WXL.bin Met.none rfl rfl bvA ?_
           refine WXL.assign Met.none rfl ?_
           refine WXL.nil ?_
           exact Fin.loop_next (i + 1) (by omega) (by omega) (fun s hs => by rw [← firmI_set hF3 hi64]; exact hs.tl [] 0)
         · try simp only [cnd] at hc6
           refine WX.exit ?_
           refine Fin.then_exit ?_
           refine Fin.loop_exit ?_
           refine Fin.block_hit rfl ?_
           refine Fin.then_normal ?_
           refine WX.seq ?_
           have hi6 : i = 64 := by omega
           rw [hi6, firmI_all hF3]
           refine WX.region rfl ?_
           refine WXL.move Met.none rfl ?_
           refine WXL.nilCheck Met.none rfl ?_
           first | refine WXL.fieldAddr Met.none rfl Try.underlying58 rfl sz4 rfl ?_ | refine WXL.faS Met.none rfl Try.underlying58 rfl sz4 ?_
           refine WXL.st (vs := [_]) (j := 0) Met.none rfl rfl rfl sz4 ?_ (hj := rfl)
           refine WXL.nil ?_
           refine Fin.then_normal ?_
           refine WX.region rfl ?_
           refine WXL.move Met.none rfl ?_
           refine WXL.nilCheck Met.none rfl ?_
           first | refine WXL.fieldAddr Met.none rfl Try.underlying58 rfl sz3 rfl ?_ | refine WXL.faS Met.none rfl Try.underlying58 rfl sz3 ?_
           refine WXL.st (vs := [_]) (j := 0) Met.none rfl rfl rfl sz3 ?_ (hj := rfl)
           refine WXL.nil ?_
           exact Fin.result (O' := rdO r rb rf ⟨M.room, (crashR M keep flip).B, (crashR M keep flip).F, false, -1⟩ ws (rowsO owF ++ R)) (.inl rfl) rfl rfl (by
            have e1 : (List.range 64).map (lenR M3) = (crashR M keep flip).F := by
             show (List.range 64).map (lenR M3) = (List.range 64).map fun n => ((((mget ((n : Nat) : Int) (crashCR M keep flip)).getD ⟨[], 0⟩).bs.length : Nat) : Int)
             refine List.map_congr_left fun n hn => ?_
             have hn := List.mem_range.1 hn
             unfold lenR
             rw [hM3]
             show (((nth ((List.range 64).map fun n => ((mget ((n : Nat) : Int) (crashCR M keep flip)).getD ⟨[], 0⟩).bs) n).length : Nat) : Int) = _
             rw [nth_map_range _ hn]
            rw [e1, hB]
            intro g hg
            have hg2 : Sat g (rdO r rb rf ⟨M.room, (crashR M keep flip).B, (crashR M keep flip).F, false, -1⟩ ws (rowsO owF ++ (Gf ++ R))) := hg
            exact hg2.sub (by intro Q; simp only [List.countP_append, List.countP_cons]; omega)) ⟨ws, rowsO owF, rfl, hIF⟩
   · try simp only [cnd] at hg85
     obtain ⟨at0, hat, hat2, hcr⟩ : ∃ at0 : Int, at0 = -1 ∧ (at0 = -1 ∨ (0 ≤ at0 ∧ at0 < 8 * (S : Int))) ∧ crashCR M keep flip = (if 0 ≤ at0 then flipC (at0.toNat / 8) (7 - at0.toNat % 8) (cutsR M keep (filesR M).length) else cutsR M keep (filesR M).length) := ⟨-1, rfl, .inl rfl, by
      unfold crashCR
      simp only
      rw [← hS, if_neg (show ¬ (0 ≤ flip ∧ 0 < 8 * S) by omega), if_neg (show ¬ (0 : Int) ≤ -1 by decide)]⟩
     refine WXL.miss (j := 2) (d := 85) rfl rfl rfl ?_
     refine WXL.miss (j := 2) (d := 85) rfl rfl rfl ?_
     refine WXL.pick_f Met.none rfl rfl ?_
     refine WXL.nil ?_
     refine Fin.then_normal ?_
     refine WX.cond rfl (fun hc2 => nomatch hc2) (fun hc2 => ?_)
     refine WX.skip ?_
     refine Fin.then_normal ?_
     refine WX.seq ?_
     refine WX.seq ?_
     have hkeys : ow.map (·.n) = (filesR M).map fun n => ((n : Nat) : Int) := by
      have e1 : ow.map (·.n) = (cutsR M keep (filesR M).length).map (·.1) := by rw [← hV.nf, List.map_map]; rfl
      rw [e1, cutsR_keys M keep (Nat.le_refl _), List.take_length]
     have howl : ow.length = (filesR M).length := by
      have := congrArg List.length hkeys
      simpa using this
     refine WX.region rfl ?_
     refine WXL.assign Met.none rfl ?_
     refine WXL.nil ?_
     refine Fin.then_normal ?_
     refine WX.block ?_
     refine WX.re (O' := rdO r rb rf M ws (rowsO (owQ at0 ow (looseSum (cutsR M keep 0))) ++ B)) ?_ (by rw [show owQ at0 ow (looseSum (cutsR M keep 0)) = ow from by unfold owQ; rw [if_neg (by show ¬ (0 ≤ at0 ∧ at0.toNat / 8 < 0); omega)]]; exact fun _ hs => hs)
     refine WX.loop (fun j : Nat => [(0, Ptr r 0), (6, .slice a6 (filesR M).length c6), (12, I (at0 - 8 * ((looseSum (cutsR M keep j) : Nat) : Int))), (13, I (j : Int))]) (fun j => rdO r rb rf M ws (rowsO (owQ at0 ow (looseSum (cutsR M keep j))) ++ B)) (fun j => j ≤ (filesR M).length) (fun j => (filesR M).length - j) 0 (Nat.zero_le _) (fun s hs => by rw [show ((looseSum (cutsR M keep 0) : Nat) : Int) = 0 from rfl]; exact hs.tl [] 0) (fun j hj => ?_)
     have hlj := looseR_le h keep j hj
     refine WX.seq ?_
     refine WX.seq ?_
     refine WX.region rfl ?_
     refine WXL.move Met.none rfl ?_
     refine WXL.move Met.none rfl ?_
     refine WXL.len Met.none rfl Try.underlying33 ?_
     refine WXL.bin Met.none rfl rfl rfl ?_
     refine WXL.nil ?_
     refine Fin.then_normal ?_
     refine WX.cond rfl (fun hc3 => ?_) (fun hc3 => ?_)
     · try simp only [cnd] at hc3
       refine WX.skip ?_
       refine Fin.then_normal ?_
       refine WX.seq ?_
       refine WX.block ?_
       refine WX.seq ?_
       have hjk : j < (filesR M).length := by omega
       obtain ⟨f, hf⟩ : ∃ f, f = nth (filesR M) j := ⟨_, rfl⟩
       have hfm : f ∈ filesR M := hf ▸ nth_mem hjk
       have hf64' := (filesR_mem.1 hfm).1
       have hFf : f < M.F.length := by rw [h.lenF]; exact hf64'
       have hfd := h.firm f hf64'
       obtain ⟨dn, hdn⟩ : ∃ dn : Nat, nth M.F f = ((dn : Nat) : Int) := ⟨(nth M.F f).toNat, by omega⟩
       obtain ⟨o, ho⟩ : ∃ o : OwnF, o = ow[j]'(by omega) := ⟨_, rfl⟩
       have hom : o ∈ ow := ho ▸ List.getElem_mem _
       have honf : OwnF.nf o = cutAtR M keep j := by
        have h1 : (ow.map OwnF.nf)[j]'(by rw [List.length_map]; omega) = OwnF.nf o := by rw [List.getElem_map, ho]
        rw [← h1]
        simp only [hV.nf, cutsR, List.getElem_map, List.getElem_range]
       have hon : o.n = ((f : Nat) : Int) := by
        have := congrArg Prod.fst honf
        rw [hf]
        exact this
       have hof : o.f = cutF keep j (fiR M f) := by
        have := congrArg Prod.snd honf
        rw [hf]
        exact this
       have hod : o.f.d = ((dn : Nat) : Int) := by rw [hof, ← hdn]; rfl
       obtain ⟨hoG, hoB, _, hov⟩ := hV.row o hom
       rw [hon, Int.toNat_natCast] at hov
       have hwf : ws[f]? = some (.slice o.a o.f.bs.length o.c) := by rw [← hov]; exact nth_eq (by rw [hV.len]; exact hf64')
       have hocl := cutR_len h keep hf64' j
       rw [← hof] at hocl
       have hflen := h.len hf64'
       have hln : looseN o.f = o.f.bs.length - dn := by unfold looseN; rw [hod, Int.toNat_natCast]
       have hsj : looseSum (cutsR M keep (j + 1)) = looseSum (cutsR M keep j) + looseN o.f := by
        rw [cutsR_succ, looseSum_app, ← honf]
        rfl
       have hsplit : ow = ow.take j ++ o :: ow.drop (j + 1) := by rw [ho, List.getElem_cons_drop, List.take_append_drop]
       have hst : looseSum ((ow.take j).map OwnF.nf) = looseSum (cutsR M keep j) := by
        rw [List.map_take, hV.nf]
        unfold cutsR
        rw [← List.map_take, List.take_range, Nat.min_eq_left (by omega)]
       refine WX.region rfl ?_
       refine WXL.move Met.none rfl ?_
       refine WXL.move Met.none rfl ?_
       first | refine WXL.ix Met.none rfl rfl elem33 sz3 ?_ | refine WXL.ixS Met.none rfl rfl elem33 sz3 ?_
       first | refine WXL.ld Met.none rfl agg3 ?_ (hv := (show (castV (filesR M))[j]? = some (I ((f : Nat) : Int)) from by unfold castV; rw [hf]; exact cell_map _ _ _ hjk)) | refine WXL.ldS Met.none rfl agg3 ?_ (hv := (show (castV (filesR M))[j]? = some (I ((f : Nat) : Int)) from by unfold castV; rw [hf]; exact cell_map _ _ _ hjk))
       refine WXL.assign Met.none rfl ?_
       refine WXL.nil ?_
       refine Fin.then_normal ?_
       refine WX.seq ?_
       refine WX.region rfl ?_
       refine WXL.move Met.none rfl ?_
       refine WXL.nilCheck Met.none rfl ?_
       first | refine WXL.fieldAddr Met.none rfl Try.underlying58 rfl sz33 rfl ?_ | refine WXL.faS Met.none rfl Try.underlying58 rfl sz33 ?_
       first | refine WXL.ld Met.none rfl agg33 ?_ | refine WXL.ldS Met.none rfl agg33 ?_
       refine WXL.move Met.none rfl ?_
       first | refine WXL.ix Met.none rfl rfl elem33 sz3 ?_ | refine WXL.ixS Met.none rfl rfl elem33 sz3 ?_
       first | refine WXL.ld Met.none rfl agg3 ?_ (hv := (cell_map I _ f hFf)) | refine WXL.ldS Met.none rfl agg3 ?_ (hv := (cell_map I _ f hFf))
       refine WXL.assign Met.none rfl ?_
       refine WXL.nil ?_
       refine Fin.then_normal ?_
       refine WX.block ?_
       refine WX.loop (fun rr : Nat => [(0, Ptr r 0), (6, .slice a6 (filesR M).length c6), (12, I (at0 - 8 * (((looseSum (cutsR M keep j) + rr : Nat)) : Int))), (13, I (j : Int)), (14, I (f : Int)), (15, I ((dn + rr : Nat) : Int))]) (fun rr => rdO r rb rf M ws (rowsO (owQ at0 ow (looseSum (cutsR M keep j) + rr)) ++ B)) (fun rr => rr ≤ looseN o.f) (fun rr => looseN o.f - rr) 0 (Nat.zero_le _) (fun s hs => hs.tl [] 0) (fun rr hrr => ?_)
       refine WX.seq ?_
       refine WX.seq ?_
       refine WX.region rfl ?_
       refine WXL.move Met.none rfl ?_
       refine WXL.move Met.none rfl ?_
       refine WXL.nilCheck Met.none rfl ?_
       first | refine WXL.fieldAddr Met.none rfl Try.underlying58 rfl sz22 rfl ?_ | refine WXL.faS Met.none rfl Try.underlying58 rfl sz22 ?_
       first | refine WXL.ld Met.none rfl agg22 ?_ | refine WXL.ldS Met.none rfl agg22 ?_
       refine WXL.move Met.none rfl ?_
       first | refine WXL.ix Met.none rfl rfl elem22 sz27 ?_ | refine WXL.ixS Met.none rfl rfl elem22 sz27 ?_
       first | refine WXL.ld Met.none rfl agg27 ?_ (hv := hwf) | refine WXL.ldS Met.none rfl agg27 ?_ (hv := hwf)
       refine WXL.len Met.none rfl Try.underlying27 ?_
       refine WXL.bin Met.none rfl rfl rfl ?_
       refine WXL.nil ?_
       refine Fin.then_normal ?_
       refine WX.cond rfl (fun hc4 => ?_) (fun hc4 => ?_)
       · try simp only [cnd] at hc4
         refine WX.skip ?_
         refine Fin.then_normal ?_
         refine WX.seq ?_
         refine WX.block ?_
         refine WX.seq ?_
         refine WX.seq ?_
         refine WX.region rfl ?_
         refine WXL.move Met.none rfl ?_
         refine WXL.bin Met.none rfl rfl rfl ?_
         refine WXL.move Met.none rfl ?_
         refine WXL.split (d := 124) rfl (fun hg124 => ?_) (fun hg124 => ?_)
         · try simp only [cnd] at hg124
           refine WXL.move (Met.some rfl rfl rfl) rfl ?_
           refine WXL.bin (Met.some rfl rfl rfl) rfl rfl rfl ?_
           refine WXL.pick_t Met.none rfl rfl ?_
           refine WXL.nil ?_
           refine Fin.then_normal ?_
           refine WX.cond rfl (fun hc5 => ?_) (fun hc5 => ?_)
           · try simp only [cnd] at hc5
             have hrl : rr < looseN o.f := by omega
             have ha0 : 0 ≤ at0 := by omega
             have hp : at0.toNat / 8 = looseSum (cutsR M keep j) + rr := by omega
             obtain ⟨q1, q2⟩ := owQ_here (ow := ow) ha0 hp
             obtain ⟨b, hoa, hoGe⟩ : ∃ b, o.a = some ⟨b, 0, none⟩ ∧ o.G = [(b, ⟨1, false, o.f.bs.map B8⟩)] := by
              rcases hoG with ⟨_, h0, _⟩ | ⟨b, h1, h2, _⟩
              · omega
              · exact ⟨b, h1, h2⟩
             have hrs : rowsO (owQ at0 ow (looseSum (cutsR M keep j) + rr)) = rowsO (ow.take j) ++ ([(b, ⟨1, false, o.f.bs.map B8⟩)] ++ rowsO (ow.drop (j + 1))) := by
              rw [q1]
              conv => lhs; rw [hsplit]
              rw [rowsO_app, rowsO_cons, hoGe]
             have hzl : dn + rr < o.f.bs.length := by omega
             have hwf2 : ws[f]? = some (.slice (some ⟨b, 0, none⟩) o.f.bs.length o.c) := by rw [← hoa]; exact hwf
             have hk7 : (7 : Int) - (at0 - 8 * (((looseSum (cutsR M keep j) + rr : Nat)) : Int)) = ((7 - at0.toNat % 8 : Nat) : Int) := by omega
             have hrs2 : rowsO (owQ at0 ow (looseSum (cutsR M keep j) + (rr + 1))) = rowsO (ow.take j) ++ ([(b, ⟨1, false, (o.f.bs.set (dn + rr) (flipB (nth o.f.bs (dn + rr)) (7 - at0.toNat % 8))).map B8⟩)] ++ rowsO (ow.drop (j + 1))) := by
              rw [← Nat.add_assoc, q2]
              conv => lhs; rw [hsplit, ← hst]
              rw [flipOw_at _ rr hrl, rowsO_app, rowsO_cons]
              congr 1
              unfold flipO
              simp only [hoa, hod, Int.toNat_natCast]
             rw [hrs]
             refine WX.re (O' := (b, ⟨1, false, o.f.bs.map B8⟩) :: rdO r rb rf M ws ((rowsO (ow.take j) ++ rowsO (ow.drop (j + 1))) ++ B)) ?_
             refine WX.draw rfl ?_
             refine WXL.move Met.none rfl ?_
             refine WXL.nilCheck Met.none rfl ?_
             first | refine WXL.fieldAddr Met.none rfl Try.underlying58 rfl sz22 rfl ?_ | refine WXL.faS Met.none rfl Try.underlying58 rfl sz22 ?_
             first | refine WXL.ld Met.none rfl agg22 ?_ | refine WXL.ldS Met.none rfl agg22 ?_
             refine WXL.move Met.none rfl ?_
             first | refine WXL.ix Met.none rfl rfl elem22 sz27 ?_ | refine WXL.ixS Met.none rfl rfl elem22 sz27 ?_
             first | refine WXL.ld Met.none rfl agg27 ?_ (hv := hwf2) | refine WXL.ldS Met.none rfl agg27 ?_ (hv := hwf2)
             refine WXL.move Met.none rfl ?_
             refine WXL.move Met.none rfl ?_
             refine WXL.nilCheck Met.none rfl ?_
             first | refine WXL.fieldAddr Met.none rfl Try.underlying58 rfl sz22 rfl ?_ | refine WXL.faS Met.none rfl Try.underlying58 rfl sz22 ?_
             first | refine WXL.ld Met.none rfl agg22 ?_ | refine WXL.ldS Met.none rfl agg22 ?_
             refine WXL.move Met.none rfl ?_
             first | refine WXL.ix Met.none rfl rfl elem22 sz27 ?_ | refine WXL.ixS Met.none rfl rfl elem22 sz27 ?_
             first | refine WXL.ld Met.none rfl agg27 ?_ (hv := hwf2) | refine WXL.ldS Met.none rfl agg27 ?_ (hv := hwf2)
             refine WXL.move Met.none rfl ?_
             first | refine WXL.ix Met.none rfl rfl elem27 sz5 ?_ | refine WXL.ixS Met.none rfl rfl elem27 sz5 ?_
             first | refine WXL.ld Met.none rfl agg5 ?_ (hv := (cell_map _ _ _ hzl)) | refine WXL.ldS Met.none rfl agg5 ?_ (hv := (cell_map _ _ _ hzl))
             refine WXL.move Met.none rfl ?_
             refine WXL.bin Met.none rfl rfl bvS ?_
             rw [hk7]
             refine WXL.conv Met.none rfl Try.underlying3 Try.underlying77 (wrap_u64 (by omega) (by omega)) ?_
             refine WXL.shl Met.none rfl rfl (by omega) ?_
             refine WXL.bin Met.none rfl rfl (show _ = some (B8 (flipB (nth o.f.bs (dn + rr)) (7 - at0.toNat % 8))) from rfl) ?_
             first | refine WXL.ix Met.none rfl rfl elem27 sz5 ?_ | refine WXL.ixS Met.none rfl rfl elem27 sz5 ?_
             refine WXL.st (vs := [_]) (j := 0) Met.none rfl rfl rfl sz5 ?_ (hj := rfl)
             refine WXL.nil ?_
             refine Fin.then_normal ?_
             first
             | refine WX.re (O' := rdO r rb rf M ws (rowsO (owQ at0 ow (looseSum (cutsR M keep j) + (rr + 1))) ++ B)) ?_ (by rw [hrs2]; exact sub_)
             | refine WX.re (O' := rdO r rb rf M ws (rowsO (owQ at0 ow (looseSum (cutsR M keep j) + (rr + 1))) ++ B)) ?_ (by rw [← Nat.add_assoc, owQ_same (by omega)]; exact fun _ hs => hs)
             refine WX.region rfl ?_
             refine WXL.move Met.none rfl ?_
             refine WXL.bin Met.none rfl rfl bvS ?_
             refine WXL.assign Met.none rfl ?_
             refine WXL.nil ?_
             refine Fin.block_normal ?_
             refine Fin.then_normal ?_
             refine WX.region rfl ?_
             refine WXL.move Met.none rfl ?_
             refine WXL.bin Met.none rfl rfl bvA ?_
             refine WXL.assign Met.none rfl ?_
             refine WXL.nil ?_
             exact Fin.loop_next (rr + 1) (by omega) (by omega) (fun s hs => hs.tl [] 0)
           · try simp only [cnd] at hc5
             refine WX.skip ?_
             refine Fin.then_normal ?_
             first
             | refine WX.re (O' := rdO r rb rf M ws (rowsO (owQ at0 ow (looseSum (cutsR M keep j) + (rr + 1))) ++ B)) ?_ (by rw [hrs2]; exact sub_)
             | refine WX.re (O' := rdO r rb rf M ws (rowsO (owQ at0 ow (looseSum (cutsR M keep j) + (rr + 1))) ++ B)) ?_ (by rw [← Nat.add_assoc, owQ_same (by omega)]; exact fun _ hs => hs)
             refine WX.region rfl ?_
             refine WXL.move Met.none rfl ?_
             refine WXL.bin Met.none rfl rfl bvS ?_
             refine WXL.assign Met.none rfl ?_
             refine WXL.nil ?_
             refine Fin.block_normal ?_
             refine Fin.then_normal ?_
             refine WX.region rfl ?_
             refine WXL.move Met.none rfl ?_
             refine WXL.bin Met.none rfl rfl bvA ?_
             refine WXL.assign Met.none rfl ?_
             refine WXL.nil ?_
             exact Fin.loop_next (rr + 1) (by omega) (by omega) (fun s hs => hs.tl [] 0)
         · try simp only [cnd] at hg124
           refine WXL.miss (j := 2) (d := 124) rfl rfl rfl ?_
           refine WXL.miss (j := 2) (d := 124) rfl rfl rfl ?_
           refine WXL.pick_f Met.none rfl rfl ?_
           refine WXL.nil ?_
           refine Fin.then_normal ?_
           refine WX.cond rfl (fun hc5 => nomatch hc5) (fun hc5 => ?_)
           refine WX.skip ?_
           refine Fin.then_normal ?_
           first
           | refine WX.re (O' := rdO r rb rf M ws (rowsO (owQ at0 ow (looseSum (cutsR M keep j) + (rr + 1))) ++ B)) ?_ (by rw [hrs2]; exact sub_)
           | refine WX.re (O' := rdO r rb rf M ws (rowsO (owQ at0 ow (looseSum (cutsR M keep j) + (rr + 1))) ++ B)) ?_ (by rw [← Nat.add_assoc, owQ_same (by omega)]; exact fun _ hs => hs)
           refine WX.region rfl ?_
           refine WXL.move Met.none rfl ?_
           refine WXL.bin Met.none rfl rfl bvS ?_
           refine WXL.assign Met.none rfl ?_
           refine WXL.nil ?_
           refine Fin.block_normal ?_
           refine Fin.then_normal ?_
           refine WX.region rfl ?_
           refine WXL.move Met.none rfl ?_
           refine WXL.bin Met.none rfl rfl bvA ?_
           refine WXL.assign Met.none rfl ?_
           refine WXL.nil ?_
           exact Fin.loop_next (rr + 1) (by omega) (by omega) (fun s hs => hs.tl [] 0)
       · try simp only [cnd] at hc4
         refine WX.exit ?_
         refine Fin.then_exit ?_
         refine Fin.loop_exit ?_
         refine Fin.block_hit rfl ?_
         refine Fin.block_normal ?_
         refine Fin.then_normal ?_
         have hre : rr = looseN o.f := by omega
         subst hre
         rw [← hsj]
         refine WX.region rfl ?_
         refine WXL.move Met.none rfl ?_
         refine WXL.bin Met.none rfl rfl bvA ?_
         refine WXL.assign Met.none rfl ?_
         refine WXL.nil ?_
         exact Fin.loop_next (j + 1) (by omega) (by omega) (fun s hs => hs.tl [] 0)
     · try simp only [cnd] at hc3
       refine WX.exit ?_
       refine Fin.then_exit ?_
       refine Fin.loop_exit ?_
       refine Fin.block_hit rfl ?_
       refine Fin.then_normal ?_
       refine WX.seq ?_
       refine WX.seq ?_
       have hje : j = (filesR M).length := by omega
       rw [hje, ← hS]
       have hVF : CrV M vs (crashCR M keep flip) (owQ at0 ow S) ws := by
        rw [hcr]
        unfold owQ
        rcases hat2 with h1 | ⟨h1, h2⟩
        · rw [if_neg (by omega), if_neg (by omega)]; exact hV
        · rw [if_pos h1, if_pos (by omega)]; exact hV.flip _ _
       have hIF := crashR_I h hVF
       obtain ⟨M3, hM3⟩ : ∃ M3 : Rd, M3 = ⟨M.room, (crashR M keep flip).B, M.F, M.off, M.plan⟩ := ⟨_, rfl⟩
       have hF3 : M3.F.length = 64 := by rw [hM3]; exact h.lenF
       generalize owQ at0 ow S = owF at hVF hIF ⊢
       refine WX.region rfl ?_
       refine WXL.assign Met.none rfl ?_
       refine WXL.nil ?_
       refine Fin.then_normal ?_
       refine WX.block ?_
       refine WX.re (O' := rdO r rb rf ⟨M.room, M.B, firmI M3 0, M.off, M.plan⟩ ws (rowsO owF ++ B)) ?_ (by rw [show firmI M3 0 = M.F from by rw [hM3]; rfl]; exact fun _ hs => hs)
       refine WX.loop (fun i : Nat => [(0, Ptr r 0), (16, I (i : Int))]) (fun i => rdO r rb rf ⟨M.room, M.B, firmI M3 i, M.off, M.plan⟩ ws (rowsO owF ++ B)) (fun i => i ≤ 64) (fun i => 64 - i) 0 (by decide) (fun s hs => hs.tl [] 0) (fun i hi => ?_)
       refine WX.seq ?_
       refine WX.seq ?_
       refine WX.region rfl ?_
       refine WXL.move Met.none rfl ?_
       refine WXL.bin Met.none rfl rfl rfl ?_
       refine WXL.nil ?_
       refine Fin.then_normal ?_
       refine WX.cond rfl (fun hc6 => ?_) (fun hc6 => ?_)
       · try simp only [cnd] at hc6
         refine WX.skip ?_
         refine Fin.then_normal ?_
         refine WX.seq ?_
         refine WX.block ?_
         have hi64 : i < 64 := by omega
         obtain ⟨a, c, ev, _⟩ := hIF.file i hi64
         have hv : ws[i]? = some (.slice a (nth (crashR M keep flip).B i).length c) := by rw [← ev]; exact nth_eq (by rw [hVF.len]; exact hi64)
         have hfl3 := firmI_len hF3 (i := i) (by omega)
         have hl3 : lenR M3 i = ((nth (crashR M keep flip).B i).length : Nat) := by unfold lenR; rw [hM3]
         refine WX.draw rfl ?_
         refine WXL.move Met.none rfl ?_
         refine WXL.nilCheck Met.none rfl ?_
         first | refine WXL.fieldAddr Met.none rfl Try.underlying58 rfl sz33 rfl ?_ | refine WXL.faS Met.none rfl Try.underlying58 rfl sz33 ?_
         first | refine WXL.ld Met.none rfl agg33 ?_ | refine WXL.ldS Met.none rfl agg33 ?_
         refine WXL.move Met.none rfl ?_
         refine WXL.move Met.none rfl ?_
         refine WXL.nilCheck Met.none rfl ?_
         first | refine WXL.fieldAddr Met.none rfl Try.underlying58 rfl sz22 rfl ?_ | refine WXL.faS Met.none rfl Try.underlying58 rfl sz22 ?_
         first | refine WXL.ld Met.none rfl agg22 ?_ | refine WXL.ldS Met.none rfl agg22 ?_
         refine WXL.move Met.none rfl ?_
         first | refine WXL.ix Met.none rfl rfl elem22 sz27 ?_ | refine WXL.ixS Met.none rfl rfl elem22 sz27 ?_
         first | refine WXL.ld Met.none rfl agg27 ?_ (hv := hv) | refine WXL.ldS Met.none rfl agg27 ?_ (hv := hv)
         refine WXL.len Met.none rfl Try.underlying27 ?_
         first | refine WXL.ix Met.none rfl rfl elem33 sz3 ?_ | refine WXL.ixS Met.none rfl rfl elem33 sz3 ?_
         refine WXL.st (vs := [_]) (j := 2) Met.none rfl rfl rfl sz3 ?_ (hj := rfl) (hl := (by rw [List.length_map, hfl3]; show i + 1 ≤ 64; omega)) (hc := (show splice (List.map I (firmI M3 i)) i [I (((nth (crashR M keep flip).B i).length : Nat) : Int)] = List.map I ((firmI M3 i).set i (lenR M3 i)) from by rw [hl3]; exact splice_map I _ i _ (by rw [hfl3]; exact hi64)))
         refine WXL.nil ?_
         refine Fin.block_normal ?_
         refine Fin.then_normal ?_
         refine WX.region rfl ?_
         refine WXL.move Met.none rfl ?_
         refine WXL.bin Met.none rfl rfl bvA ?_
         refine WXL.assign Met.none rfl ?_
         refine WXL.nil ?_
         exact Fin.loop_next (i + 1) (by omega) (by omega) (fun s hs => by rw [← firmI_set hF3 hi64]; exact hs.tl [] 0)
       · try simp only [cnd] at hc6
         refine WX.exit ?_
         refine Fin.then_exit ?_
         refine Fin.loop_exit ?_
         refine Fin.block_hit rfl ?_
         refine Fin.then_normal ?_
         refine WX.seq ?_
         have hi6 : i = 64 := by omega
         rw [hi6, firmI_all hF3]
         refine WX.region rfl ?_
         refine WXL.move Met.none rfl ?_
         refine WXL.nilCheck Met.none rfl ?_
         first | refine WXL.fieldAddr Met.none rfl Try.underlying58 rfl sz4 rfl ?_ | refine WXL.faS Met.none rfl Try.underlying58 rfl sz4 ?_
         refine WXL.st (vs := [_]) (j := 0) Met.none rfl rfl rfl sz4 ?_ (hj := rfl)
         refine WXL.nil ?_
         refine Fin.then_normal ?_
         refine WX.region rfl ?_
         refine WXL.move Met.none rfl ?_
         refine WXL.nilCheck Met.none rfl ?_
         first | refine WXL.fieldAddr Met.none rfl Try.underlying58 rfl sz3 rfl ?_ | refine WXL.faS Met.none rfl Try.underlying58 rfl sz3 ?_
         refine WXL.st (vs := [_]) (j := 0) Met.none rfl rfl rfl sz3 ?_ (hj := rfl)
         refine WXL.nil ?_
         exact Fin.result (O' := rdO r rb rf ⟨M.room, (crashR M keep flip).B, (crashR M keep flip).F, false, -1⟩ ws (rowsO owF ++ R)) (.inl rfl) rfl rfl (by
          have e1 : (List.range 64).map (lenR M3) = (crashR M keep flip).F := by
           show (List.range 64).map (lenR M3) = (List.range 64).map fun n => ((((mget ((n : Nat) : Int) (crashCR M keep flip)).getD ⟨[], 0⟩).bs.length : Nat) : Int)
           refine List.map_congr_left fun n hn => ?_
           have hn := List.mem_range.1 hn
           unfold lenR
           rw [hM3]
           show (((nth ((List.range 64).map fun n => ((mget ((n : Nat) : Int) (crashCR M keep flip)).getD ⟨[], 0⟩).bs) n).length : Nat) : Int) = _
           rw [nth_map_range _ hn]
          rw [e1, hB]
          intro g hg
          have hg2 : Sat g (rdO r rb rf ⟨M.room, (crashR M keep flip).B, (crashR M keep flip).F, false, -1⟩ ws (rowsO owF ++ (Gf ++ R))) := hg
          exact hg2.sub (by intro Q; simp only [List.countP_append, List.countP_cons]; omega)) ⟨ws, rowsO owF, rfl, hIF⟩
end Go.Proofs.Ytahaplbdhgfobaa.Eng
set_option linter.unusedVariables false
set_option linter.unusedSimpArgs false
set_option maxRecDepth 8000
namespace Go.Proofs.Ytahaplbdhgfobaa.Eng
theorem sameI_ok (O : Objs) (l m : List Int) (a b : Option Addr) (c e : Nat) (hlen : Short l) (hl : Src O 1 (.slice a l.length c) l.length (l.map I)) (hm : Src O 1 (.slice b m.length e) m.length (m.map I)) :
  Spec Try.prog true 48 #[.slice a l.length c, .slice b m.length e] O fun v O' => v = .bool (decide (l = m)) ∧ O' = O := by
 unfold Short at hlen
 refine Spec.enter (args := [_, _]) (m := 26) Try.func48 rfl rfl (by decide +kernel) fun h0 => ?_
 refine WX.seq ?_
 refine WX.region rfl ?_
 refine WXL.assign Met.none rfl ?_
 refine WXL.nil ?_
 refine Fin.then_normal ?_
 refine WX.seq ?_
 refine WX.seq ?_
 refine WX.region rfl ?_
 refine WXL.move Met.none rfl ?_
 refine WXL.len Met.none rfl Try.underlying33 ?_
 refine WXL.move Met.none rfl ?_
 refine WXL.len Met.none rfl Try.underlying33 ?_
 refine WXL.bin Met.none rfl rfl rfl ?_
 refine WXL.nil ?_
 refine Fin.then_normal ?_
 refine WX.cond rfl (fun hc0 => ?_) (fun hc0 => ?_)
 · try simp only [cnd] at hc0
   refine WX.seq ?_
   refine WX.region rfl ?_
   refine WXL.assign Met.none rfl ?_
   refine WXL.nil ?_
   refine Fin.then_normal ?_
   refine WX.ret ?_
   refine Fin.then_ret ?_
   refine Fin.result (.inr rfl) rfl rfl (fun _ h => h) ⟨?_, rfl⟩
   first
   | exact bool_false (fun h => hc0 (by rw [h]))
   | exact bool_false (fun h => hc2 (by rw [h]))
   | exact bool_true (by
     have e1 : k = l.length := by omega
     have e2 := hk.2
     rw [e1, List.take_length, List.take_of_length_le (by omega)] at e2
     exact e2)
 · try simp only [cnd] at hc0
   refine WX.skip ?_
   refine Fin.then_normal ?_
   refine WX.seq ?_
   refine WX.seq ?_
   refine WX.region rfl ?_
   refine WXL.assign Met.none rfl ?_
   refine WXL.nil ?_
   refine Fin.then_normal ?_
   refine WX.block ?_
   refine WX.loop (fun k : Nat => [(0, .slice a l.length c), (1, .slice b m.length e), (5, I k)]) (fun _ => O) (fun k => k ≤ l.length ∧ l.take k = m.take k) (fun k => l.length - k) 0 ⟨Nat.zero_le _, rfl⟩ (fun s hs => hs.tl [] 0) (fun k hk => ?_)
   refine WX.seq ?_
   refine WX.seq ?_
   refine WX.region rfl ?_
   refine WXL.move Met.none rfl ?_
   refine WXL.move Met.none rfl ?_
   refine WXL.len Met.none rfl Try.underlying33 ?_
   refine WXL.bin Met.none rfl rfl rfl ?_
   refine WXL.nil ?_
   refine Fin.then_normal ?_
   refine WX.cond rfl (fun hc1 => ?_) (fun hc1 => ?_)
   · try simp only [cnd] at hc1
     refine WX.skip ?_
     refine Fin.then_normal ?_
     refine WX.seq ?_
     refine WX.block ?_
     refine WX.seq ?_
     refine WX.draw rfl ?_
     refine WXL.move Met.none rfl ?_
     refine WXL.move Met.none rfl ?_
     first | refine WXL.ix Met.none rfl rfl elem33 sz3 ?_ | refine WXL.ixS Met.none rfl rfl elem33 sz3 ?_
     first | refine WXL.ld Met.none rfl agg3 ?_ | refine WXL.ldS Met.none rfl agg3 ?_
     refine WXL.move Met.none rfl ?_
     refine WXL.move Met.none rfl ?_
     first | refine WXL.ix Met.none rfl rfl elem33 sz3 ?_ | refine WXL.ixS Met.none rfl rfl elem33 sz3 ?_
     first | refine WXL.ld Met.none rfl agg3 ?_ | refine WXL.ldS Met.none rfl agg3 ?_
     refine WXL.bin Met.none rfl rfl rfl ?_
     refine WXL.nil ?_
     refine Fin.then_normal ?_
     refine WX.cond rfl (fun hc2 => ?_) (fun hc2 => ?_)
     · try simp only [cnd] at hc2
       refine WX.seq ?_
       refine WX.region rfl ?_
       refine WXL.assign Met.none rfl ?_
       refine WXL.nil ?_
       refine Fin.then_normal ?_
       refine WX.ret ?_
       refine Fin.block_ret ?_
       refine Fin.then_ret ?_
       refine Fin.loop_ret ?_
       refine Fin.block_ret ?_
       refine Fin.then_ret ?_
       refine Fin.result (.inr rfl) rfl rfl (fun _ h => h) ⟨?_, rfl⟩
       first
       | exact bool_false (fun h => hc0 (by rw [h]))
       | exact bool_false (fun h => hc2 (by rw [h]))
       | exact bool_true (by
         have e1 : k = l.length := by omega
         have e2 := hk.2
         rw [e1, List.take_length, List.take_of_length_le (by omega)] at e2
         exact e2)
     · try simp only [cnd] at hc2
       refine WX.skip ?_
       refine Fin.block_normal ?_
       refine Fin.then_normal ?_
       refine WX.region rfl ?_
       refine WXL.move Met.none rfl ?_
       refine WXL.bin Met.none rfl rfl bvA ?_
       refine WXL.assign Met.none rfl ?_
       refine WXL.nil ?_
       refine Fin.loop_next (k + 1) ⟨by omega, ?_⟩ (by omega) (fun s hs => hs.tl [] 0)
       rw [take_succ_nth (by omega), take_succ_nth (by omega), hk.2, hc2]
   · try simp only [cnd] at hc1
     refine WX.exit ?_
     refine Fin.then_exit ?_
     refine Fin.loop_exit ?_
     refine Fin.block_hit rfl ?_
     refine Fin.then_normal ?_
     refine WX.seq ?_
     refine WX.region rfl ?_
     refine WXL.assign Met.none rfl ?_
     refine WXL.nil ?_
     refine Fin.then_normal ?_
     refine WX.ret ?_
     refine Fin.result (.inr rfl) rfl rfl (fun _ h => h) ⟨?_, rfl⟩
     first
     | exact bool_false (fun h => hc0 (by rw [h]))
     | exact bool_false (fun h => hc2 (by rw [h]))
     | exact bool_true (by
       have e1 : k = l.length := by omega
       have e2 := hk.2
       rw [e1, List.take_length, List.take_of_length_le (by omega)] at e2
       exact e2)
structure OpV where
 kind : Int
 file : Int
 n : Int
 b : List Int
 keep : List Int
 a : Option Addr
 c : Nat
 ak : Option Addr
 ck : Nat
deriving Inhabited
def encV (o : OpV) : List Value := [I o.kind, I o.file, I o.n, .slice o.a o.b.length o.c, .slice o.ak o.keep.length o.ck]
theorem encV_len (o : OpV) : (encV o).length = 5 := rfl
structure OpK (R : Objs) (o : OpV) : Prop where
 row : Rowy R 1 o.a o.b.length (o.b.map B8)
 nil : o.a = none → o.c = 0
 bytes : Bytes o.b
 short : o.b.length ≤ 5
 krow : Rowy R 1 o.ak o.keep.length (o.keep.map I)
 knil : o.ak = none → o.ck = 0
 kshort : o.keep.length ≤ 3
 k64 : ∀ n ∈ o.keep, In64 n
 n64 : In64 o.n
 nlt : o.n < 9223372036854775807
theorem OpK.app {R N : Objs} {o : OpV} (h : OpK R o) : OpK (N ++ R) o := ⟨h.row.app, h.nil, h.bytes, h.short, h.krow.app, h.knil, h.kshort, h.k64, h.n64, h.nlt⟩
theorem OpK.inc {R R' : Objs} {o : OpV} (h : OpK R o) (hi : ∀ g, Sat g R' → Sat g R) : OpK R' o := ⟨h.row.inc hi, h.nil, h.bytes, h.short, h.krow.inc hi, h.knil, h.kshort, h.k64, h.n64, h.nlt⟩
theorem nil_row {R : Objs} {f : Int → Value} : Rowy R 1 none ([] : List Int).length (([] : List Int).map f) := .inl ⟨rfl, rfl, rfl⟩
structure OpsS where
 i : Nat
 ops : List OpV
 a : Option Addr
 c : Nat
 G : Objs
 N : Objs
end Go.Proofs.Ytahaplbdhgfobaa.Eng

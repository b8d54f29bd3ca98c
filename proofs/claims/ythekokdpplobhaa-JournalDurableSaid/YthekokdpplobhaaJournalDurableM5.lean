/- A crash, walked. Own work; no condition. | Append to a file of a disk. Own work; no condition. | Open a log. Own work; no condition. | A log's Append, Len, Up; a fresh disk. Own work; no condition. | A log's Append. Own work; no condition. | Logs on a disk that never fails, in plain lists. Own work; no condition. | Logs on a disk that never fails, and a crash of durable bytes, in plain lists. Own work; no condition. | A log on a disk whose power may fail: what is kept. Own work; no condition. | The law JournalInverted, walked. Own work; no condition. | The law JournalDurable, walked. Own work; no condition. -/
import Derived.Test.YthekokdpplobhaaJournalDurableM1
import Derived.Test.YthekokdpplobhaaJournalDurableM2
import Derived.Test.YthekokdpplobhaaJournalDurableM3
import Derived.Test.YthekokdpplobhaaJournalDurableM4
set_option linter.unusedVariables false
set_option linter.unusedSimpArgs false
namespace Go.Proofs.Ythekokdpplobhaa.Eng

/-- What a crash comes to. -/
def CrashPost (D0 : Dk) (keep : List Int) (flip : Int) (d bm : Nat) (R R0 : Objs) (O' : Objs) : Prop :=
  ∃ mx' N D', O' = dkO d bm D' mx' (N ++ R) ∧ DkI (N ++ R0) D' mx' ∧ D'.room = D0.room ∧ D'.off = false ∧ D'.armed = false ∧ ∀ m, getF D'.fs m = ((mget m (crashC D0 keep flip)).getD ⟨[], 0⟩).hard

theorem looseSum_le (D0 : Dk) (keep : List Int) (M : Nat) (h : ∀ n, (getF D0.fs n).bs.length ≤ M) : ∀ i, looseSum (cuts D0 keep i) ≤ i * M
  | 0 => Nat.zero_le _
  | i + 1 => by
    have h1 := looseSum_le D0 keep M h i
    have h2 := h (nth (fnos D0) i)
    rw [cuts_succ, looseSum_app, Nat.succ_mul]
    have h3 : looseSum [cutAt D0 keep i] ≤ M := by
      show looseN (cutF keep i (getF D0.fs (nth (fnos D0) i))) + 0 ≤ M
      unfold looseN cutF
      simp only [List.length_take]
      omega
    omega

theorem flipB_range (a : Int) (k : Nat) : 0 ≤ flipB a k ∧ flipB a k < 256 := wrap8_lt _

theorem Rowy.mid {A N R : Objs} {sz : Nat} {a : Option Addr} {n : Nat} {cs : List Value} (h : Rowy (A ++ R) sz a n cs) : Rowy (A ++ (N ++ R)) sz a n cs :=
  h.inc fun g hg => hg.sub (by intro Q; simp only [List.countP_append]; omega)
theorem FRel.mid {A N R : Objs} {m : List (Int × Value)} {fs : List (Int × Fi)} (h : FRel (A ++ R) m fs) : FRel (A ++ (N ++ R)) m fs := by
  induction h with
  | nil => exact .nil
  | cons h1 _ ih =>
    obtain ⟨a, c, h2, h3, h4⟩ := h1
    exact .cons ⟨a, c, h2, h3.mid, h4⟩ ih

theorem crash_ok (R : Objs) {R0 : Objs} (d bm : Nat) (D0 : Dk) (mx0 : MapX) (keep : List Int) (ak : Option Addr) (ck : Nat) (flip : Int) (hD : DkI R0 D0 mx0) (hi : ∀ Q : Nat × Ent → Bool, R0.countP Q ≤ R.countP Q) (hroom : D0.room ≤ 1000000) (hf64 : In64 flip) (hk64 : ∀ n ∈ keep, In64 n) (hkl : Short keep)
    (hk : Src R 1 (.slice ak keep.length ck) keep.length (keep.map I)) :
    Spec Try.prog false 36 #[Ptr d 0, .slice ak keep.length ck, I flip] (dkO d bm D0 mx0 R) fun v O' => CrashPost D0 keep flip d bm R R0 O' := by
  have hnd := fnos_nd hD
  have hfl := fnos_len hD
  have hfl2 : (fnos D0).length ≤ 1000000 := by
    have h1 := used_count hD.ok
    have h2 := hD.used
    have h4 : (fnos D0).length = D0.fs.length := by
      unfold fnos
      rw [(sortK_perm _).length_eq, List.length_map]
    omega
  refine Spec.enter (args := [_, _, _]) (m := 107) Try.func36 rfl rfl (by decide +kernel) fun h0 => ?_
  refine WX.seq ?_
  refine WX.region rfl ?_
  refine WXL.assign Met.none rfl ?_
  refine WXL.nil ?_
  refine Fin.then_normal ?_
  refine WX.seq ?_
  refine WX.seq ?_
  refine WX.region rfl ?_
  refine WXL.move Met.none rfl ?_
  refine WXL.cl (O1 := _) Met.none rfl (fnOk_of Try.func60 (by decide +kernel)) rfl (fun _ h => h) (files_ok _ R d bm D0 mx0 hD) (fun v O' hp => ?_)
  obtain ⟨a15, c15, G15, rfl, hG15, rfl⟩ := hp
  refine WXL.len Met.none rfl Try.underlying22 ?_
  refine WXL.move Met.none rfl ?_
  refine WXL.nil ?_
  refine Fin.then_normal ?_
  refine WX.block ?_
  obtain ⟨B, hB⟩ : ∃ B, B = G15 ++ R := ⟨_, rfl⟩
  have hsF : Src B 1 (.slice a15 (fnos D0).length c15) (fnos D0).length ((fnos D0).map I) := hB ▸ hG15.src
  have hsK : Src B 1 (.slice ak keep.length ck) keep.length (keep.map I) := hB ▸ Src.app hk
  have hiB : ∀ Q : Nat × Ent → Bool, R0.countP Q ≤ B.countP Q := fun Q => by
    have := hi Q
    rw [hB, List.countP_append]
    omega
  refine WX.re (O' := dkO d bm D0 mx0 ([] ++ ([] ++ B))) ?_ (by rw [hB]; exact sub_)
  refine WX.loop (fun q : CrS => [(0, Ptr d 0), (1, .slice ak keep.length ck), (2, I flip), (6, .slice q.a (looseV q.ow).length q.c), (15, .slice a15 (fnos D0).length c15), (16, I ((fnos D0).length : Nat)), (17, I (q.i : Nat))]) (fun q => dkO d bm q.D q.mx (q.G ++ (rowsO q.ow ++ B))) (CrI D0 keep R0) (fun q => (fnos D0).length - q.i) ⟨0, [], D0, mx0, none, 0, []⟩ ⟨Nat.zero_le _, rfl, (fun o ho => by simp at ho), (fun o ho => by simp at ho), (fun m => rfl), (fun e he => fnos_mem.2 (List.mem_map.2 ⟨e, he, rfl⟩)), hD, ⟨rfl, rfl, rfl, rfl⟩, .nil⟩ (fun s hs => hs.tl [] 0) (fun q hq => ?_)
  obtain ⟨i, ow, D, mx, a6, c6, G6⟩ := q
  obtain ⟨hin, how, hgr, hval, hget, hkeys, hDi, hsame, hloose⟩ := hq
  simp only at hin how hgr hval hget hkeys hDi hsame hloose
  dsimp only
  have hlsum : (looseV ow).length ≤ i * 1000000 := by
    rw [looseV_len, how]
    exact looseSum_le D0 keep 1000000 (fun n => by
      have h1 := used_get D0.fs n
      have h2 := hD.used
      omega) i
  refine WX.seq ?_
  refine WX.region rfl ?_
  refine WXL.bin Met.none rfl rfl rfl ?_
  refine WXL.nil ?_
  refine Fin.then_normal ?_
  refine WX.seq ?_
  refine WX.cond rfl (fun hc0 => ?_) (fun hc0 => ?_)
  · try simp only [cnd] at hc0
    refine WX.skip ?_
    refine Fin.then_normal ?_
    refine WX.seq ?_
    refine WX.block ?_
    refine WX.seq ?_
    have hik : i < (fnos D0).length := by omega
    obtain ⟨n, hn⟩ : ∃ n, n = nth (fnos D0) i := ⟨_, rfl⟩
    have hnin : n ∈ fnos D0 := hn ▸ nth_mem hik
    have hn64 := fnos_range hD hnin
    have hnot : n ∉ (cuts D0 keep i).map (·.1) := by rw [cuts_keys D0 keep i (by omega), hn]; exact take_nth_notin hnd hik
    have hfn : getF D.fs n = getF D0.fs n := by rw [hget n, mget_none hnot]; rfl
    obtain ⟨fa, fc, hfv, hrow0, hnil, hfB⟩ := hDi.di.get n
    obtain ⟨f, hf⟩ : ∃ f, f = getF D.fs n := ⟨_, rfl⟩
    have hfd := hDi.get_d n
    have hflen := hDi.get_len n
    rw [← hf] at hfv hrow0 hfB hfd hflen hfn
    have hrow := hrow0.inc (R := G6 ++ (rowsO ow ++ B)) (fun g hg => hg.sub (by intro Q; have := hiB Q; simp only [List.countP_append]; omega))
    obtain ⟨kk, hkk⟩ : ∃ kk, kk = keepN keep i f := ⟨_, rfl⟩
    have hkr := keepN_range keep i hfd
    obtain ⟨cb, hcb⟩ : ∃ cb, cb = (cutF keep i f).bs := ⟨_, rfl⟩
    have hcl := cutF_len keep i hfd
    rw [← hcb, ← hkk] at hcl
    rw [← hkk] at hkr
    have htk : f.bs.take cb.length = cb := by
      rw [hcb]
      show f.bs.take (f.bs.take _).length = f.bs.take _
      rw [List.length_take, ← List.take_take, List.take_length]
    refine WX.region rfl ?_
    refine WXL.move Met.none rfl ?_
    first | refine WXL.ix Met.none rfl rfl elem22 sz3 ?_ | refine WXL.ixS Met.none rfl rfl elem22 sz3 ?_
    first | refine WXL.ld Met.none rfl agg3 ?_ (hv := (show ((fnos D0).map I)[i]? = some (I n) from by rw [hn]; exact cell_map _ _ _ hik)) | refine WXL.ldS Met.none rfl agg3 ?_ (hv := (show ((fnos D0).map I)[i]? = some (I n) from by rw [hn]; exact cell_map _ _ _ hik))
    refine WXL.assign Met.none rfl ?_
    refine WXL.assign Met.none rfl ?_
    refine WXL.nil ?_
    refine Fin.then_normal ?_
    refine WX.seq ?_
    refine WX.region rfl ?_
    refine WXL.move Met.none rfl ?_
    refine WXL.nilCheck Met.none rfl ?_
    first | refine WXL.fieldAddr Met.none rfl Try.underlying92 rfl sz90 rfl ?_ | refine WXL.faS Met.none rfl Try.underlying92 rfl sz90 ?_
    first | refine WXL.ld Met.none rfl agg90 ?_ | refine WXL.ldS Met.none rfl agg90 ?_
    refine WXL.move Met.none rfl ?_
    refine WXL.lookup Met.none rfl rfl mapT90 zero94 at_ (show _ = fileV fa f.bs.length fc f.d from hfv) ?_
    refine WXL.alloc (c := [_, _]) Met.none zero94 rfl (fun b9 => ?_)
    refine WXL.st (vs := [_, _]) (c' := [_, _]) (j := 0) Met.none rfl rfl rfl sz94 ?_ (hj := rfl)
    refine WXL.nil ?_
    refine Fin.then_normal ?_
    refine WX.seq ?_
    refine WX.region rfl ?_
    refine WXL.assign Met.none rfl ?_
    refine WXL.nil ?_
    refine Fin.then_normal ?_
    refine WX.seq ?_
    refine WX.seq ?_
    refine WX.region rfl ?_
    refine WXL.move Met.none rfl ?_
    refine WXL.move Met.none rfl ?_
    refine WXL.len Met.none rfl Try.underlying22 ?_
    refine WXL.bin Met.none rfl rfl rfl ?_
    refine WXL.nil ?_
    refine Fin.then_normal ?_
    refine WX.cond rfl (fun hc1 => ?_) (fun hc1 => ?_)
    · try simp only [cnd] at hc1
      have hik2 : i < keep.length := by omega
      refine WX.draw rfl ?_
      refine WXL.move Met.none rfl ?_
      refine WXL.move Met.none rfl ?_
      first | refine WXL.ix Met.none rfl rfl elem22 sz3 ?_ | refine WXL.ixS Met.none rfl rfl elem22 sz3 ?_
      first | refine WXL.ld Met.none rfl agg3 ?_ (hv := (cell_map _ _ _ (by omega))) | refine WXL.ldS Met.none rfl agg3 ?_ (hv := (cell_map _ _ _ (by omega)))
      refine WXL.fieldAddr (off' := 0) Met.none rfl Try.underlying94 rfl sz23 rfl ?_
      first | refine WXL.ld Met.none rfl agg23 ?_ | refine WXL.ldS Met.none rfl agg23 ?_
      refine WXL.len Met.none rfl Try.underlying23 ?_
      refine WXL.fieldAddr (off' := 1) Met.none rfl Try.underlying94 rfl sz3 rfl ?_
      first | refine WXL.ld Met.none rfl agg3 ?_ | refine WXL.ldS Met.none rfl agg3 ?_
      refine WXL.bin Met.none rfl rfl bvS ?_
      refine WXL.min Met.none rfl rfl ?_
      refine WXL.max Met.none rfl rfl ?_
      refine WXL.assign Met.none rfl ?_
      refine WXL.nil ?_
      refine Fin.then_normal ?_
      refine WX.seq ?_
      have hcat : ∃ z : Int, z = kk := ⟨_, rfl⟩
      have hkk2 : kk = if i < keep.length then max 0 (min (nth keep i) (f.bs.length - f.d)) else 0 := hkk
      first | rw [if_pos hik2] at hkk2 | rw [if_neg (by omega)] at hkk2
      refine WX.region rfl ?_
      refine WXL.fieldAddr (off' := 0) Met.none rfl Try.underlying94 rfl sz23 rfl ?_
      first | refine WXL.ld Met.none rfl agg23 ?_ | refine WXL.ldS Met.none rfl agg23 ?_
      refine WXL.fieldAddr (off' := 1) Met.none rfl Try.underlying94 rfl sz3 rfl ?_
      first | refine WXL.ld Met.none rfl agg3 ?_ | refine WXL.ldS Met.none rfl agg3 ?_
      refine WXL.move Met.none rfl ?_
      refine WXL.bin Met.none rfl rfl bvA ?_
      refine WXL.pre (m := cb.length) Met.none rfl rfl elem23 sz5 (Rowy.cons (Rowy.cons (Rowy.cons hrow))) hnil ?_
      refine WXL.cl (O1 := _) Met.none rfl (fnOk_of Try.func46 (by decide +kernel)) rfl (fun _ h => h) (clone_ok _ cb fa cb.length (by omega) (fun q => by
      have := hrow.nil0 q
      have h2 : cb.length = 0 := by omega
      exact List.length_eq_zero_iff.1 h2) (Src.cons (Src.cons (Src.cons (by
      have hpre := hrow.pre (m := cb.length) (by omega)
      rw [Nat.mul_one, ← List.map_take, htk] at hpre
      exact hpre.src hpre.nil0))))) (fun v O' hp => ?_)
      obtain ⟨a51, c51, G51, rfl, hG51, rfl⟩ := hp
      refine WXL.re (O' := (b9, ⟨0, false, [.slice fa f.bs.length fc, I f.d]⟩) :: dkO d bm D mx (G6 ++ ((rowsO ow ++ G51) ++ B))) ?_
      refine WXL.fieldAddr (off' := 0) Met.none rfl Try.underlying94 rfl sz23 rfl ?_
      refine WXL.st (vs := [_]) (c' := [_, _]) (j := 0) Met.none rfl rfl rfl sz23 ?_ (hj := rfl)
      refine WXL.nil ?_
      refine Fin.then_normal ?_
      refine WX.seq ?_
      refine WX.seq ?_
      refine WX.region rfl ?_
      refine WXL.fieldAddr (off' := 1) Met.none rfl Try.underlying94 rfl sz3 rfl ?_
      first | refine WXL.ld Met.none rfl agg3 ?_ | refine WXL.ldS Met.none rfl agg3 ?_
      refine WXL.assign Met.none rfl ?_
      refine WXL.nil ?_
      refine Fin.then_normal ?_
      refine WX.block ?_
      obtain ⟨dn, hdn⟩ : ∃ dn : Nat, f.d = (dn : Int) := ⟨f.d.toNat, by omega⟩
      have hsC : Src ((rowsO ow ++ G51) ++ B) 1 (.slice a51 cb.length c51) cb.length (cb.map B8) := by rw [List.append_assoc]; exact Src.app hG51.src
      rw [hdn]
      refine WX.loop (fun q : Nat × Option Addr × Nat × Objs => [(0, Ptr d 0), (1, .slice ak keep.length ck), (2, I flip), (6, .slice q.2.1 ((looseV ow).length + q.1) q.2.2.1), (8, I n), (9, Ptr b9 0), (11, I ((dn + q.1 : Nat) : Int)), (15, .slice a15 (fnos D0).length c15), (16, I ((fnos D0).length : Nat)), (17, I (i : Nat))]) (fun q => (b9, ⟨0, false, [.slice a51 cb.length c51, I (dn : Int)]⟩) :: dkO d bm D mx (q.2.2.2 ++ ((rowsO ow ++ G51) ++ B))) (fun q => dn + q.1 ≤ cb.length ∧ Grow 1 q.2.1 ((looseV ow).length + q.1) q.2.2.1 (looseV ow ++ looseV1 a51 dn q.1) q.2.2.2) (fun q => cb.length - q.1) (0, a6, c6, G6) ⟨by show dn + 0 ≤ _; omega, by rw [show looseV1 a51 dn 0 = [] from rfl, List.append_nil]; exact hloose⟩ (fun s hs => hs.tl [] 0) (fun q hq => ?_)
      obtain ⟨j, a7, c7, G7⟩ := q
      obtain ⟨hj, hG7⟩ := hq
      simp only at hj hG7
      dsimp only
      refine WX.seq ?_
      refine WX.seq ?_
      refine WX.region rfl ?_
      refine WXL.move Met.none rfl ?_
      refine WXL.fieldAddr (off' := 0) Met.none rfl Try.underlying94 rfl sz23 rfl ?_
      first | refine WXL.ld Met.none rfl agg23 ?_ | refine WXL.ldS Met.none rfl agg23 ?_
      refine WXL.len Met.none rfl Try.underlying23 ?_
      refine WXL.bin Met.none rfl rfl rfl ?_
      refine WXL.nil ?_
      refine Fin.then_normal ?_
      refine WX.cond rfl (fun hc2 => ?_) (fun hc2 => ?_)
      · try simp only [cnd] at hc2
        refine WX.skip ?_
        refine Fin.then_normal ?_
        refine WX.seq ?_
        refine WX.block ?_
        obtain ⟨b51, rfl, hG51e, hcl51⟩ : ∃ b51, a51 = some ⟨b51, 0, none⟩ ∧ G51 = [(b51, ⟨1, false, cb.map B8⟩)] ∧ (cb.map B8).length = cb.length * 1 := by
          rcases hG51 with ⟨_, h0, _⟩ | h
          · omega
          · exact h
        refine WX.region rfl ?_
        refine WXL.move Met.none rfl ?_
        refine WXL.fieldAddr (off' := 0) Met.none rfl Try.underlying94 rfl sz23 rfl ?_
        first | refine WXL.ld Met.none rfl agg23 ?_ | refine WXL.ldS Met.none rfl agg23 ?_
        refine WXL.move Met.none rfl ?_
        first | refine WXL.ix Met.none rfl rfl elem23 sz5 ?_ | refine WXL.ixS Met.none rfl rfl elem23 sz5 ?_
        refine WXL.buildSlice (c := [_]) Met.none rfl elem97 sz99 zero99 (by decide) (by decide) rfl rfl rfl rfl (fun b67 => ?_)
        refine WXL.apG [_, _, _, _] Met.none rfl rfl isrow97 elem97 sz99 by99 zero99 (Src.lit (cs := [_])) (fun a68 c68 G68 hG68 => ?_)
        refine WXL.assign Met.none rfl ?_
        refine WXL.nil ?_
        refine Fin.block_normal ?_
        refine Fin.then_normal ?_
        refine WX.region rfl ?_
        refine WXL.move Met.none rfl ?_
        refine WXL.bin Met.none rfl rfl bvA ?_
        refine WXL.assign Met.none rfl ?_
        refine WXL.nil ?_
        refine Fin.loop_next (j + 1, a68, c68, G68) ⟨by simp only; omega, ?_⟩ (by simp only; omega) (fun s hs => hs.tl [] 1)
        simp only
        rw [looseV1_succ, ← List.append_assoc, show ePtr (some ⟨b51, 0, none⟩) (dn + j) = Ptr b51 (dn + j) from by unfold ePtr; simp]
        exact hG68
      · try simp only [cnd] at hc2
        refine WX.exit ?_
        refine Fin.then_exit ?_
        refine Fin.loop_exit ?_
        refine Fin.block_hit rfl ?_
        refine Fin.then_normal ?_
        have hjl : j = cb.length - dn := by omega
        obtain ⟨o, ho⟩ : ∃ o : OwnF, o = ⟨n, cutF keep i f, a51, c51, G51⟩ := ⟨_, rfl⟩
        have hof : o.f.bs = cb ∧ o.f.d = f.d := by rw [ho]; exact ⟨hcb.symm, rfl⟩
        have hoG : Grow 1 o.a o.f.bs.length o.c (o.f.bs.map B8) o.G := by rw [hof.1, ho]; exact hG51
        have hlo : looseN o.f = j := by
          unfold looseN
          rw [hof.1, hof.2, hdn, Int.toNat_natCast, hjl]
        have hlv : looseV (ow ++ [o]) = looseV ow ++ looseV1 a51 dn j := by
          rw [looseV_app]
          show looseV ow ++ (looseV1 o.a o.f.d.toNat (looseN o.f) ++ []) = _
          rw [List.append_nil, hlo, hof.2, hdn, Int.toNat_natCast, ho]
        have hro : rowsO (ow ++ [o]) = rowsO ow ++ G51 := by
          rw [rowsO_app]
          show rowsO ow ++ (o.G ++ []) = _
          rw [List.append_nil, ho]
        have hlvl : (looseV ow).length + j = (looseV (ow ++ [o])).length := by rw [hlv, List.length_append, looseV1_len]
        have hcut : cutAt D0 keep i = (n, o.f) := by
          unfold cutAt
          rw [← hn, ← hfn, ho]
        have hfile : FileOk (rowsO (ow ++ [o]) ++ R0) (fileV a51 cb.length c51 f.d) o.f := ⟨a51, c51, by rw [hof.1, hof.2], by
          rw [hro, List.append_assoc, hof.1]
          exact Rowy.app hG51.rowy, fun q => (hG51.nil0 q).1, by
          rw [hof.1, ← htk]
          exact take_bytes hfB⟩
        have hcbl : o.f.bs.length = cb.length := by rw [hof.1]
        have hnk : (mx.kv.map (·.1)).Nodup := by rw [← keys_es]; exact hDi.keys
        have hDn : DkI (rowsO (ow ++ [o]) ++ R0) { D with fs := setF D.fs n o.f } (setX mx n (fileV a51 cb.length c51 f.d) cb.length) := by
          have h0 : DkI (rowsO (ow ++ [o]) ++ R0) D mx := ⟨⟨by
            rw [hro, List.append_assoc]
            exact hDi.di.rel.mid, hDi.di.nd⟩, hDi.ok, hDi.room, hDi.left, hDi.used⟩
          have h1 := h0.set n hfile hn64 ⟨by rw [hof.2]; omega, by rw [hof.1, hof.2]; omega⟩ (by
            have := hDi.used
            rw [hcbl, ← hf]
            omega)
          rw [hcbl] at h1
          exact h1
        refine WX.region rfl ?_
        refine WXL.move Met.none rfl ?_
        refine WXL.move Met.none rfl ?_
        refine WXL.ldN (vs := [_, _]) Met.none rfl agg94 sz94 ?_
        refine WXL.cl (O1 := dkO d bm D mx ((b9, ⟨0, false, [.slice a51 cb.length c51, I (dn : Int)]⟩) :: (G7 ++ ((rowsO ow ++ G51) ++ B)))) Met.none rfl (fnOk_of Try.func58 (by decide +kernel)) rfl sub_ (set_ok _ d bm D mx n a51 cb.length c51 (dn : Int)) (fun v O' hp => ?_)
        obtain rfl := hp
        refine WXL.nil ?_
        refine Fin.block_normal ?_
        refine Fin.then_normal ?_
        refine WX.region rfl ?_
        refine WXL.bin Met.none rfl rfl bvA ?_
        refine WXL.move Met.none rfl ?_
        refine WXL.nil ?_
        rw [← hdn]
        refine Fin.loop_next (⟨i + 1, ow ++ [o], { D with fs := setF D.fs n o.f }, setX mx n (fileV a51 cb.length c51 f.d) cb.length, a7, c7, G7⟩ : CrS) ⟨by simp only; omega, ?_, ?_, ?_, ?_, ?_, hDn, hsame, ?_⟩ (by simp only; omega) ?_
        · simp only
          rw [List.map_append, how, cuts_succ, hcut, ho]
          rfl
        · intro o' h'
          rcases List.mem_append.1 h' with q | q
          · exact hgr o' q
          · rw [List.mem_singleton] at q; subst q; exact ⟨hoG, by rw [hof.1, ← htk]; exact take_bytes hfB⟩
        · intro o' h' hne
          simp only
          rw [setX_get hnk]
          rcases List.mem_append.1 h' with q | q
          · rw [if_neg (fun e => hnot (by rw [← how, List.map_map]; exact List.mem_map.2 ⟨o', q, e⟩))]
            exact hval o' q hne
          · rw [List.mem_singleton] at q
            subst q
            rw [if_pos (by rw [ho]), if_neg (fun e => hne (by rw [hof.1]; exact List.length_eq_zero_iff.1 e)), hof.1, hof.2]
            rw [ho]
        · intro m
          simp only
          rw [get_set' hDi.di.nd, cuts_succ, mget_app, hcut]
          by_cases hm : m = n
          · subst hm
            rw [if_pos rfl, mget_none hnot]
            simp only [mget, if_pos, Option.or, Option.getD_some]
            split
            · rename_i hb0
              have h5 : o.f.d = 0 := by
                rw [hof.1] at hb0
                rw [hof.2]
                rw [hb0] at hcl
                simp at hcl
                omega
              cases hof' : o.f with
              | mk b' d' => rw [hof'] at hb0 h5; simp only at hb0 h5; rw [hb0, h5]
            · rfl
          · rw [if_neg hm, hget m]
            simp only [mget, if_neg hm]
            cases mget m (cuts D0 keep i) <;> rfl
        · intro e he
          rcases mem_set he with q | q
          · rw [q]; exact hnin
          · exact hkeys e q
        · simp only
          rw [← hlvl, hlv]
          exact hG7
        · simp only
          rw [hro, ← hlvl]
          exact (fun s hs => hs.tl [0, 1] 3)
    · try simp only [cnd] at hc1
      refine WX.skip ?_
      refine Fin.then_normal ?_
      refine WX.seq ?_
      have hcat : ∃ z : Int, z = kk := ⟨_, rfl⟩
      have hkk2 : kk = if i < keep.length then max 0 (min (nth keep i) (f.bs.length - f.d)) else 0 := hkk
      first | rw [if_pos hik2] at hkk2 | rw [if_neg (by omega)] at hkk2
      refine WX.region rfl ?_
      refine WXL.fieldAddr (off' := 0) Met.none rfl Try.underlying94 rfl sz23 rfl ?_
      first | refine WXL.ld Met.none rfl agg23 ?_ | refine WXL.ldS Met.none rfl agg23 ?_
      refine WXL.fieldAddr (off' := 1) Met.none rfl Try.underlying94 rfl sz3 rfl ?_
      first | refine WXL.ld Met.none rfl agg3 ?_ | refine WXL.ldS Met.none rfl agg3 ?_
      refine WXL.move Met.none rfl ?_
      refine WXL.bin Met.none rfl rfl bvA ?_
      refine WXL.pre (m := cb.length) Met.none rfl rfl elem23 sz5 (Rowy.cons (Rowy.cons (Rowy.cons hrow))) hnil ?_
      refine WXL.cl (O1 := _) Met.none rfl (fnOk_of Try.func46 (by decide +kernel)) rfl (fun _ h => h) (clone_ok _ cb fa cb.length (by omega) (fun q => by
      have := hrow.nil0 q
      have h2 : cb.length = 0 := by omega
      exact List.length_eq_zero_iff.1 h2) (Src.cons (Src.cons (Src.cons (by
      have hpre := hrow.pre (m := cb.length) (by omega)
      rw [Nat.mul_one, ← List.map_take, htk] at hpre
      exact hpre.src hpre.nil0))))) (fun v O' hp => ?_)
      obtain ⟨a51, c51, G51, rfl, hG51, rfl⟩ := hp
      refine WXL.re (O' := (b9, ⟨0, false, [.slice fa f.bs.length fc, I f.d]⟩) :: dkO d bm D mx (G6 ++ ((rowsO ow ++ G51) ++ B))) ?_
      refine WXL.fieldAddr (off' := 0) Met.none rfl Try.underlying94 rfl sz23 rfl ?_
      refine WXL.st (vs := [_]) (c' := [_, _]) (j := 0) Met.none rfl rfl rfl sz23 ?_ (hj := rfl)
      refine WXL.nil ?_
      refine Fin.then_normal ?_
      refine WX.seq ?_
      refine WX.seq ?_
      refine WX.region rfl ?_
      refine WXL.fieldAddr (off' := 1) Met.none rfl Try.underlying94 rfl sz3 rfl ?_
      first | refine WXL.ld Met.none rfl agg3 ?_ | refine WXL.ldS Met.none rfl agg3 ?_
      refine WXL.assign Met.none rfl ?_
      refine WXL.nil ?_
      refine Fin.then_normal ?_
      refine WX.block ?_
      obtain ⟨dn, hdn⟩ : ∃ dn : Nat, f.d = (dn : Int) := ⟨f.d.toNat, by omega⟩
      have hsC : Src ((rowsO ow ++ G51) ++ B) 1 (.slice a51 cb.length c51) cb.length (cb.map B8) := by rw [List.append_assoc]; exact Src.app hG51.src
      rw [hdn]
      refine WX.loop (fun q : Nat × Option Addr × Nat × Objs => [(0, Ptr d 0), (1, .slice ak keep.length ck), (2, I flip), (6, .slice q.2.1 ((looseV ow).length + q.1) q.2.2.1), (8, I n), (9, Ptr b9 0), (11, I ((dn + q.1 : Nat) : Int)), (15, .slice a15 (fnos D0).length c15), (16, I ((fnos D0).length : Nat)), (17, I (i : Nat))]) (fun q => (b9, ⟨0, false, [.slice a51 cb.length c51, I (dn : Int)]⟩) :: dkO d bm D mx (q.2.2.2 ++ ((rowsO ow ++ G51) ++ B))) (fun q => dn + q.1 ≤ cb.length ∧ Grow 1 q.2.1 ((looseV ow).length + q.1) q.2.2.1 (looseV ow ++ looseV1 a51 dn q.1) q.2.2.2) (fun q => cb.length - q.1) (0, a6, c6, G6) ⟨by show dn + 0 ≤ _; omega, by rw [show looseV1 a51 dn 0 = [] from rfl, List.append_nil]; exact hloose⟩ (fun s hs => hs.tl [] 0) (fun q hq => ?_)
      obtain ⟨j, a7, c7, G7⟩ := q
      obtain ⟨hj, hG7⟩ := hq
      simp only at hj hG7
      dsimp only
      refine WX.seq ?_
      refine WX.seq ?_
      refine WX.region rfl ?_
      refine WXL.move Met.none rfl ?_
      refine WXL.fieldAddr (off' := 0) Met.none rfl Try.underlying94 rfl sz23 rfl ?_
      first | refine WXL.ld Met.none rfl agg23 ?_ | refine WXL.ldS Met.none rfl agg23 ?_
      refine WXL.len Met.none rfl Try.underlying23 ?_
      refine WXL.bin Met.none rfl rfl rfl ?_
      refine WXL.nil ?_
      refine Fin.then_normal ?_
      refine WX.cond rfl (fun hc2 => ?_) (fun hc2 => ?_)
      · try simp only [cnd] at hc2
        refine WX.skip ?_
        refine Fin.then_normal ?_
        refine WX.seq ?_
        refine WX.block ?_
        obtain ⟨b51, rfl, hG51e, hcl51⟩ : ∃ b51, a51 = some ⟨b51, 0, none⟩ ∧ G51 = [(b51, ⟨1, false, cb.map B8⟩)] ∧ (cb.map B8).length = cb.length * 1 := by
          rcases hG51 with ⟨_, h0, _⟩ | h
          · omega
          · exact h
        refine WX.region rfl ?_
        refine WXL.move Met.none rfl ?_
        refine WXL.fieldAddr (off' := 0) Met.none rfl Try.underlying94 rfl sz23 rfl ?_
        first | refine WXL.ld Met.none rfl agg23 ?_ | refine WXL.ldS Met.none rfl agg23 ?_
        refine WXL.move Met.none rfl ?_
        first | refine WXL.ix Met.none rfl rfl elem23 sz5 ?_ | refine WXL.ixS Met.none rfl rfl elem23 sz5 ?_
        refine WXL.buildSlice (c := [_]) Met.none rfl elem97 sz99 zero99 (by decide) (by decide) rfl rfl rfl rfl (fun b67 => ?_)
        refine WXL.apG [_, _, _, _] Met.none rfl rfl isrow97 elem97 sz99 by99 zero99 (Src.lit (cs := [_])) (fun a68 c68 G68 hG68 => ?_)
        refine WXL.assign Met.none rfl ?_
        refine WXL.nil ?_
        refine Fin.block_normal ?_
        refine Fin.then_normal ?_
        refine WX.region rfl ?_
        refine WXL.move Met.none rfl ?_
        refine WXL.bin Met.none rfl rfl bvA ?_
        refine WXL.assign Met.none rfl ?_
        refine WXL.nil ?_
        refine Fin.loop_next (j + 1, a68, c68, G68) ⟨by simp only; omega, ?_⟩ (by simp only; omega) (fun s hs => hs.tl [] 1)
        simp only
        rw [looseV1_succ, ← List.append_assoc, show ePtr (some ⟨b51, 0, none⟩) (dn + j) = Ptr b51 (dn + j) from by unfold ePtr; simp]
        exact hG68
      · try simp only [cnd] at hc2
        refine WX.exit ?_
        refine Fin.then_exit ?_
        refine Fin.loop_exit ?_
        refine Fin.block_hit rfl ?_
        refine Fin.then_normal ?_
        have hjl : j = cb.length - dn := by omega
        obtain ⟨o, ho⟩ : ∃ o : OwnF, o = ⟨n, cutF keep i f, a51, c51, G51⟩ := ⟨_, rfl⟩
        have hof : o.f.bs = cb ∧ o.f.d = f.d := by rw [ho]; exact ⟨hcb.symm, rfl⟩
        have hoG : Grow 1 o.a o.f.bs.length o.c (o.f.bs.map B8) o.G := by rw [hof.1, ho]; exact hG51
        have hlo : looseN o.f = j := by
          unfold looseN
          rw [hof.1, hof.2, hdn, Int.toNat_natCast, hjl]
        have hlv : looseV (ow ++ [o]) = looseV ow ++ looseV1 a51 dn j := by
          rw [looseV_app]
          show looseV ow ++ (looseV1 o.a o.f.d.toNat (looseN o.f) ++ []) = _
          rw [List.append_nil, hlo, hof.2, hdn, Int.toNat_natCast, ho]
        have hro : rowsO (ow ++ [o]) = rowsO ow ++ G51 := by
          rw [rowsO_app]
          show rowsO ow ++ (o.G ++ []) = _
          rw [List.append_nil, ho]
        have hlvl : (looseV ow).length + j = (looseV (ow ++ [o])).length := by rw [hlv, List.length_append, looseV1_len]
        have hcut : cutAt D0 keep i = (n, o.f) := by
          unfold cutAt
          rw [← hn, ← hfn, ho]
        have hfile : FileOk (rowsO (ow ++ [o]) ++ R0) (fileV a51 cb.length c51 f.d) o.f := ⟨a51, c51, by rw [hof.1, hof.2], by
          rw [hro, List.append_assoc, hof.1]
          exact Rowy.app hG51.rowy, fun q => (hG51.nil0 q).1, by
          rw [hof.1, ← htk]
          exact take_bytes hfB⟩
        have hcbl : o.f.bs.length = cb.length := by rw [hof.1]
        have hnk : (mx.kv.map (·.1)).Nodup := by rw [← keys_es]; exact hDi.keys
        have hDn : DkI (rowsO (ow ++ [o]) ++ R0) { D with fs := setF D.fs n o.f } (setX mx n (fileV a51 cb.length c51 f.d) cb.length) := by
          have h0 : DkI (rowsO (ow ++ [o]) ++ R0) D mx := ⟨⟨by
            rw [hro, List.append_assoc]
            exact hDi.di.rel.mid, hDi.di.nd⟩, hDi.ok, hDi.room, hDi.left, hDi.used⟩
          have h1 := h0.set n hfile hn64 ⟨by rw [hof.2]; omega, by rw [hof.1, hof.2]; omega⟩ (by
            have := hDi.used
            rw [hcbl, ← hf]
            omega)
          rw [hcbl] at h1
          exact h1
        refine WX.region rfl ?_
        refine WXL.move Met.none rfl ?_
        refine WXL.move Met.none rfl ?_
        refine WXL.ldN (vs := [_, _]) Met.none rfl agg94 sz94 ?_
        refine WXL.cl (O1 := dkO d bm D mx ((b9, ⟨0, false, [.slice a51 cb.length c51, I (dn : Int)]⟩) :: (G7 ++ ((rowsO ow ++ G51) ++ B)))) Met.none rfl (fnOk_of Try.func58 (by decide +kernel)) rfl sub_ (set_ok _ d bm D mx n a51 cb.length c51 (dn : Int)) (fun v O' hp => ?_)
        obtain rfl := hp
        refine WXL.nil ?_
        refine Fin.block_normal ?_
        refine Fin.then_normal ?_
        refine WX.region rfl ?_
        refine WXL.bin Met.none rfl rfl bvA ?_
        refine WXL.move Met.none rfl ?_
        refine WXL.nil ?_
        rw [← hdn]
        refine Fin.loop_next (⟨i + 1, ow ++ [o], { D with fs := setF D.fs n o.f }, setX mx n (fileV a51 cb.length c51 f.d) cb.length, a7, c7, G7⟩ : CrS) ⟨by simp only; omega, ?_, ?_, ?_, ?_, ?_, hDn, hsame, ?_⟩ (by simp only; omega) ?_
        · simp only
          rw [List.map_append, how, cuts_succ, hcut, ho]
          rfl
        · intro o' h'
          rcases List.mem_append.1 h' with q | q
          · exact hgr o' q
          · rw [List.mem_singleton] at q; subst q; exact ⟨hoG, by rw [hof.1, ← htk]; exact take_bytes hfB⟩
        · intro o' h' hne
          simp only
          rw [setX_get hnk]
          rcases List.mem_append.1 h' with q | q
          · rw [if_neg (fun e => hnot (by rw [← how, List.map_map]; exact List.mem_map.2 ⟨o', q, e⟩))]
            exact hval o' q hne
          · rw [List.mem_singleton] at q
            subst q
            rw [if_pos (by rw [ho]), if_neg (fun e => hne (by rw [hof.1]; exact List.length_eq_zero_iff.1 e)), hof.1, hof.2]
            rw [ho]
        · intro m
          simp only
          rw [get_set' hDi.di.nd, cuts_succ, mget_app, hcut]
          by_cases hm : m = n
          · subst hm
            rw [if_pos rfl, mget_none hnot]
            simp only [mget, if_pos, Option.or, Option.getD_some]
            split
            · rename_i hb0
              have h5 : o.f.d = 0 := by
                rw [hof.1] at hb0
                rw [hof.2]
                rw [hb0] at hcl
                simp at hcl
                omega
              cases hof' : o.f with
              | mk b' d' => rw [hof'] at hb0 h5; simp only at hb0 h5; rw [hb0, h5]
            · rfl
          · rw [if_neg hm, hget m]
            simp only [mget, if_neg hm]
            cases mget m (cuts D0 keep i) <;> rfl
        · intro e he
          rcases mem_set he with q | q
          · rw [q]; exact hnin
          · exact hkeys e q
        · simp only
          rw [← hlvl, hlv]
          exact hG7
        · simp only
          rw [hro, ← hlvl]
          exact (fun s hs => hs.tl [0, 1] 3)
  · try simp only [cnd] at hc0
    refine WX.exit ?_
    refine Fin.then_exit ?_
    refine Fin.loop_exit ?_
    refine Fin.block_hit rfl ?_
    refine Fin.then_normal ?_
    refine WX.seq ?_
    refine WX.seq ?_
    have hie : i = (fnos D0).length := by omega
    have hC : CrI D0 keep R0 ⟨i, ow, D, mx, a6, c6, G6⟩ := ⟨hin, how, hgr, hval, hget, hkeys, hDi, hsame, hloose⟩
    have hcg := crash_get hC hie
    have hls : (looseV ow).length = looseSum (cuts D0 keep (fnos D0).length) := by rw [looseV_len, how, hie]
    have hlb : (looseV ow).length ≤ 1000000000000 := by omega
    refine WX.region rfl ?_
    refine WXL.move Met.none rfl ?_
    refine WXL.len Met.none rfl Try.underlying97 ?_
    refine WXL.bin Met.none rfl rfl bvM ?_
    refine WXL.assign Met.none rfl ?_
    refine WXL.nil ?_
    refine Fin.then_normal ?_
    refine WX.seq ?_
    refine WX.region rfl ?_
    refine WXL.move Met.none rfl ?_
    refine WXL.bin Met.none rfl rfl rfl ?_
    refine WXL.move Met.none rfl ?_
    refine WXL.split (d := 79) rfl (fun hg79 => ?_) (fun hg79 => ?_)
    · try simp only [cnd] at hg79
      refine WXL.move (Met.some rfl rfl rfl) rfl ?_
      refine WXL.bin (Met.some rfl rfl rfl) rfl rfl rfl ?_
      refine WXL.pick_t Met.none rfl rfl ?_
      refine WXL.nil ?_
      refine Fin.then_normal ?_
      refine WX.cond rfl (fun hc3 => ?_) (fun hc3 => ?_)
      · try simp only [cnd] at hc3
        refine WX.seq ?_
        obtain ⟨fl, hfle⟩ : ∃ fl : Nat, flip = (fl : Int) := ⟨flip.toNat, by omega⟩
        obtain ⟨q, hq⟩ : ∃ q, q = fl % (8 * (looseV ow).length) := ⟨_, rfl⟩
        have hqm : flip.tmod (8 * ((looseV ow).length : Int)) = (q : Int) := by
          rw [hfle, Int.tmod_eq_emod_of_nonneg (by omega), hq, Int.natCast_emod, Int.natCast_mul]
          rfl
        have hqlt : q < 8 * (looseV ow).length := by rw [hq]; exact Nat.mod_lt _ (by omega)
        have hq8 : (q : Int).tdiv 8 = ((q / 8 : Nat) : Int) := by rw [Int.tdiv_eq_ediv_of_nonneg (by omega)]; omega
        have hq8m : (q : Int).tmod 8 = ((q % 8 : Nat) : Int) := by rw [Int.tmod_eq_emod_of_nonneg (by omega)]; omega
        obtain ⟨ow1, o, ow2, r, how2, hr, hpv, hfc⟩ := flip_split (7 - q % 8) ow (q / 8) (by rw [← looseV_len]; omega)
        have hom : o ∈ ow := by rw [how2]; simp
        obtain ⟨hoG, hoB⟩ := hgr o hom
        have hrl : o.f.d.toNat + r < o.f.bs.length := by unfold looseN at hr; omega
        have hone : o.f.bs ≠ [] := fun e => by rw [e] at hrl; simp at hrl
        obtain ⟨b, hoa, hoGe⟩ : ∃ b, o.a = some ⟨b, 0, none⟩ ∧ o.G = [(b, ⟨1, false, o.f.bs.map B8⟩)] := by
          rcases hoG with ⟨_, h0, _⟩ | ⟨b, h1, h2, _⟩
          · omega
          · exact ⟨b, h1, h2⟩
        obtain ⟨z, hz⟩ : ∃ z, z = o.f.d.toNat + r := ⟨_, rfl⟩
        rw [← hz] at hrl hpv hfc
        rw [hoa, show ePtr (some ⟨b, 0, none⟩) z = Ptr b z from by unfold ePtr; simp] at hpv
        have hrs : rowsO ow = rowsO ow1 ++ ([(b, ⟨1, false, o.f.bs.map B8⟩)] ++ rowsO ow2) := by rw [how2, rowsO_app, rowsO_cons, hoGe]
        rw [hrs]
        refine WX.re (O' := (b, ⟨1, false, o.f.bs.map B8⟩) :: dkO d bm D mx (G6 ++ ((rowsO ow1 ++ rowsO ow2) ++ B))) ?_
        refine WX.region rfl ?_
        refine WXL.move Met.none rfl ?_
        refine WXL.move Met.none rfl ?_
        refine WXL.rem Met.none rfl rfl (by omega) ?_
        rw [hqm]
        refine WXL.assign Met.none rfl ?_
        refine WXL.nil ?_
        refine Fin.then_normal ?_
        refine WX.draw rfl ?_
        refine WXL.move Met.none rfl ?_
        refine WXL.move Met.none rfl ?_
        refine WXL.qu Met.none rfl rfl ?_ (hr := (show IntKind.wrap .i64 ((q : Int).tdiv 8) = ((q / 8 : Nat) : Int) from by rw [hq8]; exact wrap_i64 (by omega) (by omega)))
        first | refine WXL.ix Met.none rfl rfl elem97 sz99 ?_ | refine WXL.ixS Met.none rfl rfl elem97 sz99 ?_
        first | refine WXL.ld Met.none rfl agg99 ?_ (hv := hpv) | refine WXL.ldS Met.none rfl agg99 ?_ (hv := hpv)
        refine WXL.nilCheck Met.none rfl ?_
        first | refine WXL.ld Met.none rfl agg5 ?_ | refine WXL.ldS Met.none rfl agg5 ?_
        refine WXL.move Met.none rfl ?_
        refine WXL.rem Met.none rfl rfl (by omega) ?_
        rw [hq8m]
        refine WXL.bin Met.none rfl rfl bvS ?_
        refine WXL.shl Met.none rfl rfl (by omega) ?_
        rw [show ((7 : Int) - ((q % 8 : Nat) : Int)).toNat = 7 - q % 8 from by omega]
        refine WXL.bin Met.none rfl rfl (show _ = some (B8 (flipB (nth o.f.bs z) (7 - q % 8))) from rfl) ?_
        refine WXL.nilCheck Met.none rfl ?_
        refine WXL.st (vs := [_]) (j := 0) Met.none rfl rfl rfl sz5 ?_ (hj := rfl)
        refine WXL.nil ?_
        refine Fin.then_normal ?_
        refine WX.seq ?_
        first
        | obtain ⟨f2, hf2⟩ : ∃ f2 : Fi, f2 = ⟨o.f.bs.set z (flipB (nth o.f.bs z) (7 - q % 8)), o.f.d⟩ := ⟨_, rfl⟩
          have hz8 := flipB_range (nth o.f.bs z) (7 - q % 8)
          obtain ⟨hDf, hgf, hgc⟩ := crash_flip hC hie hnd (f2 := f2) how2 hoa hone (by rw [hf2]; exact List.length_set) (by rw [hf2]) (by
            rw [hf2]
            intro y hy
            rcases List.mem_or_eq_of_mem_set hy with p | p
            · exact hoB y p
            · rw [p]; exact hz8)
          have hcc : crashC D0 keep flip = ow1.map OwnF.nf ++ (o.n, f2) :: ow2.map OwnF.nf := by
            unfold crashC
            simp only
            rw [← hls, if_pos (by omega), show flip.toNat = fl by omega, ← hq, hf2, ← hfc, how, hie]
          obtain ⟨Df, hDfe⟩ : ∃ Df : Dk, Df = { D with fs := mput o.n f2 D.fs } := ⟨_, rfl⟩
          obtain ⟨NN, hNN⟩ : ∃ NN, NN = rowsO ow1 ++ ((b, ⟨1, false, f2.bs.map B8⟩) :: rowsO ow2) := ⟨_, rfl⟩
          have hDk : DkI (NN ++ R0) Df mx := by rw [hNN, hDfe]; exact hDf
          have hgg : ∀ m, getF Df.fs m = (mget m (crashC D0 keep flip)).getD ⟨[], 0⟩ := fun m => by rw [hDfe, hcc]; exact (hgf m).trans (hgc m).symm
          have hrm : Df.room = D0.room := by rw [hDfe]; exact hsame.1
          refine WX.re (O' := dkO d bm Df mx (NN ++ R)) ?_ (by rw [hDfe, hNN, hB, hf2]; exact sub_)
        | obtain ⟨Df, hDfe⟩ : ∃ Df : Dk, Df = D := ⟨_, rfl⟩
          obtain ⟨NN, hNN⟩ : ∃ NN, NN = rowsO ow := ⟨_, rfl⟩
          have hDk : DkI (NN ++ R0) Df mx := by rw [hNN, hDfe]; exact hDi
          have hgg : ∀ m, getF Df.fs m = (mget m (crashC D0 keep flip)).getD ⟨[], 0⟩ := fun m => by
            have hcc : crashC D0 keep flip = cuts D0 keep (fnos D0).length := by
              unfold crashC
              simp only
              rw [← hls, if_neg (by omega)]
            rw [hcc, hDfe]
            exact hcg m
          have hrm : Df.room = D0.room := by rw [hDfe]; exact hsame.1
          refine WX.re (O' := dkO d bm Df mx (NN ++ R)) ?_ (by rw [hDfe, hNN, hB]; exact sub_)
        refine WX.region rfl ?_
        refine WXL.move Met.none rfl ?_
        refine WXL.cl (O1 := _) Met.none rfl (fnOk_of Try.func61 (by decide +kernel)) rfl (fun _ h => h) (harden_ok _ d bm Df mx hDk) (fun v O' hp => ?_)
        obtain ⟨rfl, hO⟩ := hp
        subst O'
        refine WXL.nil ?_
        refine Fin.then_normal ?_
        refine WX.region rfl ?_
        refine WXL.move Met.none rfl ?_
        refine WXL.move Met.none rfl ?_
        refine WXL.nilCheck Met.none rfl ?_
        first | refine WXL.fieldAddr Met.none rfl Try.underlying92 rfl sz4 rfl ?_ | refine WXL.faS Met.none rfl Try.underlying92 rfl sz4 ?_
        refine WXL.st (vs := [_]) (j := 0) Met.none rfl rfl rfl sz4 ?_ (hj := rfl)
        refine WXL.nilCheck Met.none rfl ?_
        first | refine WXL.fieldAddr Met.none rfl Try.underlying92 rfl sz4 rfl ?_ | refine WXL.faS Met.none rfl Try.underlying92 rfl sz4 ?_
        refine WXL.st (vs := [_]) (j := 0) Met.none rfl rfl rfl sz4 ?_ (hj := rfl)
        refine WXL.nil ?_
        exact Fin.result (O' := dkO d bm ⟨Df.room, false, false, Df.left, hardAll Df.fs⟩ mx.hard (NN ++ R)) (.inl rfl) rfl rfl drop_ ⟨mx.hard, NN, ⟨Df.room, false, false, Df.left, hardAll Df.fs⟩, rfl, ⟨hDk.hard.di, hDk.hard.ok, hDk.hard.room, (fun e => by cases e), hDk.hard.used⟩, hrm, rfl, rfl, fun m => by
          rw [get_hardE, hgg]⟩
      · try simp only [cnd] at hc3
        refine WX.skip ?_
        refine Fin.then_normal ?_
        refine WX.seq ?_
        first
        | obtain ⟨f2, hf2⟩ : ∃ f2 : Fi, f2 = ⟨o.f.bs.set z (flipB (nth o.f.bs z) (7 - q % 8)), o.f.d⟩ := ⟨_, rfl⟩
          have hz8 := flipB_range (nth o.f.bs z) (7 - q % 8)
          obtain ⟨hDf, hgf, hgc⟩ := crash_flip hC hie hnd (f2 := f2) how2 hoa hone (by rw [hf2]; exact List.length_set) (by rw [hf2]) (by
            rw [hf2]
            intro y hy
            rcases List.mem_or_eq_of_mem_set hy with p | p
            · exact hoB y p
            · rw [p]; exact hz8)
          have hcc : crashC D0 keep flip = ow1.map OwnF.nf ++ (o.n, f2) :: ow2.map OwnF.nf := by
            unfold crashC
            simp only
            rw [← hls, if_pos (by omega), show flip.toNat = fl by omega, ← hq, hf2, ← hfc, how, hie]
          obtain ⟨Df, hDfe⟩ : ∃ Df : Dk, Df = { D with fs := mput o.n f2 D.fs } := ⟨_, rfl⟩
          obtain ⟨NN, hNN⟩ : ∃ NN, NN = rowsO ow1 ++ ((b, ⟨1, false, f2.bs.map B8⟩) :: rowsO ow2) := ⟨_, rfl⟩
          have hDk : DkI (NN ++ R0) Df mx := by rw [hNN, hDfe]; exact hDf
          have hgg : ∀ m, getF Df.fs m = (mget m (crashC D0 keep flip)).getD ⟨[], 0⟩ := fun m => by rw [hDfe, hcc]; exact (hgf m).trans (hgc m).symm
          have hrm : Df.room = D0.room := by rw [hDfe]; exact hsame.1
          refine WX.re (O' := dkO d bm Df mx (NN ++ R)) ?_ (by rw [hDfe, hNN, hB, hf2]; exact sub_)
        | obtain ⟨Df, hDfe⟩ : ∃ Df : Dk, Df = D := ⟨_, rfl⟩
          obtain ⟨NN, hNN⟩ : ∃ NN, NN = rowsO ow := ⟨_, rfl⟩
          have hDk : DkI (NN ++ R0) Df mx := by rw [hNN, hDfe]; exact hDi
          have hgg : ∀ m, getF Df.fs m = (mget m (crashC D0 keep flip)).getD ⟨[], 0⟩ := fun m => by
            have hcc : crashC D0 keep flip = cuts D0 keep (fnos D0).length := by
              unfold crashC
              simp only
              rw [← hls, if_neg (by omega)]
            rw [hcc, hDfe]
            exact hcg m
          have hrm : Df.room = D0.room := by rw [hDfe]; exact hsame.1
          refine WX.re (O' := dkO d bm Df mx (NN ++ R)) ?_ (by rw [hDfe, hNN, hB]; exact sub_)
        refine WX.region rfl ?_
        refine WXL.move Met.none rfl ?_
        refine WXL.cl (O1 := _) Met.none rfl (fnOk_of Try.func61 (by decide +kernel)) rfl (fun _ h => h) (harden_ok _ d bm Df mx hDk) (fun v O' hp => ?_)
        obtain ⟨rfl, hO⟩ := hp
        subst O'
        refine WXL.nil ?_
        refine Fin.then_normal ?_
        refine WX.region rfl ?_
        refine WXL.move Met.none rfl ?_
        refine WXL.move Met.none rfl ?_
        refine WXL.nilCheck Met.none rfl ?_
        first | refine WXL.fieldAddr Met.none rfl Try.underlying92 rfl sz4 rfl ?_ | refine WXL.faS Met.none rfl Try.underlying92 rfl sz4 ?_
        refine WXL.st (vs := [_]) (j := 0) Met.none rfl rfl rfl sz4 ?_ (hj := rfl)
        refine WXL.nilCheck Met.none rfl ?_
        first | refine WXL.fieldAddr Met.none rfl Try.underlying92 rfl sz4 rfl ?_ | refine WXL.faS Met.none rfl Try.underlying92 rfl sz4 ?_
        refine WXL.st (vs := [_]) (j := 0) Met.none rfl rfl rfl sz4 ?_ (hj := rfl)
        refine WXL.nil ?_
        exact Fin.result (O' := dkO d bm ⟨Df.room, false, false, Df.left, hardAll Df.fs⟩ mx.hard (NN ++ R)) (.inl rfl) rfl rfl drop_ ⟨mx.hard, NN, ⟨Df.room, false, false, Df.left, hardAll Df.fs⟩, rfl, ⟨hDk.hard.di, hDk.hard.ok, hDk.hard.room, (fun e => by cases e), hDk.hard.used⟩, hrm, rfl, rfl, fun m => by
          rw [get_hardE, hgg]⟩
    · try simp only [cnd] at hg79
      refine WXL.miss (j := 2) (d := 79) rfl rfl rfl ?_
      refine WXL.miss (j := 2) (d := 79) rfl rfl rfl ?_
      refine WXL.pick_f Met.none rfl rfl ?_
      refine WXL.nil ?_
      refine Fin.then_normal ?_
      refine WX.cond rfl (fun hc3 => nomatch hc3) (fun hc3 => ?_)
      refine WX.skip ?_
      refine Fin.then_normal ?_
      refine WX.seq ?_
      first
      | obtain ⟨f2, hf2⟩ : ∃ f2 : Fi, f2 = ⟨o.f.bs.set z (flipB (nth o.f.bs z) (7 - q % 8)), o.f.d⟩ := ⟨_, rfl⟩
        have hz8 := flipB_range (nth o.f.bs z) (7 - q % 8)
        obtain ⟨hDf, hgf, hgc⟩ := crash_flip hC hie hnd (f2 := f2) how2 hoa hone (by rw [hf2]; exact List.length_set) (by rw [hf2]) (by
          rw [hf2]
          intro y hy
          rcases List.mem_or_eq_of_mem_set hy with p | p
          · exact hoB y p
          · rw [p]; exact hz8)
        have hcc : crashC D0 keep flip = ow1.map OwnF.nf ++ (o.n, f2) :: ow2.map OwnF.nf := by
          unfold crashC
          simp only
          rw [← hls, if_pos (by omega), show flip.toNat = fl by omega, ← hq, hf2, ← hfc, how, hie]
        obtain ⟨Df, hDfe⟩ : ∃ Df : Dk, Df = { D with fs := mput o.n f2 D.fs } := ⟨_, rfl⟩
        obtain ⟨NN, hNN⟩ : ∃ NN, NN = rowsO ow1 ++ ((b, ⟨1, false, f2.bs.map B8⟩) :: rowsO ow2) := ⟨_, rfl⟩
        have hDk : DkI (NN ++ R0) Df mx := by rw [hNN, hDfe]; exact hDf
        have hgg : ∀ m, getF Df.fs m = (mget m (crashC D0 keep flip)).getD ⟨[], 0⟩ := fun m => by rw [hDfe, hcc]; exact (hgf m).trans (hgc m).symm
        have hrm : Df.room = D0.room := by rw [hDfe]; exact hsame.1
        refine WX.re (O' := dkO d bm Df mx (NN ++ R)) ?_ (by rw [hDfe, hNN, hB, hf2]; exact sub_)
      | obtain ⟨Df, hDfe⟩ : ∃ Df : Dk, Df = D := ⟨_, rfl⟩
        obtain ⟨NN, hNN⟩ : ∃ NN, NN = rowsO ow := ⟨_, rfl⟩
        have hDk : DkI (NN ++ R0) Df mx := by rw [hNN, hDfe]; exact hDi
        have hgg : ∀ m, getF Df.fs m = (mget m (crashC D0 keep flip)).getD ⟨[], 0⟩ := fun m => by
          have hcc : crashC D0 keep flip = cuts D0 keep (fnos D0).length := by
            unfold crashC
            simp only
            rw [← hls, if_neg (by omega)]
          rw [hcc, hDfe]
          exact hcg m
        have hrm : Df.room = D0.room := by rw [hDfe]; exact hsame.1
        refine WX.re (O' := dkO d bm Df mx (NN ++ R)) ?_ (by rw [hDfe, hNN, hB]; exact sub_)
      refine WX.region rfl ?_
      refine WXL.move Met.none rfl ?_
      refine WXL.cl (O1 := _) Met.none rfl (fnOk_of Try.func61 (by decide +kernel)) rfl (fun _ h => h) (harden_ok _ d bm Df mx hDk) (fun v O' hp => ?_)
      obtain ⟨rfl, hO⟩ := hp
      subst O'
      refine WXL.nil ?_
      refine Fin.then_normal ?_
      refine WX.region rfl ?_
      refine WXL.move Met.none rfl ?_
      refine WXL.move Met.none rfl ?_
      refine WXL.nilCheck Met.none rfl ?_
      first | refine WXL.fieldAddr Met.none rfl Try.underlying92 rfl sz4 rfl ?_ | refine WXL.faS Met.none rfl Try.underlying92 rfl sz4 ?_
      refine WXL.st (vs := [_]) (j := 0) Met.none rfl rfl rfl sz4 ?_ (hj := rfl)
      refine WXL.nilCheck Met.none rfl ?_
      first | refine WXL.fieldAddr Met.none rfl Try.underlying92 rfl sz4 rfl ?_ | refine WXL.faS Met.none rfl Try.underlying92 rfl sz4 ?_
      refine WXL.st (vs := [_]) (j := 0) Met.none rfl rfl rfl sz4 ?_ (hj := rfl)
      refine WXL.nil ?_
      exact Fin.result (O' := dkO d bm ⟨Df.room, false, false, Df.left, hardAll Df.fs⟩ mx.hard (NN ++ R)) (.inl rfl) rfl rfl drop_ ⟨mx.hard, NN, ⟨Df.room, false, false, Df.left, hardAll Df.fs⟩, rfl, ⟨hDk.hard.di, hDk.hard.ok, hDk.hard.room, (fun e => by cases e), hDk.hard.used⟩, hrm, rfl, rfl, fun m => by
        rw [get_hardE, hgg]⟩

end Go.Proofs.Ythekokdpplobhaa.Eng

set_option linter.unusedVariables false
set_option linter.unusedSimpArgs false
namespace Go.Proofs.Ythekokdpplobhaa.Eng

theorem diskAppend_ok (R : Objs) {R0 : Objs} (d bm : Nat) (D : Dk) (mx : MapX) (n : Int) (b : List Int) (ab : Option Addr) (cb : Nat) (hD : DkI R0 D mx) (hi : ∀ g, Sat g R → Sat g R0) (hb : Src R 1 (.slice ab b.length cb) b.length (b.map B8)) (hBb : Bytes b) :
    Spec Try.prog false 35 #[Ptr d 0, I n, .slice ab b.length cb] (dkO d bm D mx R) fun v O' => ∃ mx' N, v = I (appendD D n b).1 ∧ O' = dkO d bm (appendD D n b).2 mx' (N ++ R) ∧ DkI (N ++ R0) (appendD D n b).2 mx' := by
  obtain ⟨fa, fc, hfv, hrow0, hnil, hB⟩ := hD.di.get n
  have hrow := hrow0.inc hi
  have hlen := hD.get_len n
  have hu := hD.used
  have hr := hD.room
  have hn := used_nn D.fs
  refine Spec.enter (args := [_, _, _]) (m := 47) Try.func35 rfl rfl (by decide +kernel) fun h0 => ?_
  refine WX.seq ?_
  refine WX.region rfl ?_
  refine WXL.assign Met.none rfl ?_
  refine WXL.nil ?_
  refine Fin.then_normal ?_
  refine WX.seq ?_
  refine WX.block ?_
  refine WX.seq ?_
  refine WX.region rfl ?_
  refine WXL.move Met.none rfl ?_
  refine WXL.cl (O1 := _) Met.none rfl (fnOk_of Try.func57 (by decide +kernel)) rfl (fun _ h => h) (exists_ok _ n) (fun v O' hp => ?_)
  obtain ⟨rfl, hO⟩ := hp
  subst O'
  refine WXL.not Met.none rfl ?_
  refine WXL.assign Met.none rfl ?_
  refine WXL.nil ?_
  refine Fin.then_normal ?_
  refine WX.cond rfl (fun hc0 => ?_) (fun hc0 => ?_)
  · try simp only [cnd] at hc0
    refine WX.seq ?_
    refine WX.region rfl ?_
    refine WXL.assign Met.none rfl ?_
    refine WXL.nil ?_
    refine Fin.then_normal ?_
    refine WX.ret ?_
    refine Fin.block_ret ?_
    refine Fin.then_ret ?_
    first
    | exact Fin.result (O' := dkO d bm D mx ([] ++ R)) (.inr rfl) rfl rfl drop_ (by unfold appendD; rw [if_pos (by omega)]; exact ⟨mx, [], rfl, rfl, hD⟩)
    | exact Fin.result (O' := dkO d bm D mx ([] ++ R)) (.inr rfl) rfl rfl drop_ (by unfold appendD; rw [if_neg (by omega), if_pos (by assumption)]; exact ⟨mx, [], rfl, rfl, hD⟩)
    | exact Fin.result (O' := dkO d bm D mx ([] ++ R)) (.inr rfl) rfl rfl drop_ (by unfold appendD; rw [if_neg (by omega), if_neg (by simp [hc1]), if_pos (by omega)]; exact ⟨mx, [], rfl, rfl, hD⟩)
    | exact Fin.result (O' := dkO d bm (stepD (appD1 D n b)).2 _ (G38 ++ R)) (.inr rfl) rfl rfl drop_ (by unfold appendD; rw [if_neg (by omega), if_neg (by simp [hc1]), if_neg (by omega), if_neg (by simpa using hc3)]; exact ⟨_, G38, rfl, rfl, hs.step⟩)
    | exact Fin.result (O' := dkO d bm (stepD (appD1 D n b)).2 _ (G38 ++ R)) (.inr rfl) rfl rfl drop_ (by unfold appendD; rw [if_neg (by omega), if_neg (by simp [hc1]), if_neg (by omega), if_pos (by simpa using hc3)]; exact ⟨_, G38, rfl, rfl, hs.step⟩)
  · try simp only [cnd] at hc0
    refine WX.seq ?_
    refine WX.region rfl ?_
    refine WXL.move Met.none rfl ?_
    refine WXL.nilCheck Met.none rfl ?_
    first | refine WXL.fieldAddr Met.none rfl Try.underlying92 rfl sz4 rfl ?_ | refine WXL.faS Met.none rfl Try.underlying92 rfl sz4 ?_
    first | refine WXL.ld Met.none rfl agg4 ?_ | refine WXL.ldS Met.none rfl agg4 ?_
    refine WXL.assign Met.none rfl ?_
    refine WXL.nil ?_
    refine Fin.then_normal ?_
    refine WX.cond rfl (fun hc1 => ?_) (fun hc1 => ?_)
    · try simp only [cnd] at hc1
      refine WX.seq ?_
      refine WX.region rfl ?_
      refine WXL.assign Met.none rfl ?_
      refine WXL.nil ?_
      refine Fin.then_normal ?_
      refine WX.ret ?_
      refine Fin.block_ret ?_
      refine Fin.then_ret ?_
      first
      | exact Fin.result (O' := dkO d bm D mx ([] ++ R)) (.inr rfl) rfl rfl drop_ (by unfold appendD; rw [if_pos (by omega)]; exact ⟨mx, [], rfl, rfl, hD⟩)
      | exact Fin.result (O' := dkO d bm D mx ([] ++ R)) (.inr rfl) rfl rfl drop_ (by unfold appendD; rw [if_neg (by omega), if_pos (by assumption)]; exact ⟨mx, [], rfl, rfl, hD⟩)
      | exact Fin.result (O' := dkO d bm D mx ([] ++ R)) (.inr rfl) rfl rfl drop_ (by unfold appendD; rw [if_neg (by omega), if_neg (by simp [hc1]), if_pos (by omega)]; exact ⟨mx, [], rfl, rfl, hD⟩)
      | exact Fin.result (O' := dkO d bm (stepD (appD1 D n b)).2 _ (G38 ++ R)) (.inr rfl) rfl rfl drop_ (by unfold appendD; rw [if_neg (by omega), if_neg (by simp [hc1]), if_neg (by omega), if_neg (by simpa using hc3)]; exact ⟨_, G38, rfl, rfl, hs.step⟩)
      | exact Fin.result (O' := dkO d bm (stepD (appD1 D n b)).2 _ (G38 ++ R)) (.inr rfl) rfl rfl drop_ (by unfold appendD; rw [if_neg (by omega), if_neg (by simp [hc1]), if_neg (by omega), if_pos (by simpa using hc3)]; exact ⟨_, G38, rfl, rfl, hs.step⟩)
    · try simp only [cnd] at hc1
      refine WX.seq ?_
      refine WX.draw rfl ?_
      refine WXL.move Met.none rfl ?_
      refine WXL.len Met.none rfl Try.underlying23 ?_
      refine WXL.move Met.none rfl ?_
      refine WXL.nilCheck Met.none rfl ?_
      first | refine WXL.fieldAddr Met.none rfl Try.underlying92 rfl sz3 rfl ?_ | refine WXL.faS Met.none rfl Try.underlying92 rfl sz3 ?_
      first | refine WXL.ld Met.none rfl agg3 ?_ | refine WXL.ldS Met.none rfl agg3 ?_
      refine WXL.move Met.none rfl ?_
      refine WXL.cl (O1 := _) Met.none rfl (fnOk_of Try.func31 (by decide +kernel)) rfl (fun _ h => h) (used_ok _ R d bm D mx hD) (fun v O' hp => ?_)
      obtain ⟨rfl, hO⟩ := hp
      subst O'
      refine WXL.bin Met.none rfl rfl bvS ?_
      refine WXL.bin Met.none rfl rfl rfl ?_
      refine WXL.assign Met.none rfl ?_
      refine WXL.nil ?_
      refine Fin.then_normal ?_
      refine WX.cond rfl (fun hc2 => ?_) (fun hc2 => ?_)
      · try simp only [cnd] at hc2
        refine WX.seq ?_
        refine WX.region rfl ?_
        refine WXL.assign Met.none rfl ?_
        refine WXL.nil ?_
        refine Fin.then_normal ?_
        refine WX.ret ?_
        refine Fin.block_ret ?_
        refine Fin.then_ret ?_
        first
        | exact Fin.result (O' := dkO d bm D mx ([] ++ R)) (.inr rfl) rfl rfl drop_ (by unfold appendD; rw [if_pos (by omega)]; exact ⟨mx, [], rfl, rfl, hD⟩)
        | exact Fin.result (O' := dkO d bm D mx ([] ++ R)) (.inr rfl) rfl rfl drop_ (by unfold appendD; rw [if_neg (by omega), if_pos (by assumption)]; exact ⟨mx, [], rfl, rfl, hD⟩)
        | exact Fin.result (O' := dkO d bm D mx ([] ++ R)) (.inr rfl) rfl rfl drop_ (by unfold appendD; rw [if_neg (by omega), if_neg (by simp [hc1]), if_pos (by omega)]; exact ⟨mx, [], rfl, rfl, hD⟩)
        | exact Fin.result (O' := dkO d bm (stepD (appD1 D n b)).2 _ (G38 ++ R)) (.inr rfl) rfl rfl drop_ (by unfold appendD; rw [if_neg (by omega), if_neg (by simp [hc1]), if_neg (by omega), if_neg (by simpa using hc3)]; exact ⟨_, G38, rfl, rfl, hs.step⟩)
        | exact Fin.result (O' := dkO d bm (stepD (appD1 D n b)).2 _ (G38 ++ R)) (.inr rfl) rfl rfl drop_ (by unfold appendD; rw [if_neg (by omega), if_neg (by simp [hc1]), if_neg (by omega), if_pos (by simpa using hc3)]; exact ⟨_, G38, rfl, rfl, hs.step⟩)
      · try simp only [cnd] at hc2
        refine WX.skip ?_
        refine Fin.block_normal ?_
        refine Fin.then_normal ?_
        refine WX.seq ?_
        refine WX.region rfl ?_
        refine WXL.move Met.none rfl ?_
        refine WXL.nilCheck Met.none rfl ?_
        first | refine WXL.fieldAddr Met.none rfl Try.underlying92 rfl sz90 rfl ?_ | refine WXL.faS Met.none rfl Try.underlying92 rfl sz90 ?_
        first | refine WXL.ld Met.none rfl agg90 ?_ | refine WXL.ldS Met.none rfl agg90 ?_
        refine WXL.move Met.none rfl ?_
        refine WXL.lookup Met.none rfl rfl mapT90 zero94 at_ (show _ = fileV fa (getF D.fs n).bs.length fc (getF D.fs n).d from hfv) ?_
        refine WXL.alloc (c := [_, _]) Met.none zero94 rfl (fun b7 => ?_)
        refine WXL.st (vs := [_, _]) (c' := [_, _]) (j := 0) Met.none rfl rfl rfl sz94 ?_ (hj := rfl)
        refine WXL.nil ?_
        refine Fin.then_normal ?_
        refine WX.seq ?_
        refine WX.region rfl ?_
        refine WXL.fieldAddr (off' := 0) Met.none rfl Try.underlying94 rfl sz23 rfl ?_
        first | refine WXL.ld Met.none rfl agg23 ?_ | refine WXL.ldS Met.none rfl agg23 ?_
        refine WXL.cl (O1 := _) Met.none rfl (fnOk_of Try.func46 (by decide +kernel)) rfl (fun _ h => h) (clone_ok _ (getF D.fs n).bs fa fc (by omega) (fun q => by
        have := hrow.nil0 q
        exact List.length_eq_zero_iff.1 this) (Src.cons (Src.cons (Src.cons (hrow.src hnil))))) (fun v O' hp => ?_)
        obtain ⟨a36, c36, G36, rfl, hG36, rfl⟩ := hp
        refine WXL.move Met.none rfl ?_
        refine WXL.apG ([]) Met.none rfl rfl isrow23 elem23 sz5 by5 zero5 (Src.app (Src.cons (Src.cons (Src.cons hb)))) (fun a38 c38 G38 hG38 => ?_) (hm := (by rw [List.length_map]; omega))
        refine WXL.re (O' := (b7, ⟨0, false, [.slice fa (getF D.fs n).bs.length fc, I (getF D.fs n).d]⟩) :: dkO d bm D mx (G38 ++ R)) ?_
        refine WXL.fieldAddr (off' := 0) Met.none rfl Try.underlying94 rfl sz23 rfl ?_
        refine WXL.st (vs := [_]) (c' := [_, _]) (j := 0) Met.none rfl rfl rfl sz23 ?_ (hj := rfl)
        refine WXL.nil ?_
        refine Fin.then_normal ?_
        refine WX.seq ?_
        refine WX.region rfl ?_
        refine WXL.move Met.none rfl ?_
        refine WXL.move Met.none rfl ?_
        refine WXL.ldN (vs := [_, _]) Met.none rfl agg94 sz94 ?_
        refine WXL.cl (O1 := dkO d bm D mx (G38 ++ R)) Met.none rfl (fnOk_of Try.func58 (by decide +kernel)) rfl sub_ (set_ok (G38 ++ R) d bm D mx n a38 ((getF D.fs n).bs.length + b.length) c38 (getF D.fs n).d) (fun v O' hp => ?_)
        obtain rfl := hp
        refine WXL.nil ?_
        refine Fin.then_normal ?_
        refine WX.seq ?_
        refine WX.seq ?_
        have hf : FileOk (G38 ++ R0) (fileV a38 ((getF D.fs n).bs.length + b.length) c38 (getF D.fs n).d) ⟨(getF D.fs n).bs ++ b, (getF D.fs n).d⟩ := by
          have h1 := hG38.rowy (R := R0)
          rw [← List.map_append] at h1
          exact ⟨a38, c38, by rw [List.length_append], by rw [List.length_append]; exact h1, fun q => (hG38.nil0 q).1, fun x hx => by
            rcases List.mem_append.1 hx with q | q
            · exact hB x q
            · exact hBb x q⟩
        have hs : DkI (G38 ++ R0) (appD1 D n b) (setX mx n (fileV a38 ((getF D.fs n).bs.length + b.length) c38 (getF D.fs n).d) ((getF D.fs n).bs.length + b.length)) := by
          have hgd := hD.get_d n
          have := (hD.app (N := G38)).set n hf (by omega) ⟨hgd.1, by simp only [List.length_append]; omega⟩ (by rw [List.length_append]; omega)
          rw [List.length_append] at this
          exact this
        refine WX.region rfl ?_
        refine WXL.move Met.none rfl ?_
        refine WXL.cl (O1 := _) Met.none rfl (fnOk_of Try.func59 (by decide +kernel)) rfl (fun _ h => h) (step_ok (G38 ++ R) d bm (appD1 D n b) (setX mx n (fileV a38 ((getF D.fs n).bs.length + b.length) c38 (getF D.fs n).d) ((getF D.fs n).bs.length + b.length)) hs.left) (fun v O' hp => ?_)
        obtain ⟨rfl, hO⟩ := hp
        subst O'
        refine WXL.not Met.none rfl ?_
        refine WXL.nil ?_
        refine Fin.then_normal ?_
        refine WX.cond rfl (fun hc3 => ?_) (fun hc3 => ?_)
        · try simp only [cnd] at hc3
          refine WX.seq ?_
          refine WX.region rfl ?_
          refine WXL.assign Met.none rfl ?_
          refine WXL.nil ?_
          refine Fin.then_normal ?_
          refine WX.ret ?_
          refine Fin.then_ret ?_
          first
          | exact Fin.result (O' := dkO d bm D mx ([] ++ R)) (.inr rfl) rfl rfl drop_ (by unfold appendD; rw [if_pos (by omega)]; exact ⟨mx, [], rfl, rfl, hD⟩)
          | exact Fin.result (O' := dkO d bm D mx ([] ++ R)) (.inr rfl) rfl rfl drop_ (by unfold appendD; rw [if_neg (by omega), if_pos (by assumption)]; exact ⟨mx, [], rfl, rfl, hD⟩)
          | exact Fin.result (O' := dkO d bm D mx ([] ++ R)) (.inr rfl) rfl rfl drop_ (by unfold appendD; rw [if_neg (by omega), if_neg (by simp [hc1]), if_pos (by omega)]; exact ⟨mx, [], rfl, rfl, hD⟩)
          | exact Fin.result (O' := dkO d bm (stepD (appD1 D n b)).2 _ (G38 ++ R)) (.inr rfl) rfl rfl drop_ (by unfold appendD; rw [if_neg (by omega), if_neg (by simp [hc1]), if_neg (by omega), if_neg (by simpa using hc3)]; exact ⟨_, G38, rfl, rfl, hs.step⟩)
          | exact Fin.result (O' := dkO d bm (stepD (appD1 D n b)).2 _ (G38 ++ R)) (.inr rfl) rfl rfl drop_ (by unfold appendD; rw [if_neg (by omega), if_neg (by simp [hc1]), if_neg (by omega), if_pos (by simpa using hc3)]; exact ⟨_, G38, rfl, rfl, hs.step⟩)
        · try simp only [cnd] at hc3
          refine WX.skip ?_
          refine Fin.then_normal ?_
          refine WX.seq ?_
          refine WX.region rfl ?_
          refine WXL.assign Met.none rfl ?_
          refine WXL.nil ?_
          refine Fin.then_normal ?_
          refine WX.ret ?_
          first
          | exact Fin.result (O' := dkO d bm D mx ([] ++ R)) (.inr rfl) rfl rfl drop_ (by unfold appendD; rw [if_pos (by omega)]; exact ⟨mx, [], rfl, rfl, hD⟩)
          | exact Fin.result (O' := dkO d bm D mx ([] ++ R)) (.inr rfl) rfl rfl drop_ (by unfold appendD; rw [if_neg (by omega), if_pos (by assumption)]; exact ⟨mx, [], rfl, rfl, hD⟩)
          | exact Fin.result (O' := dkO d bm D mx ([] ++ R)) (.inr rfl) rfl rfl drop_ (by unfold appendD; rw [if_neg (by omega), if_neg (by simp [hc1]), if_pos (by omega)]; exact ⟨mx, [], rfl, rfl, hD⟩)
          | exact Fin.result (O' := dkO d bm (stepD (appD1 D n b)).2 _ (G38 ++ R)) (.inr rfl) rfl rfl drop_ (by unfold appendD; rw [if_neg (by omega), if_neg (by simp [hc1]), if_neg (by omega), if_neg (by simpa using hc3)]; exact ⟨_, G38, rfl, rfl, hs.step⟩)
          | exact Fin.result (O' := dkO d bm (stepD (appD1 D n b)).2 _ (G38 ++ R)) (.inr rfl) rfl rfl drop_ (by unfold appendD; rw [if_neg (by omega), if_neg (by simp [hc1]), if_neg (by omega), if_pos (by simpa using hc3)]; exact ⟨_, G38, rfl, rfl, hs.step⟩)

end Go.Proofs.Ythekokdpplobhaa.Eng

set_option linter.unusedVariables false
set_option linter.unusedSimpArgs false
namespace Go.Proofs.Ythekokdpplobhaa.Eng

/-- What Open comes to: the error, the disk then. The records are those at the beginning of the file. -/
def openT (D : Dk) (file : Int) : Int × Dk :=
  if endP (getF D.fs file).bs (recsP (getF D.fs file).bs).length < (getF D.fs file).bs.length then truncD D file (endP (getF D.fs file).bs (recsP (getF D.fs file).bs).length : Nat) else (0, D)
def openD (D : Dk) (file : Int) : Int × Dk :=
  if (readD D file).2 ≠ 0 then ((readD D file).2, D)
  else if (openT D file).1 ≠ 0 then openT D file else syncD (openT D file).2

abbrev lgO (lg d : Nat) (file n : Int) (down : Bool) : Nat × Ent := (lg, ⟨0, false, [Ptr d 0, I file, I n, .bool down]⟩)

theorem openNil_ok (O : Objs) (file : Int) : Spec Try.prog false 30 #[.pointer none, I file] O fun v O' => v = .tuple #[.pointer none, .slice none 0 0, I 1] ∧ O' = O := by
  refine Spec.enter (args := [_, _]) (m := 49) Try.func30 rfl rfl (by decide +kernel) fun h0 => ?_
  refine WX.seq ?_
  refine WX.region rfl ?_
  refine WXL.assign Met.none rfl ?_
  refine WXL.assign Met.none rfl ?_
  refine WXL.assign Met.none rfl ?_
  refine WXL.nil ?_
  refine Fin.then_normal ?_
  refine WX.seq ?_
  refine WX.seq ?_
  refine WX.region rfl ?_
  refine WXL.move Met.none rfl ?_
  refine WXL.eqNilP Met.none rfl rfl Try.underlying51 ?_
  refine WXL.nil ?_
  refine Fin.then_normal ?_
  refine WX.cond rfl (fun hc0 => ?_) (fun hc0 => ?_)
  · try simp only [cnd] at hc0
    refine WX.seq ?_
    refine WX.region rfl ?_
    refine WXL.assign Met.none rfl ?_
    refine WXL.assign Met.none rfl ?_
    refine WXL.assign Met.none rfl ?_
    refine WXL.nil ?_
    refine Fin.then_normal ?_
    refine WX.ret ?_
    refine Fin.then_ret ?_
    exact Fin.result (O' := O) (.inr rfl) rfl rfl drop_ ⟨rfl, rfl⟩
  · try simp only [cnd] at hc0
    exact (by simp at hc0) --end

theorem trunc_err {D : Dk} {n size : Int} : (truncD D n size).1 = 0 ∨ (truncD D n size).1 = 1 ∨ (truncD D n size).1 = 23 := by
  unfold truncD
  split
  · exact .inr (.inl rfl)
  · split
    · exact .inr (.inr rfl)
    · split
      · exact .inr (.inr rfl)
      · exact .inl rfl

theorem open_ok (R : Objs) {R0 : Objs} (d bm : Nat) (D : Dk) (mx : MapX) (file : Int) (hD : DkI R0 D mx) (hi : ∀ g, Sat g R → Sat g R0) (hl : (getF D.fs file).bs.length ≤ 100000) :
    Spec Try.prog false 30 #[Ptr d 0, I file] (dkO d bm D mx R) fun v O' => ∃ mx',
      (((openD D file).1 = 0 ∧ ∃ lg ao co vs Gg Rg, v = .tuple #[Ptr lg 0, .slice ao (recsP (getF D.fs file).bs).length co, I 0] ∧ Grow 1 ao (recsP (getF D.fs file).bs).length co vs Gg ∧ AreB Rg vs (recsP (getF D.fs file).bs) ∧
          O' = lgO lg d file (recsP (getF D.fs file).bs).length false :: dkO d bm (openD D file).2 mx' (Gg ++ (Rg ++ R)) ∧ DkI R0 (openD D file).2 mx') ∨
        ((openD D file).1 ≠ 0 ∧ ∃ N, v = .tuple #[.pointer none, .slice none 0 0, I (openD D file).1] ∧ O' = dkO d bm (openD D file).2 mx' (N ++ R) ∧ DkI R0 (openD D file).2 mx')) := by
  obtain ⟨fa, fc, hfv, hrow, hnil, hB⟩ := hD.di.get file
  have hrd : readD D file = ([], 1) ∨ readD D file = ([], 23) ∨ readD D file = ((getF D.fs file).bs, 0) := by
    unfold readD
    split
    · exact .inl rfl
    · split
      · exact .inr (.inl rfl)
      · exact .inr (.inr rfl)
  obtain ⟨b, hb⟩ : ∃ b, b = (getF D.fs file).bs := ⟨_, rfl⟩
  have hend := endP_le b (recsP b).length
  have hT1 : endP b (recsP b).length < b.length → openT D file = truncD D file (endP b (recsP b).length : Nat) := fun q => by
    unfold openT
    rw [← hb, if_pos q]
  have hT2 : ¬ endP b (recsP b).length < b.length → openT D file = (0, D) := fun q => by
    unfold openT
    rw [← hb, if_neg q]
  rw [← hb] at hrd hl hB ⊢
  refine Spec.enter (args := [_, _]) (m := 49) Try.func30 rfl rfl (by decide +kernel) fun h0 => ?_
  refine WX.seq ?_
  refine WX.region rfl ?_
  refine WXL.assign Met.none rfl ?_
  refine WXL.assign Met.none rfl ?_
  refine WXL.assign Met.none rfl ?_
  refine WXL.nil ?_
  refine Fin.then_normal ?_
  refine WX.seq ?_
  refine WX.seq ?_
  refine WX.region rfl ?_
  refine WXL.move Met.none rfl ?_
  refine WXL.eqNilP Met.none rfl rfl Try.underlying51 ?_
  refine WXL.nil ?_
  refine Fin.then_normal ?_
  refine WX.cond rfl (fun hc0 => ?_) (fun hc0 => ?_)
  · try simp only [cnd] at hc0
    exact (by simp at hc0) --end
  · try simp only [cnd] at hc0
    refine WX.skip ?_
    refine Fin.then_normal ?_
    refine WX.seq ?_
    refine WX.region rfl ?_
    refine WXL.move Met.none rfl ?_
    refine WXL.move Met.none rfl ?_
    refine WXL.cl (O1 := _) Met.none rfl (fnOk_of Try.func53 (by decide +kernel)) rfl (fun _ h => h) (diskRead_ok R d bm D mx file hD hi) (fun v O' hp => ?_)
    obtain ⟨a1, c1, G1, rfl, hG1, rfl⟩ := hp
    refine WXL.move Met.none rfl ?_
    refine WXL.extract Met.none rfl rfl ?_
    refine WXL.extract Met.none rfl rfl ?_
    refine WXL.assign Met.none rfl ?_
    refine WXL.assign Met.none rfl ?_
    refine WXL.nil ?_
    refine Fin.then_normal ?_
    refine WX.seq ?_
    refine WX.seq ?_
    refine WX.region rfl ?_
    refine WXL.move Met.none rfl ?_
    refine WXL.bin Met.none rfl rfl rfl ?_
    refine WXL.nil ?_
    refine Fin.then_normal ?_
    refine WX.cond rfl (fun hc1 => ?_) (fun hc1 => ?_)
    · try simp only [cnd] at hc1
      refine WX.seq ?_
      refine WX.region rfl ?_
      refine WXL.move Met.none rfl ?_
      refine WXL.assign Met.none rfl ?_
      refine WXL.assign Met.none rfl ?_
      refine WXL.assign Met.none rfl ?_
      refine WXL.nil ?_
      refine Fin.then_normal ?_
      refine WX.ret ?_
      refine Fin.then_ret ?_
      first
      | (exfalso; omega)
      | (exfalso; simp at hc3; done)
      | exact Fin.result (O' := dkO d bm D mx ([] ++ R)) (.inr rfl) rfl rfl sub_ (by
          have hop : openD D file = ((readD D file).2, D) := by unfold openD; rw [if_pos hc1]
          rw [hop]
          exact ⟨mx, .inr ⟨hc1, [], rfl, rfl, hD⟩⟩)
      | exact Fin.result (O' := dkO d bm (openT D file).2 mx1 ((Gg ++ Rg) ++ R)) (.inr rfl) rfl rfl sub_ (by
          rw [hop]
          rw [if_pos hc3]
          exact ⟨mx1, .inr ⟨hc4, Gg ++ Rg, rfl, rfl, hD1⟩⟩)
      | exact Fin.result (O' := dkO d bm (syncD (openT D file).2).2 mx2 ((Gg ++ Rg) ++ R)) (.inr rfl) rfl rfl sub_ (by
          rw [hop]
          rw [if_neg (by omega)]
          exact ⟨mx2, .inr ⟨hc4, Gg ++ Rg, rfl, rfl, hD2⟩⟩)
      | exact Fin.result (O' := dkO d bm (syncD D).2 mx2 ((Gg ++ Rg) ++ R)) (.inr rfl) rfl rfl sub_ (by
          rw [hop]
          rw [if_neg (by rw [hT]; simp), hT]
          exact ⟨mx2, .inr ⟨hc4, Gg ++ Rg, rfl, rfl, hD2⟩⟩)
      | exact Fin.result (O' := (b47, ⟨0, false, [Ptr d 0, I file, .int .i64 ((recsP b).length : Nat), .bool false]⟩) :: dkO d bm (syncD D).2 mx2 (Gg ++ (Rg ++ R))) (.inr rfl) rfl rfl sub_ (by
          rw [hop]
          rw [if_neg (by rw [hT]; simp), hT]
          exact ⟨mx2, .inl ⟨by omega, b47, ao, co, vs, Gg, Rg, rfl, hGg, hRg, rfl, hD2⟩⟩)
      | exact Fin.result (O' := (b47, ⟨0, false, [Ptr d 0, I file, .int .i64 ((recsP b).length : Nat), .bool false]⟩) :: dkO d bm (syncD (openT D file).2).2 mx2 (Gg ++ (Rg ++ R))) (.inr rfl) rfl rfl sub_ (by
          rw [hop]
          rw [if_neg (by omega)]
          exact ⟨mx2, .inl ⟨by omega, b47, ao, co, vs, Gg, Rg, rfl, hGg, hRg, rfl, hD2⟩⟩)
    · try simp only [cnd] at hc1
      refine WX.skip ?_
      refine Fin.then_normal ?_
      refine WX.seq ?_
      have hr0 : readD D file = (b, 0) := by
        rcases hrd with q | q | q
        · rw [q] at hc1; simp at hc1
        · rw [q] at hc1; simp at hc1
        · exact q
      have hop : openD D file = if (openT D file).1 ≠ 0 then openT D file else syncD (openT D file).2 := by
        unfold openD
        rw [hr0, if_neg (by simp)]
      rw [hr0] at hG1 ⊢
      dsimp only at hG1 ⊢
      refine WX.region rfl ?_
      refine WXL.move Met.none rfl ?_
      refine WXL.cl (O1 := _) Met.none rfl (fnOk_of Try.func15 (by decide +kernel)) rfl (fun _ h => h) (scan_own _ b a1 c1 hB hl (Rowy.cons (Rowy.cons hG1.rowy)) (fun q => (hG1.nil0 q).1)) (fun v O' hp => ?_)
      obtain ⟨ao, co, vs, Gg, Rg, rfl, hGg, hRg, rfl⟩ := hp
      refine WXL.move Met.none rfl ?_
      refine WXL.extract Met.none rfl rfl ?_
      refine WXL.extract Met.none rfl rfl ?_
      refine WXL.assign Met.none rfl ?_
      refine WXL.assign Met.none rfl ?_
      refine WXL.nil ?_
      refine Fin.then_normal ?_
      refine WX.seq ?_
      refine WX.seq ?_
      refine WX.re (O' := dkO d bm D mx (Gg ++ (Rg ++ R))) ?_
      refine WX.region rfl ?_
      refine WXL.move Met.none rfl ?_
      refine WXL.move Met.none rfl ?_
      refine WXL.len Met.none rfl Try.underlying23 ?_
      refine WXL.bin Met.none rfl rfl rfl ?_
      refine WXL.nil ?_
      refine Fin.then_normal ?_
      refine WX.cond rfl (fun hc2 => ?_) (fun hc2 => ?_)
      · try simp only [cnd] at hc2
        refine WX.region rfl ?_
        refine WXL.move Met.none rfl ?_
        refine WXL.move Met.none rfl ?_
        refine WXL.move Met.none rfl ?_
        refine WXL.cl (O1 := _) Met.none rfl (fnOk_of Try.func54 (by decide +kernel)) rfl (fun _ h => h) (trunc_ok (Gg ++ (Rg ++ R)) d bm D mx file (endP b (recsP b).length : Nat) hD (fun g hg => hi g hg.app_right.app_right)) (fun v O' hp => ?_)
        obtain ⟨mx1, rfl, rfl, hD1⟩ := hp
        have hT := hT1 (by omega)
        rw [← hT] at hD1 ⊢
        refine WXL.assign Met.none rfl ?_
        refine WXL.nil ?_
        refine Fin.then_normal ?_
        refine WX.seq ?_
        refine WX.seq ?_
        refine WX.region rfl ?_
        refine WXL.move Met.none rfl ?_
        refine WXL.bin Met.none rfl rfl rfl ?_
        refine WXL.nil ?_
        refine Fin.then_normal ?_
        refine WX.cond rfl (fun hc3 => ?_) (fun hc3 => ?_)
        · try simp only [cnd] at hc3
          refine WX.region rfl ?_
          refine WXL.move Met.none rfl ?_
          refine WXL.cl (O1 := _) Met.none rfl (fnOk_of Try.func55 (by decide +kernel)) rfl (fun _ h => h) ((by first | exact sync_ok (Gg ++ (Rg ++ R)) d bm (openT D file).2 mx1 hD1 | exact sync_ok (Gg ++ (Rg ++ R)) d bm D mx hD)) (fun v O' hp => ?_)
          obtain ⟨mx2, rfl, rfl, hD2⟩ := hp
          refine WXL.assign Met.none rfl ?_
          refine WXL.nil ?_
          refine Fin.then_normal ?_
          refine WX.seq ?_
          refine WX.seq ?_
          refine WX.region rfl ?_
          refine WXL.move Met.none rfl ?_
          refine WXL.bin Met.none rfl rfl rfl ?_
          refine WXL.nil ?_
          refine Fin.then_normal ?_
          refine WX.cond rfl (fun hc4 => ?_) (fun hc4 => ?_)
          · try simp only [cnd] at hc4
            refine WX.seq ?_
            refine WX.region rfl ?_
            refine WXL.move Met.none rfl ?_
            refine WXL.assign Met.none rfl ?_
            refine WXL.assign Met.none rfl ?_
            refine WXL.assign Met.none rfl ?_
            refine WXL.nil ?_
            refine Fin.then_normal ?_
            refine WX.ret ?_
            refine Fin.then_ret ?_
            first
            | (exfalso; omega)
            | (exfalso; simp at hc3; done)
            | exact Fin.result (O' := dkO d bm D mx ([] ++ R)) (.inr rfl) rfl rfl sub_ (by
                have hop : openD D file = ((readD D file).2, D) := by unfold openD; rw [if_pos hc1]
                rw [hop]
                exact ⟨mx, .inr ⟨hc1, [], rfl, rfl, hD⟩⟩)
            | exact Fin.result (O' := dkO d bm (openT D file).2 mx1 ((Gg ++ Rg) ++ R)) (.inr rfl) rfl rfl sub_ (by
                rw [hop]
                rw [if_pos hc3]
                exact ⟨mx1, .inr ⟨hc4, Gg ++ Rg, rfl, rfl, hD1⟩⟩)
            | exact Fin.result (O' := dkO d bm (syncD (openT D file).2).2 mx2 ((Gg ++ Rg) ++ R)) (.inr rfl) rfl rfl sub_ (by
                rw [hop]
                rw [if_neg (by omega)]
                exact ⟨mx2, .inr ⟨hc4, Gg ++ Rg, rfl, rfl, hD2⟩⟩)
            | exact Fin.result (O' := dkO d bm (syncD D).2 mx2 ((Gg ++ Rg) ++ R)) (.inr rfl) rfl rfl sub_ (by
                rw [hop]
                rw [if_neg (by rw [hT]; simp), hT]
                exact ⟨mx2, .inr ⟨hc4, Gg ++ Rg, rfl, rfl, hD2⟩⟩)
            | exact Fin.result (O' := (b47, ⟨0, false, [Ptr d 0, I file, .int .i64 ((recsP b).length : Nat), .bool false]⟩) :: dkO d bm (syncD D).2 mx2 (Gg ++ (Rg ++ R))) (.inr rfl) rfl rfl sub_ (by
                rw [hop]
                rw [if_neg (by rw [hT]; simp), hT]
                exact ⟨mx2, .inl ⟨by omega, b47, ao, co, vs, Gg, Rg, rfl, hGg, hRg, rfl, hD2⟩⟩)
            | exact Fin.result (O' := (b47, ⟨0, false, [Ptr d 0, I file, .int .i64 ((recsP b).length : Nat), .bool false]⟩) :: dkO d bm (syncD (openT D file).2).2 mx2 (Gg ++ (Rg ++ R))) (.inr rfl) rfl rfl sub_ (by
                rw [hop]
                rw [if_neg (by omega)]
                exact ⟨mx2, .inl ⟨by omega, b47, ao, co, vs, Gg, Rg, rfl, hGg, hRg, rfl, hD2⟩⟩)
          · try simp only [cnd] at hc4
            refine WX.skip ?_
            refine Fin.then_normal ?_
            refine WX.seq ?_
            refine WX.region rfl ?_
            refine WXL.move Met.none rfl ?_
            refine WXL.move Met.none rfl ?_
            refine WXL.move Met.none rfl ?_
            refine WXL.len Met.none rfl Try.underlying27 ?_
            refine WXL.build (c := [_, _, _, _]) Met.none rfl zero89 places89 rfl ?_
            refine WXL.box (c := [_, _, _, _]) Met.none rfl rfl rfl (fun b47 => ?_)
            refine WXL.move Met.none rfl ?_
            refine WXL.assign Met.none rfl ?_
            refine WXL.assign Met.none rfl ?_
            refine WXL.assign Met.none rfl ?_
            refine WXL.nil ?_
            refine Fin.then_normal ?_
            refine WX.ret ?_
            first
            | (exfalso; omega)
            | (exfalso; simp at hc3; done)
            | exact Fin.result (O' := dkO d bm D mx ([] ++ R)) (.inr rfl) rfl rfl sub_ (by
                have hop : openD D file = ((readD D file).2, D) := by unfold openD; rw [if_pos hc1]
                rw [hop]
                exact ⟨mx, .inr ⟨hc1, [], rfl, rfl, hD⟩⟩)
            | exact Fin.result (O' := dkO d bm (openT D file).2 mx1 ((Gg ++ Rg) ++ R)) (.inr rfl) rfl rfl sub_ (by
                rw [hop]
                rw [if_pos hc3]
                exact ⟨mx1, .inr ⟨hc4, Gg ++ Rg, rfl, rfl, hD1⟩⟩)
            | exact Fin.result (O' := dkO d bm (syncD (openT D file).2).2 mx2 ((Gg ++ Rg) ++ R)) (.inr rfl) rfl rfl sub_ (by
                rw [hop]
                rw [if_neg (by omega)]
                exact ⟨mx2, .inr ⟨hc4, Gg ++ Rg, rfl, rfl, hD2⟩⟩)
            | exact Fin.result (O' := dkO d bm (syncD D).2 mx2 ((Gg ++ Rg) ++ R)) (.inr rfl) rfl rfl sub_ (by
                rw [hop]
                rw [if_neg (by rw [hT]; simp), hT]
                exact ⟨mx2, .inr ⟨hc4, Gg ++ Rg, rfl, rfl, hD2⟩⟩)
            | exact Fin.result (O' := (b47, ⟨0, false, [Ptr d 0, I file, .int .i64 ((recsP b).length : Nat), .bool false]⟩) :: dkO d bm (syncD D).2 mx2 (Gg ++ (Rg ++ R))) (.inr rfl) rfl rfl sub_ (by
                rw [hop]
                rw [if_neg (by rw [hT]; simp), hT]
                exact ⟨mx2, .inl ⟨by omega, b47, ao, co, vs, Gg, Rg, rfl, hGg, hRg, rfl, hD2⟩⟩)
            | exact Fin.result (O' := (b47, ⟨0, false, [Ptr d 0, I file, .int .i64 ((recsP b).length : Nat), .bool false]⟩) :: dkO d bm (syncD (openT D file).2).2 mx2 (Gg ++ (Rg ++ R))) (.inr rfl) rfl rfl sub_ (by
                rw [hop]
                rw [if_neg (by omega)]
                exact ⟨mx2, .inl ⟨by omega, b47, ao, co, vs, Gg, Rg, rfl, hGg, hRg, rfl, hD2⟩⟩)
        · try simp only [cnd] at hc3
          refine WX.skip ?_
          refine Fin.then_normal ?_
          refine WX.seq ?_
          refine WX.seq ?_
          refine WX.region rfl ?_
          refine WXL.move Met.none rfl ?_
          refine WXL.bin Met.none rfl rfl rfl ?_
          refine WXL.nil ?_
          refine Fin.then_normal ?_
          refine WX.cond rfl (fun hc4 => ?_) (fun hc4 => ?_)
          · try simp only [cnd] at hc4
            refine WX.seq ?_
            refine WX.region rfl ?_
            refine WXL.move Met.none rfl ?_
            refine WXL.assign Met.none rfl ?_
            refine WXL.assign Met.none rfl ?_
            refine WXL.assign Met.none rfl ?_
            refine WXL.nil ?_
            refine Fin.then_normal ?_
            refine WX.ret ?_
            refine Fin.then_ret ?_
            first
            | (exfalso; omega)
            | (exfalso; simp at hc3; done)
            | exact Fin.result (O' := dkO d bm D mx ([] ++ R)) (.inr rfl) rfl rfl sub_ (by
                have hop : openD D file = ((readD D file).2, D) := by unfold openD; rw [if_pos hc1]
                rw [hop]
                exact ⟨mx, .inr ⟨hc1, [], rfl, rfl, hD⟩⟩)
            | exact Fin.result (O' := dkO d bm (openT D file).2 mx1 ((Gg ++ Rg) ++ R)) (.inr rfl) rfl rfl sub_ (by
                rw [hop]
                rw [if_pos hc3]
                exact ⟨mx1, .inr ⟨hc4, Gg ++ Rg, rfl, rfl, hD1⟩⟩)
            | exact Fin.result (O' := dkO d bm (syncD (openT D file).2).2 mx2 ((Gg ++ Rg) ++ R)) (.inr rfl) rfl rfl sub_ (by
                rw [hop]
                rw [if_neg (by omega)]
                exact ⟨mx2, .inr ⟨hc4, Gg ++ Rg, rfl, rfl, hD2⟩⟩)
            | exact Fin.result (O' := dkO d bm (syncD D).2 mx2 ((Gg ++ Rg) ++ R)) (.inr rfl) rfl rfl sub_ (by
                rw [hop]
                rw [if_neg (by rw [hT]; simp), hT]
                exact ⟨mx2, .inr ⟨hc4, Gg ++ Rg, rfl, rfl, hD2⟩⟩)
            | exact Fin.result (O' := (b47, ⟨0, false, [Ptr d 0, I file, .int .i64 ((recsP b).length : Nat), .bool false]⟩) :: dkO d bm (syncD D).2 mx2 (Gg ++ (Rg ++ R))) (.inr rfl) rfl rfl sub_ (by
                rw [hop]
                rw [if_neg (by rw [hT]; simp), hT]
                exact ⟨mx2, .inl ⟨by omega, b47, ao, co, vs, Gg, Rg, rfl, hGg, hRg, rfl, hD2⟩⟩)
            | exact Fin.result (O' := (b47, ⟨0, false, [Ptr d 0, I file, .int .i64 ((recsP b).length : Nat), .bool false]⟩) :: dkO d bm (syncD (openT D file).2).2 mx2 (Gg ++ (Rg ++ R))) (.inr rfl) rfl rfl sub_ (by
                rw [hop]
                rw [if_neg (by omega)]
                exact ⟨mx2, .inl ⟨by omega, b47, ao, co, vs, Gg, Rg, rfl, hGg, hRg, rfl, hD2⟩⟩)
          · try simp only [cnd] at hc4
            refine WX.skip ?_
            refine Fin.then_normal ?_
            refine WX.seq ?_
            refine WX.region rfl ?_
            refine WXL.move Met.none rfl ?_
            refine WXL.move Met.none rfl ?_
            refine WXL.move Met.none rfl ?_
            refine WXL.len Met.none rfl Try.underlying27 ?_
            refine WXL.build (c := [_, _, _, _]) Met.none rfl zero89 places89 rfl ?_
            refine WXL.box (c := [_, _, _, _]) Met.none rfl rfl rfl (fun b47 => ?_)
            refine WXL.move Met.none rfl ?_
            refine WXL.assign Met.none rfl ?_
            refine WXL.assign Met.none rfl ?_
            refine WXL.assign Met.none rfl ?_
            refine WXL.nil ?_
            refine Fin.then_normal ?_
            refine WX.ret ?_
            first
            | (exfalso; omega)
            | (exfalso; simp at hc3; done)
            | exact Fin.result (O' := dkO d bm D mx ([] ++ R)) (.inr rfl) rfl rfl sub_ (by
                have hop : openD D file = ((readD D file).2, D) := by unfold openD; rw [if_pos hc1]
                rw [hop]
                exact ⟨mx, .inr ⟨hc1, [], rfl, rfl, hD⟩⟩)
            | exact Fin.result (O' := dkO d bm (openT D file).2 mx1 ((Gg ++ Rg) ++ R)) (.inr rfl) rfl rfl sub_ (by
                rw [hop]
                rw [if_pos hc3]
                exact ⟨mx1, .inr ⟨hc4, Gg ++ Rg, rfl, rfl, hD1⟩⟩)
            | exact Fin.result (O' := dkO d bm (syncD (openT D file).2).2 mx2 ((Gg ++ Rg) ++ R)) (.inr rfl) rfl rfl sub_ (by
                rw [hop]
                rw [if_neg (by omega)]
                exact ⟨mx2, .inr ⟨hc4, Gg ++ Rg, rfl, rfl, hD2⟩⟩)
            | exact Fin.result (O' := dkO d bm (syncD D).2 mx2 ((Gg ++ Rg) ++ R)) (.inr rfl) rfl rfl sub_ (by
                rw [hop]
                rw [if_neg (by rw [hT]; simp), hT]
                exact ⟨mx2, .inr ⟨hc4, Gg ++ Rg, rfl, rfl, hD2⟩⟩)
            | exact Fin.result (O' := (b47, ⟨0, false, [Ptr d 0, I file, .int .i64 ((recsP b).length : Nat), .bool false]⟩) :: dkO d bm (syncD D).2 mx2 (Gg ++ (Rg ++ R))) (.inr rfl) rfl rfl sub_ (by
                rw [hop]
                rw [if_neg (by rw [hT]; simp), hT]
                exact ⟨mx2, .inl ⟨by omega, b47, ao, co, vs, Gg, Rg, rfl, hGg, hRg, rfl, hD2⟩⟩)
            | exact Fin.result (O' := (b47, ⟨0, false, [Ptr d 0, I file, .int .i64 ((recsP b).length : Nat), .bool false]⟩) :: dkO d bm (syncD (openT D file).2).2 mx2 (Gg ++ (Rg ++ R))) (.inr rfl) rfl rfl sub_ (by
                rw [hop]
                rw [if_neg (by omega)]
                exact ⟨mx2, .inl ⟨by omega, b47, ao, co, vs, Gg, Rg, rfl, hGg, hRg, rfl, hD2⟩⟩)
      · try simp only [cnd] at hc2
        have hT := hT2 (by omega)
        refine WX.skip ?_
        refine Fin.then_normal ?_
        refine WX.seq ?_
        refine WX.seq ?_
        refine WX.region rfl ?_
        refine WXL.move Met.none rfl ?_
        refine WXL.bin Met.none rfl rfl rfl ?_
        refine WXL.nil ?_
        refine Fin.then_normal ?_
        refine WX.cond rfl (fun hc3 => ?_) (fun hc3 => ?_)
        · try simp only [cnd] at hc3
          refine WX.region rfl ?_
          refine WXL.move Met.none rfl ?_
          refine WXL.cl (O1 := _) Met.none rfl (fnOk_of Try.func55 (by decide +kernel)) rfl (fun _ h => h) ((by first | exact sync_ok (Gg ++ (Rg ++ R)) d bm (openT D file).2 mx1 hD1 | exact sync_ok (Gg ++ (Rg ++ R)) d bm D mx hD)) (fun v O' hp => ?_)
          obtain ⟨mx2, rfl, rfl, hD2⟩ := hp
          refine WXL.assign Met.none rfl ?_
          refine WXL.nil ?_
          refine Fin.then_normal ?_
          refine WX.seq ?_
          refine WX.seq ?_
          refine WX.region rfl ?_
          refine WXL.move Met.none rfl ?_
          refine WXL.bin Met.none rfl rfl rfl ?_
          refine WXL.nil ?_
          refine Fin.then_normal ?_
          refine WX.cond rfl (fun hc4 => ?_) (fun hc4 => ?_)
          · try simp only [cnd] at hc4
            refine WX.seq ?_
            refine WX.region rfl ?_
            refine WXL.move Met.none rfl ?_
            refine WXL.assign Met.none rfl ?_
            refine WXL.assign Met.none rfl ?_
            refine WXL.assign Met.none rfl ?_
            refine WXL.nil ?_
            refine Fin.then_normal ?_
            refine WX.ret ?_
            refine Fin.then_ret ?_
            first
            | (exfalso; omega)
            | (exfalso; simp at hc3; done)
            | exact Fin.result (O' := dkO d bm D mx ([] ++ R)) (.inr rfl) rfl rfl sub_ (by
                have hop : openD D file = ((readD D file).2, D) := by unfold openD; rw [if_pos hc1]
                rw [hop]
                exact ⟨mx, .inr ⟨hc1, [], rfl, rfl, hD⟩⟩)
            | exact Fin.result (O' := dkO d bm (openT D file).2 mx1 ((Gg ++ Rg) ++ R)) (.inr rfl) rfl rfl sub_ (by
                rw [hop]
                rw [if_pos hc3]
                exact ⟨mx1, .inr ⟨hc4, Gg ++ Rg, rfl, rfl, hD1⟩⟩)
            | exact Fin.result (O' := dkO d bm (syncD (openT D file).2).2 mx2 ((Gg ++ Rg) ++ R)) (.inr rfl) rfl rfl sub_ (by
                rw [hop]
                rw [if_neg (by omega)]
                exact ⟨mx2, .inr ⟨hc4, Gg ++ Rg, rfl, rfl, hD2⟩⟩)
            | exact Fin.result (O' := dkO d bm (syncD D).2 mx2 ((Gg ++ Rg) ++ R)) (.inr rfl) rfl rfl sub_ (by
                rw [hop]
                rw [if_neg (by rw [hT]; simp), hT]
                exact ⟨mx2, .inr ⟨hc4, Gg ++ Rg, rfl, rfl, hD2⟩⟩)
            | exact Fin.result (O' := (b47, ⟨0, false, [Ptr d 0, I file, .int .i64 ((recsP b).length : Nat), .bool false]⟩) :: dkO d bm (syncD D).2 mx2 (Gg ++ (Rg ++ R))) (.inr rfl) rfl rfl sub_ (by
                rw [hop]
                rw [if_neg (by rw [hT]; simp), hT]
                exact ⟨mx2, .inl ⟨by omega, b47, ao, co, vs, Gg, Rg, rfl, hGg, hRg, rfl, hD2⟩⟩)
            | exact Fin.result (O' := (b47, ⟨0, false, [Ptr d 0, I file, .int .i64 ((recsP b).length : Nat), .bool false]⟩) :: dkO d bm (syncD (openT D file).2).2 mx2 (Gg ++ (Rg ++ R))) (.inr rfl) rfl rfl sub_ (by
                rw [hop]
                rw [if_neg (by omega)]
                exact ⟨mx2, .inl ⟨by omega, b47, ao, co, vs, Gg, Rg, rfl, hGg, hRg, rfl, hD2⟩⟩)
          · try simp only [cnd] at hc4
            refine WX.skip ?_
            refine Fin.then_normal ?_
            refine WX.seq ?_
            refine WX.region rfl ?_
            refine WXL.move Met.none rfl ?_
            refine WXL.move Met.none rfl ?_
            refine WXL.move Met.none rfl ?_
            refine WXL.len Met.none rfl Try.underlying27 ?_
            refine WXL.build (c := [_, _, _, _]) Met.none rfl zero89 places89 rfl ?_
            refine WXL.box (c := [_, _, _, _]) Met.none rfl rfl rfl (fun b47 => ?_)
            refine WXL.move Met.none rfl ?_
            refine WXL.assign Met.none rfl ?_
            refine WXL.assign Met.none rfl ?_
            refine WXL.assign Met.none rfl ?_
            refine WXL.nil ?_
            refine Fin.then_normal ?_
            refine WX.ret ?_
            first
            | (exfalso; omega)
            | (exfalso; simp at hc3; done)
            | exact Fin.result (O' := dkO d bm D mx ([] ++ R)) (.inr rfl) rfl rfl sub_ (by
                have hop : openD D file = ((readD D file).2, D) := by unfold openD; rw [if_pos hc1]
                rw [hop]
                exact ⟨mx, .inr ⟨hc1, [], rfl, rfl, hD⟩⟩)
            | exact Fin.result (O' := dkO d bm (openT D file).2 mx1 ((Gg ++ Rg) ++ R)) (.inr rfl) rfl rfl sub_ (by
                rw [hop]
                rw [if_pos hc3]
                exact ⟨mx1, .inr ⟨hc4, Gg ++ Rg, rfl, rfl, hD1⟩⟩)
            | exact Fin.result (O' := dkO d bm (syncD (openT D file).2).2 mx2 ((Gg ++ Rg) ++ R)) (.inr rfl) rfl rfl sub_ (by
                rw [hop]
                rw [if_neg (by omega)]
                exact ⟨mx2, .inr ⟨hc4, Gg ++ Rg, rfl, rfl, hD2⟩⟩)
            | exact Fin.result (O' := dkO d bm (syncD D).2 mx2 ((Gg ++ Rg) ++ R)) (.inr rfl) rfl rfl sub_ (by
                rw [hop]
                rw [if_neg (by rw [hT]; simp), hT]
                exact ⟨mx2, .inr ⟨hc4, Gg ++ Rg, rfl, rfl, hD2⟩⟩)
            | exact Fin.result (O' := (b47, ⟨0, false, [Ptr d 0, I file, .int .i64 ((recsP b).length : Nat), .bool false]⟩) :: dkO d bm (syncD D).2 mx2 (Gg ++ (Rg ++ R))) (.inr rfl) rfl rfl sub_ (by
                rw [hop]
                rw [if_neg (by rw [hT]; simp), hT]
                exact ⟨mx2, .inl ⟨by omega, b47, ao, co, vs, Gg, Rg, rfl, hGg, hRg, rfl, hD2⟩⟩)
            | exact Fin.result (O' := (b47, ⟨0, false, [Ptr d 0, I file, .int .i64 ((recsP b).length : Nat), .bool false]⟩) :: dkO d bm (syncD (openT D file).2).2 mx2 (Gg ++ (Rg ++ R))) (.inr rfl) rfl rfl sub_ (by
                rw [hop]
                rw [if_neg (by omega)]
                exact ⟨mx2, .inl ⟨by omega, b47, ao, co, vs, Gg, Rg, rfl, hGg, hRg, rfl, hD2⟩⟩)
        · try simp only [cnd] at hc3
          refine WX.skip ?_
          refine Fin.then_normal ?_
          refine WX.seq ?_
          refine WX.seq ?_
          refine WX.region rfl ?_
          refine WXL.move Met.none rfl ?_
          refine WXL.bin Met.none rfl rfl rfl ?_
          refine WXL.nil ?_
          refine Fin.then_normal ?_
          refine WX.cond rfl (fun hc4 => ?_) (fun hc4 => ?_)
          · try simp only [cnd] at hc4
            refine WX.seq ?_
            refine WX.region rfl ?_
            refine WXL.move Met.none rfl ?_
            refine WXL.assign Met.none rfl ?_
            refine WXL.assign Met.none rfl ?_
            refine WXL.assign Met.none rfl ?_
            refine WXL.nil ?_
            refine Fin.then_normal ?_
            refine WX.ret ?_
            refine Fin.then_ret ?_
            first
            | (exfalso; omega)
            | (exfalso; simp at hc3; done)
            | exact Fin.result (O' := dkO d bm D mx ([] ++ R)) (.inr rfl) rfl rfl sub_ (by
                have hop : openD D file = ((readD D file).2, D) := by unfold openD; rw [if_pos hc1]
                rw [hop]
                exact ⟨mx, .inr ⟨hc1, [], rfl, rfl, hD⟩⟩)
            | exact Fin.result (O' := dkO d bm (openT D file).2 mx1 ((Gg ++ Rg) ++ R)) (.inr rfl) rfl rfl sub_ (by
                rw [hop]
                rw [if_pos hc3]
                exact ⟨mx1, .inr ⟨hc4, Gg ++ Rg, rfl, rfl, hD1⟩⟩)
            | exact Fin.result (O' := dkO d bm (syncD (openT D file).2).2 mx2 ((Gg ++ Rg) ++ R)) (.inr rfl) rfl rfl sub_ (by
                rw [hop]
                rw [if_neg (by omega)]
                exact ⟨mx2, .inr ⟨hc4, Gg ++ Rg, rfl, rfl, hD2⟩⟩)
            | exact Fin.result (O' := dkO d bm (syncD D).2 mx2 ((Gg ++ Rg) ++ R)) (.inr rfl) rfl rfl sub_ (by
                rw [hop]
                rw [if_neg (by rw [hT]; simp), hT]
                exact ⟨mx2, .inr ⟨hc4, Gg ++ Rg, rfl, rfl, hD2⟩⟩)
            | exact Fin.result (O' := (b47, ⟨0, false, [Ptr d 0, I file, .int .i64 ((recsP b).length : Nat), .bool false]⟩) :: dkO d bm (syncD D).2 mx2 (Gg ++ (Rg ++ R))) (.inr rfl) rfl rfl sub_ (by
                rw [hop]
                rw [if_neg (by rw [hT]; simp), hT]
                exact ⟨mx2, .inl ⟨by omega, b47, ao, co, vs, Gg, Rg, rfl, hGg, hRg, rfl, hD2⟩⟩)
            | exact Fin.result (O' := (b47, ⟨0, false, [Ptr d 0, I file, .int .i64 ((recsP b).length : Nat), .bool false]⟩) :: dkO d bm (syncD (openT D file).2).2 mx2 (Gg ++ (Rg ++ R))) (.inr rfl) rfl rfl sub_ (by
                rw [hop]
                rw [if_neg (by omega)]
                exact ⟨mx2, .inl ⟨by omega, b47, ao, co, vs, Gg, Rg, rfl, hGg, hRg, rfl, hD2⟩⟩)
          · try simp only [cnd] at hc4
            refine WX.skip ?_
            refine Fin.then_normal ?_
            refine WX.seq ?_
            refine WX.region rfl ?_
            refine WXL.move Met.none rfl ?_
            refine WXL.move Met.none rfl ?_
            refine WXL.move Met.none rfl ?_
            refine WXL.len Met.none rfl Try.underlying27 ?_
            refine WXL.build (c := [_, _, _, _]) Met.none rfl zero89 places89 rfl ?_
            refine WXL.box (c := [_, _, _, _]) Met.none rfl rfl rfl (fun b47 => ?_)
            refine WXL.move Met.none rfl ?_
            refine WXL.assign Met.none rfl ?_
            refine WXL.assign Met.none rfl ?_
            refine WXL.assign Met.none rfl ?_
            refine WXL.nil ?_
            refine Fin.then_normal ?_
            refine WX.ret ?_
            first
            | (exfalso; omega)
            | (exfalso; simp at hc3; done)
            | exact Fin.result (O' := dkO d bm D mx ([] ++ R)) (.inr rfl) rfl rfl sub_ (by
                have hop : openD D file = ((readD D file).2, D) := by unfold openD; rw [if_pos hc1]
                rw [hop]
                exact ⟨mx, .inr ⟨hc1, [], rfl, rfl, hD⟩⟩)
            | exact Fin.result (O' := dkO d bm (openT D file).2 mx1 ((Gg ++ Rg) ++ R)) (.inr rfl) rfl rfl sub_ (by
                rw [hop]
                rw [if_pos hc3]
                exact ⟨mx1, .inr ⟨hc4, Gg ++ Rg, rfl, rfl, hD1⟩⟩)
            | exact Fin.result (O' := dkO d bm (syncD (openT D file).2).2 mx2 ((Gg ++ Rg) ++ R)) (.inr rfl) rfl rfl sub_ (by
                rw [hop]
                rw [if_neg (by omega)]
                exact ⟨mx2, .inr ⟨hc4, Gg ++ Rg, rfl, rfl, hD2⟩⟩)
            | exact Fin.result (O' := dkO d bm (syncD D).2 mx2 ((Gg ++ Rg) ++ R)) (.inr rfl) rfl rfl sub_ (by
                rw [hop]
                rw [if_neg (by rw [hT]; simp), hT]
                exact ⟨mx2, .inr ⟨hc4, Gg ++ Rg, rfl, rfl, hD2⟩⟩)
            | exact Fin.result (O' := (b47, ⟨0, false, [Ptr d 0, I file, .int .i64 ((recsP b).length : Nat), .bool false]⟩) :: dkO d bm (syncD D).2 mx2 (Gg ++ (Rg ++ R))) (.inr rfl) rfl rfl sub_ (by
                rw [hop]
                rw [if_neg (by rw [hT]; simp), hT]
                exact ⟨mx2, .inl ⟨by omega, b47, ao, co, vs, Gg, Rg, rfl, hGg, hRg, rfl, hD2⟩⟩)
            | exact Fin.result (O' := (b47, ⟨0, false, [Ptr d 0, I file, .int .i64 ((recsP b).length : Nat), .bool false]⟩) :: dkO d bm (syncD (openT D file).2).2 mx2 (Gg ++ (Rg ++ R))) (.inr rfl) rfl rfl sub_ (by
                rw [hop]
                rw [if_neg (by omega)]
                exact ⟨mx2, .inl ⟨by omega, b47, ao, co, vs, Gg, Rg, rfl, hGg, hRg, rfl, hD2⟩⟩)

end Go.Proofs.Ythekokdpplobhaa.Eng

set_option linter.unusedVariables false
set_option linter.unusedSimpArgs false
namespace Go.Proofs.Ythekokdpplobhaa.Eng

theorem frame_q (O : Objs) (n : Int) (b : List Int) (a : Option Addr) (c : Nat) (hn : In64 n) (hb : Bytes b) (hlen : b.length ≤ 100000) (hl : Src O 1 (.slice a b.length c) b.length (b.map B8)) :
    Spec Try.prog true 12 #[I n, .slice a b.length c] O fun v O' => ∃ a' c' G, v = .slice a' (frameB n b).length c' ∧ Grow 1 a' (frameB n b).length c' ((frameB n b).map B8) G ∧ O' = G ++ O :=
  (Spec.frame (Post := fun v N => ∃ a' c', v = .slice a' (frameB n b).length c' ∧ Grow 1 a' (frameB n b).length c' ((frameB n b).map B8) N)
    ((frame_ok (roO O) n b a c hn hb hlen hl.roh).mono fun v O' ⟨a', c', G, h1, h2, h3⟩ => ⟨G, ⟨a', c', h1, h2⟩, h2.own, h3⟩)).mono fun v O' ⟨N, ⟨a', c', h1, h2⟩, h3⟩ => ⟨a', c', N, h1, h2, h3⟩

theorem late_ok (R : Objs) (be bl lg d : Nat) (file n e : Int) (down : Bool) (hn : 0 ≤ n ∧ n < 1000000) :
    SpecLate Try.prog 56 #[Ptr be 0, Ptr bl 0] ((be, ⟨0, false, [I e]⟩) :: (bl, ⟨0, false, [Ptr lg 0]⟩) :: lgO lg d file n down :: R) fun O' => O' = (be, ⟨0, false, [I e]⟩) :: (bl, ⟨0, false, [Ptr lg 0]⟩) :: lgO lg d file (if e = 0 then n + 1 else n) (decide (e = 23)) :: R := by
  refine SpecLate.enter (args := [_, _]) (m := 16) Try.func56 rfl rfl (by decide +kernel) (by decide +kernel) fun h0 => ?_
  refine WX.seq ?_
  refine WX.region rfl ?_
  first | refine WXL.ld Met.none rfl agg53 ?_ | refine WXL.ldS Met.none rfl agg53 ?_
  first | refine WXL.ld Met.none rfl agg47 ?_ | refine WXL.ldS Met.none rfl agg47 ?_
  refine WXL.bin Met.none rfl rfl rfl ?_
  refine WXL.nilCheck Met.none rfl ?_
  first | refine WXL.fieldAddr Met.none rfl Try.underlying89 rfl sz4 rfl ?_ | refine WXL.faS Met.none rfl Try.underlying89 rfl sz4 ?_
  refine WXL.st (vs := [_]) (j := 2) Met.none rfl rfl rfl sz4 ?_ (hj := rfl)
  refine WXL.nil ?_
  refine Fin.then_normal ?_
  refine WX.seq ?_
  refine WX.region rfl ?_
  first | refine WXL.ld Met.none rfl agg47 ?_ | refine WXL.ldS Met.none rfl agg47 ?_
  refine WXL.bin Met.none rfl rfl rfl ?_
  refine WXL.nil ?_
  refine Fin.then_normal ?_
  refine WX.cond rfl (fun hc0 => ?_) (fun hc0 => ?_)
  · try simp only [cnd] at hc0
    refine WX.region rfl ?_
    first | refine WXL.ld Met.none rfl agg53 ?_ | refine WXL.ldS Met.none rfl agg53 ?_
    refine WXL.nilCheck Met.none rfl ?_
    first | refine WXL.fieldAddr Met.none rfl Try.underlying89 rfl sz3 rfl ?_ | refine WXL.faS Met.none rfl Try.underlying89 rfl sz3 ?_
    first | refine WXL.ld Met.none rfl agg3 ?_ | refine WXL.ldS Met.none rfl agg3 ?_
    refine WXL.bin Met.none rfl rfl bvA ?_
    refine WXL.nilCheck Met.none rfl ?_
    first | refine WXL.fieldAddr Met.none rfl Try.underlying89 rfl sz3 rfl ?_ | refine WXL.faS Met.none rfl Try.underlying89 rfl sz3 ?_
    refine WXL.st (vs := [_]) (j := 2) Met.none rfl rfl rfl sz3 ?_ (hj := rfl)
    refine WXL.nil ?_
    first
    | exact Fin.result (O' := (be, ⟨0, false, [I e]⟩) :: (bl, ⟨0, false, [Ptr lg 0]⟩) :: (lg, ⟨0, false, [Ptr d 0, I file, I (n + 1), .bool (decide (e = 23))]⟩) :: R) (.inl rfl) rfl rfl drop_ (by rw [if_pos hc0])
    | exact Fin.result (O' := (be, ⟨0, false, [I e]⟩) :: (bl, ⟨0, false, [Ptr lg 0]⟩) :: (lg, ⟨0, false, [Ptr d 0, I file, I n, .bool (decide (e = 23))]⟩) :: R) (.inl rfl) rfl rfl drop_ (by rw [if_neg hc0])
  · try simp only [cnd] at hc0
    refine WX.skip ?_
    first
    | exact Fin.result (O' := (be, ⟨0, false, [I e]⟩) :: (bl, ⟨0, false, [Ptr lg 0]⟩) :: (lg, ⟨0, false, [Ptr d 0, I file, I (n + 1), .bool (decide (e = 23))]⟩) :: R) (.inl rfl) rfl rfl drop_ (by rw [if_pos hc0])
    | exact Fin.result (O' := (be, ⟨0, false, [I e]⟩) :: (bl, ⟨0, false, [Ptr lg 0]⟩) :: (lg, ⟨0, false, [Ptr d 0, I file, I n, .bool (decide (e = 23))]⟩) :: R) (.inl rfl) rfl rfl drop_ (by rw [if_neg hc0])

theorem len_ok (R : Objs) (lg d : Nat) (file n : Int) (down : Bool) : Spec Try.prog false 33 #[Ptr lg 0] (lgO lg d file n down :: R) fun v O' => v = I n ∧ O' = lgO lg d file n down :: R := by
  refine Spec.enter (args := [_]) (m := 7) Try.func33 rfl rfl (by decide +kernel) fun h0 => ?_
  refine WX.seq ?_
  refine WX.region rfl ?_
  refine WXL.assign Met.none rfl ?_
  refine WXL.nil ?_
  refine Fin.then_normal ?_
  refine WX.seq ?_
  refine WX.region rfl ?_
  refine WXL.move Met.none rfl ?_
  refine WXL.nilCheck Met.none rfl ?_
  first | refine WXL.fieldAddr Met.none rfl Try.underlying89 rfl sz3 rfl ?_ | refine WXL.faS Met.none rfl Try.underlying89 rfl sz3 ?_
  first | refine WXL.ld Met.none rfl agg3 ?_ | refine WXL.ldS Met.none rfl agg3 ?_
  refine WXL.assign Met.none rfl ?_
  refine WXL.nil ?_
  refine Fin.then_normal ?_
  refine WX.ret ?_
  exact Fin.result (.inr rfl) rfl rfl drop_ ⟨rfl, rfl⟩

theorem up_ok (R : Objs) (lg d : Nat) (file n : Int) (down : Bool) : Spec Try.prog false 34 #[Ptr lg 0] (lgO lg d file n down :: R) fun v O' => v = .bool (!down) ∧ O' = lgO lg d file n down :: R := by
  refine Spec.enter (args := [_]) (m := 8) Try.func34 rfl rfl (by decide +kernel) fun h0 => ?_
  refine WX.seq ?_
  refine WX.region rfl ?_
  refine WXL.assign Met.none rfl ?_
  refine WXL.nil ?_
  refine Fin.then_normal ?_
  refine WX.seq ?_
  refine WX.region rfl ?_
  refine WXL.move Met.none rfl ?_
  refine WXL.nilCheck Met.none rfl ?_
  first | refine WXL.fieldAddr Met.none rfl Try.underlying89 rfl sz4 rfl ?_ | refine WXL.faS Met.none rfl Try.underlying89 rfl sz4 ?_
  first | refine WXL.ld Met.none rfl agg4 ?_ | refine WXL.ldS Met.none rfl agg4 ?_
  refine WXL.not Met.none rfl ?_
  refine WXL.assign Met.none rfl ?_
  refine WXL.nil ?_
  refine Fin.then_normal ?_
  refine WX.ret ?_
  exact Fin.result (.inr rfl) rfl rfl drop_ ⟨rfl, rfl⟩

theorem fresh_ok (O : Objs) (room : Int) (hr : 0 ≤ room ∧ room ≤ 16777216) : Spec Try.prog false 29 #[I room] O fun v O' => ∃ d bm, v = Ptr d 0 ∧ O' = dkO d bm ⟨room, false, false, 0, []⟩ .new O := by
  refine Spec.enter (args := [_]) (m := 13) Try.func29 rfl rfl (by decide +kernel) fun h0 => ?_
  refine WX.seq ?_
  refine WX.region rfl ?_
  refine WXL.assign Met.none rfl ?_
  refine WXL.nil ?_
  refine Fin.then_normal ?_
  refine WX.seq ?_
  refine WX.region rfl ?_
  refine WXL.move Met.none rfl ?_
  refine WXL.cl (O1 := _) Met.none rfl (fnOk_of Try.func52 (by decide +kernel)) rfl (fun _ h => h) ((diskNew_ok O room).mono (Post' := fun v O' => ∃ d bm, v = .tuple #[Ptr d 0, I 0] ∧ O' = dkO d bm ⟨room, false, false, 0, []⟩ .new O) fun v O' h => by
  rcases h with ⟨_, _, h⟩ | ⟨h, _⟩
  · exact h
  · exact absurd hr h) (fun v O' hp => ?_)
  obtain ⟨d, bm, rfl, rfl⟩ := hp
  refine WXL.move Met.none rfl ?_
  refine WXL.extract Met.none rfl rfl ?_
  refine WXL.extract Met.none rfl rfl ?_
  refine WXL.assign Met.none rfl ?_
  refine WXL.assign Met.none rfl ?_
  refine WXL.nil ?_
  refine Fin.then_normal ?_
  refine WX.seq ?_
  refine WX.seq ?_
  refine WX.region rfl ?_
  refine WXL.move Met.none rfl ?_
  refine WXL.bin Met.none rfl rfl rfl ?_
  refine WXL.nil ?_
  refine Fin.then_normal ?_
  refine WX.cond rfl (fun hc0 => ?_) (fun hc0 => ?_)
  · try simp only [cnd] at hc0
    exact (by simp at hc0) --end
  · try simp only [cnd] at hc0
    refine WX.skip ?_
    refine Fin.then_normal ?_
    refine WX.seq ?_
    refine WX.region rfl ?_
    refine WXL.move Met.none rfl ?_
    refine WXL.assign Met.none rfl ?_
    refine WXL.nil ?_
    refine Fin.then_normal ?_
    refine WX.ret ?_
    exact Fin.result (.inr rfl) rfl rfl drop_ ⟨d, bm, rfl, rfl⟩

end Go.Proofs.Ythekokdpplobhaa.Eng

set_option linter.unusedVariables false
set_option linter.unusedSimpArgs false
namespace Go.Proofs.Ythekokdpplobhaa.Eng

theorem Spec.sub {P : Program} {q : Bool} {f : FuncId} {args : Array Value} {O : Objs} {Post Post' : Value → Objs → Prop} (h : Spec P q f args O Post) (hp : ∀ v O', Post v O' → ∃ O2, Post' v O2 ∧ ∀ g, Sat g O' → Sat g O2) : Spec P q f args O Post' := fun g hg => by
  obtain ⟨v, h', O', h1, h2, h3, h4⟩ := h g hg
  obtain ⟨O2, h5, h6⟩ := hp v O' h2
  exact ⟨v, h', O2, h1, h5, h6 _ h3, h4⟩

/-- What a log's Append comes to: the error, the disk then. -/
def lappD (D : Dk) (file n : Int) (down : Bool) (b : List Int) : Int × Dk :=
  if down = true then (23, D)
  else if (appendD D file (frameB n b)).1 ≠ 0 then appendD D file (frameB n b)
  else syncD (appendD D file (frameB n b)).2

theorem logLong_ok (O : Objs) (lg m c : Nat) (a : Option Addr) (hm : 65536 < m) : Spec Try.prog false 32 #[Ptr lg 0, .slice a m c] O fun v O' => v = I 4 ∧ O' = O := by
  refine Spec.enter (args := [_, _]) (m := 37) Try.func32 rfl rfl (by decide +kernel) fun h0 => ?_
  refine WX.seq ?_
  refine WX.region rfl ?_
  refine WXL.box (c := [_]) Met.none rfl rfl rfl (fun b2 => ?_)
  refine WXL.alloc (c := [_]) Met.none zero47 rfl (fun b4 => ?_)
  refine WXL.nil ?_
  refine Fin.then_normal ?_
  refine WX.seq ?_
  refine WX.seq ?_
  refine WX.region rfl ?_
  refine WXL.move Met.none rfl ?_
  refine WXL.len Met.none rfl Try.underlying23 ?_
  refine WXL.bin Met.none rfl rfl rfl ?_
  refine WXL.nil ?_
  refine Fin.then_normal ?_
  refine WX.cond rfl (fun hc0 => ?_) (fun hc0 => ?_)
  · try simp only [cnd] at hc0
    refine WX.seq ?_
    refine WX.region rfl ?_
    refine WXL.st (vs := [_]) (c' := [_]) (j := 0) Met.none rfl rfl rfl sz47 ?_ (hj := rfl)
    refine WXL.nil ?_
    refine Fin.then_normal ?_
    refine WX.ret ?_
    refine Fin.then_ret ?_
    exact Fin.results (O' := O) (.inr rfl) rfl (vs := [I 4]) ⟨⟨b4, 0, rfl, load_one at_ agg47 rfl⟩, trivial⟩ drop_ ⟨rfl, rfl⟩
  · try simp only [cnd] at hc0
    exact (by exfalso; omega) --end

theorem logAppend1 (R : Objs) {R0 : Objs} (lg d bm : Nat) (D : Dk) (mx : MapX) (file n : Int) (down : Bool) (b : List Int) (ab : Option Addr) (cb : Nat) (hD : DkI R0 D mx) (hi : ∀ g, Sat g R → Sat g R0) (hn : 0 ≤ n ∧ n < 1000000) (hB : Bytes b) (hl : b.length ≤ 65536) (hb : Src R 1 (.slice ab b.length cb) b.length (b.map B8)) :
    Spec Try.prog false 32 #[Ptr lg 0, .slice ab b.length cb] (lgO lg d file n down :: dkO d bm D mx R) fun v O' => ∃ b2 b4 mx' N, v = I (lappD D file n down b).1 ∧
      O' = (b4, ⟨0, false, [I (lappD D file n down b).1]⟩) :: (b2, ⟨0, false, [Ptr lg 0]⟩) :: lgO lg d file (if (lappD D file n down b).1 = 0 then n + 1 else n) (decide ((lappD D file n down b).1 = 23)) :: dkO d bm (lappD D file n down b).2 mx' (N ++ R) ∧ DkI (N ++ R0) (lappD D file n down b).2 mx' := by
  have key : ∀ (e : Int) (D' : Dk) (mx' : MapX) (N : Objs) (b2 b4 : Nat) (x : Cx) (L : Tmps) (O : Objs), lappD D file n down b = (e, D') → DkI (N ++ R0) D' mx' → getT L 4 = some (Ptr b4 0) → (∀ h, Sat h O → Sat h ((b4, ⟨0, false, [I e]⟩) :: (b2, ⟨0, false, [Ptr lg 0]⟩) :: lgO lg d file n down :: dkO d bm D' mx' (N ++ R))) →
      Fin x L O .ret (endD (lateW Try.prog Try.f32 fun v O' => ∃ b2 b4 mx' N, v = I (lappD D file n down b).1 ∧
      O' = (b4, ⟨0, false, [I (lappD D file n down b).1]⟩) :: (b2, ⟨0, false, [Ptr lg 0]⟩) :: lgO lg d file (if (lappD D file n down b).1 = 0 then n + 1 else n) (decide ((lappD D file n down b).1 = 23)) :: dkO d bm (lappD D file n down b).2 mx' (N ++ R) ∧ DkI (N ++ R0) (lappD D file n down b).2 mx') 56 #[Ptr b4 0, Ptr b2 0]) := by
    intro e D' mx' N b2 b4 x L O h1 h2 h3 h4
    refine Fin.late (.inr rfl) rfl h4 (late_ok (dkO d bm D' mx' (N ++ R)) b4 b2 lg d file n e down hn) (fun O2 h5 => ⟨[I e], ⟨⟨b4, 0, h3, by subst h5; exact load_one (Knows.at 0 rfl) agg47 rfl⟩, trivial⟩, ?_⟩)
    subst h5
    rw [h1]
    exact ⟨b2, b4, mx', N, rfl, rfl, h2⟩
  refine Spec.enterD (args := [_, _]) (m := 37) Try.func32 rfl rfl (by decide +kernel) fun h0 => ?_
  refine WXD.seq ?_
  refine WX.region rfl ?_
  refine WXL.box (c := [_]) Met.none rfl rfl rfl (fun b2 => ?_)
  refine WXL.alloc (c := [_]) Met.none zero47 rfl (fun b4 => ?_)
  refine WXL.nil ?_
  refine Fin.thenD ?_
  refine WXD.seq ?_
  refine WX.seq ?_
  refine WX.region rfl ?_
  refine WXL.move Met.none rfl ?_
  refine WXL.len Met.none rfl Try.underlying23 ?_
  refine WXL.bin Met.none rfl rfl rfl ?_
  refine WXL.nil ?_
  refine Fin.then_normal ?_
  refine WX.cond rfl (fun hc0 => ?_) (fun hc0 => ?_)
  · try simp only [cnd] at hc0
    exact (by exfalso; omega) --end
  · try simp only [cnd] at hc0
    refine WX.skip ?_
    refine Fin.thenD ?_
    refine WXD.here rfl ?_
    refine WX.seq ?_
    refine WX.seq ?_
    refine WX.region rfl ?_
    first | refine WXL.ld Met.none rfl agg53 ?_ | refine WXL.ldS Met.none rfl agg53 ?_
    refine WXL.nilCheck Met.none rfl ?_
    first | refine WXL.fieldAddr Met.none rfl Try.underlying89 rfl sz4 rfl ?_ | refine WXL.faS Met.none rfl Try.underlying89 rfl sz4 ?_
    first | refine WXL.ld Met.none rfl agg4 ?_ | refine WXL.ldS Met.none rfl agg4 ?_
    refine WXL.nil ?_
    refine Fin.then_normal ?_
    refine WX.cond rfl (fun hc1 => ?_) (fun hc1 => ?_)
    · try simp only [cnd] at hc1
      refine WX.seq ?_
      refine WX.region rfl ?_
      refine WXL.st (vs := [_]) (c' := [_]) (j := 0) Met.none rfl rfl rfl sz47 ?_ (hj := rfl)
      refine WXL.nil ?_
      refine Fin.then_normal ?_
      refine WX.ret ?_
      refine Fin.then_ret ?_
      first
      | exact key 23 D mx [] _ _ _ _ _ (by unfold lappD; rw [if_pos (by assumption)]) hD rfl (fun _ hs => hs)
      | exact key _ _ mx1 N1 _ _ _ _ _ (by unfold lappD; rw [if_neg (by simp [hc1]), if_pos hc2]) hD1 rfl (fun _ hs => hs)
      | exact key _ _ mx2 N1 _ _ _ _ _ (by unfold lappD; rw [if_neg (by simp [hc1]), if_neg (by omega)]) hD2 rfl (fun _ hs => hs)
    · try simp only [cnd] at hc1
      refine WX.skip ?_
      refine Fin.then_normal ?_
      refine WX.seq ?_
      refine WX.seq ?_
      refine WX.draw rfl ?_
      first | refine WXL.ld Met.none rfl agg53 ?_ | refine WXL.ldS Met.none rfl agg53 ?_
      refine WXL.nilCheck Met.none rfl ?_
      first | refine WXL.fieldAddr Met.none rfl Try.underlying89 rfl sz51 rfl ?_ | refine WXL.faS Met.none rfl Try.underlying89 rfl sz51 ?_
      first | refine WXL.ld Met.none rfl agg51 ?_ | refine WXL.ldS Met.none rfl agg51 ?_
      first | refine WXL.ld Met.none rfl agg53 ?_ | refine WXL.ldS Met.none rfl agg53 ?_
      refine WXL.nilCheck Met.none rfl ?_
      first | refine WXL.fieldAddr Met.none rfl Try.underlying89 rfl sz3 rfl ?_ | refine WXL.faS Met.none rfl Try.underlying89 rfl sz3 ?_
      first | refine WXL.ld Met.none rfl agg3 ?_ | refine WXL.ldS Met.none rfl agg3 ?_
      first | refine WXL.ld Met.none rfl agg53 ?_ | refine WXL.ldS Met.none rfl agg53 ?_
      refine WXL.nilCheck Met.none rfl ?_
      first | refine WXL.fieldAddr Met.none rfl Try.underlying89 rfl sz3 rfl ?_ | refine WXL.faS Met.none rfl Try.underlying89 rfl sz3 ?_
      first | refine WXL.ld Met.none rfl agg3 ?_ | refine WXL.ldS Met.none rfl agg3 ?_
      refine WXL.move Met.none rfl ?_
      refine WXL.cl (O1 := _) Met.none rfl (fnOk_of Try.func12 (by decide +kernel)) rfl (fun _ h => h) (frame_q _ n b ab cb (by unfold In64; omega) hB (by omega) (Src.cons (Src.cons (Src.cons (Src.cons (Src.cons hb)))))) (fun v O' hp => ?_)
      obtain ⟨a27, c27, G27, rfl, hG27, rfl⟩ := hp
      refine WXL.cl (O1 := dkO d bm D mx (G27 ++ ((b4, ⟨0, false, [.int .i64 0]⟩) :: (b2, ⟨0, false, [Ptr lg 0]⟩) :: lgO lg d file n down :: R))) Met.none rfl (fnOk_of Try.func35 (by decide +kernel)) rfl sub_ (diskAppend_ok (G27 ++ ((b4, ⟨0, false, [.int .i64 0]⟩) :: (b2, ⟨0, false, [Ptr lg 0]⟩) :: lgO lg d file n down :: R)) d bm D mx file (frameB n b) a27 c27 hD (fun g hg => hi g hg.app_right.tail.tail.tail) hG27.src (frameB_bytes hB)) (fun v O' hp => ?_)
      obtain ⟨mx1, N1, rfl, rfl, hD1⟩ := hp
      refine WXL.assign Met.none rfl ?_
      refine WXL.nil ?_
      refine Fin.then_normal ?_
      refine WX.seq ?_
      refine WX.re (O' := (b4, ⟨0, false, [.int .i64 0]⟩) :: (b2, ⟨0, false, [Ptr lg 0]⟩) :: lgO lg d file n down :: dkO d bm (appendD D file (frameB n b)).2 mx1 (N1 ++ R)) ?_
      refine WX.region rfl ?_
      refine WXL.move Met.none rfl ?_
      refine WXL.bin Met.none rfl rfl rfl ?_
      refine WXL.nil ?_
      refine Fin.then_normal ?_
      refine WX.cond rfl (fun hc2 => ?_) (fun hc2 => ?_)
      · try simp only [cnd] at hc2
        refine WX.seq ?_
        refine WX.region rfl ?_
        refine WXL.move Met.none rfl ?_
        refine WXL.st (vs := [_]) (c' := [_]) (j := 0) Met.none rfl rfl rfl sz47 ?_ (hj := rfl)
        refine WXL.nil ?_
        refine Fin.then_normal ?_
        refine WX.ret ?_
        refine Fin.then_ret ?_
        first
        | exact key 23 D mx [] _ _ _ _ _ (by unfold lappD; rw [if_pos (by assumption)]) hD rfl (fun _ hs => hs)
        | exact key _ _ mx1 N1 _ _ _ _ _ (by unfold lappD; rw [if_neg (by simp [hc1]), if_pos hc2]) hD1 rfl (fun _ hs => hs)
        | exact key _ _ mx2 N1 _ _ _ _ _ (by unfold lappD; rw [if_neg (by simp [hc1]), if_neg (by omega)]) hD2 rfl (fun _ hs => hs)
      · try simp only [cnd] at hc2
        refine WX.skip ?_
        refine Fin.then_normal ?_
        refine WX.seq ?_
        refine WX.region rfl ?_
        first | refine WXL.ld Met.none rfl agg53 ?_ | refine WXL.ldS Met.none rfl agg53 ?_
        refine WXL.nilCheck Met.none rfl ?_
        first | refine WXL.fieldAddr Met.none rfl Try.underlying89 rfl sz51 rfl ?_ | refine WXL.faS Met.none rfl Try.underlying89 rfl sz51 ?_
        first | refine WXL.ld Met.none rfl agg51 ?_ | refine WXL.ldS Met.none rfl agg51 ?_
        refine WXL.cl (O1 := dkO d bm (appendD D file (frameB n b)).2 mx1 ((b4, ⟨0, false, [.int .i64 0]⟩) :: (b2, ⟨0, false, [Ptr lg 0]⟩) :: lgO lg d file n down :: (N1 ++ R))) Met.none rfl (fnOk_of Try.func55 (by decide +kernel)) rfl sub_ (sync_ok _ d bm (appendD D file (frameB n b)).2 mx1 hD1) (fun v O' hp => ?_)
        obtain ⟨mx2, rfl, rfl, hD2⟩ := hp
        refine WXL.re (O' := (b4, ⟨0, false, [.int .i64 0]⟩) :: (b2, ⟨0, false, [Ptr lg 0]⟩) :: lgO lg d file n down :: dkO d bm (syncD (appendD D file (frameB n b)).2).2 mx2 (N1 ++ R)) ?_
        refine WXL.st (vs := [_]) (c' := [_]) (j := 0) Met.none rfl rfl rfl sz47 ?_ (hj := rfl)
        refine WXL.nil ?_
        refine Fin.then_normal ?_
        refine WX.ret ?_
        first
        | exact key 23 D mx [] _ _ _ _ _ (by unfold lappD; rw [if_pos (by assumption)]) hD rfl (fun _ hs => hs)
        | exact key _ _ mx1 N1 _ _ _ _ _ (by unfold lappD; rw [if_neg (by simp [hc1]), if_pos hc2]) hD1 rfl (fun _ hs => hs)
        | exact key _ _ mx2 N1 _ _ _ _ _ (by unfold lappD; rw [if_neg (by simp [hc1]), if_neg (by omega)]) hD2 rfl (fun _ hs => hs)

theorem logAppend_ok (R : Objs) {R0 : Objs} (lg d bm : Nat) (D : Dk) (mx : MapX) (file n : Int) (down : Bool) (b : List Int) (ab : Option Addr) (cb : Nat) (hD : DkI R0 D mx) (hi : ∀ g, Sat g R → Sat g R0) (hn : 0 ≤ n ∧ n < 1000000) (hB : Bytes b) (hl : b.length ≤ 65536) (hb : Src R 1 (.slice ab b.length cb) b.length (b.map B8)) :
    Spec Try.prog false 32 #[Ptr lg 0, .slice ab b.length cb] (lgO lg d file n down :: dkO d bm D mx R) fun v O' => ∃ mx' N, v = I (lappD D file n down b).1 ∧
      O' = lgO lg d file (if (lappD D file n down b).1 = 0 then n + 1 else n) (decide ((lappD D file n down b).1 = 23)) :: dkO d bm (lappD D file n down b).2 mx' (N ++ R) ∧ DkI (N ++ R0) (lappD D file n down b).2 mx' :=
  (logAppend1 R lg d bm D mx file n down b ab cb hD hi hn hB hl hb).sub fun v O' ⟨b2, b4, mx', N, h1, h2, h3⟩ => ⟨_, ⟨mx', N, h1, rfl, h3⟩, fun g hg => by rw [h2] at hg; exact hg.tail.tail⟩

end Go.Proofs.Ythekokdpplobhaa.Eng

set_option linter.unusedVariables false
set_option linter.unusedSimpArgs false
namespace Go.Proofs.Ythekokdpplobhaa.Eng

theorem scan_nil (i : Nat) : scanP i [] = ([], 0) := scan_short i (by decide)

theorem recs_frames {l : List (List Int)} (h : l.length ≤ 1000000) (hx : ∀ x ∈ l, x.length ≤ 1000000) : recsP (framesB 0 l) = l ∧ endP (framesB 0 l) l.length = (framesB 0 l).length := by
  have h1 := scanP_frames [] l 0 (by omega) (fun x hx' => by have := hx x hx'; omega)
  rw [List.append_nil, scan_nil] at h1
  have h2 : recsP (framesB 0 l) = l := by unfold recsP; rw [h1]; simp
  refine ⟨h2, ?_⟩
  unfold endP
  rw [h2, List.take_length]

/-- The power is on and stays on. -/
structure Still (D : Dk) : Prop where
  off : D.off = false
  armed : D.armed = false

theorem calm_step {D : Dk} (h : Still D) : stepD D = (true, D) := by
  unfold stepD
  rw [if_pos h.armed]

theorem get_hard (fs : List (Int × Fi)) (k : Int) : getF (hardAll fs) k = (getF fs k).hard ∨ (getF (hardAll fs) k = ⟨[], 0⟩ ∧ getF fs k = ⟨[], 0⟩) := by
  induction fs with
  | nil => exact .inr ⟨rfl, rfl⟩
  | cons e l ih =>
    obtain ⟨n, f⟩ := e
    unfold getF hardAll at ih ⊢
    simp only [List.map_cons, mget]
    by_cases q : k = n
    · rw [if_pos q, if_pos q]; exact .inl rfl
    · rw [if_neg q, if_neg q]; exact ih

theorem get_hard_bs (fs : List (Int × Fi)) (k : Int) : (getF (hardAll fs) k).bs = (getF fs k).bs := by
  rcases get_hard fs k with h | ⟨h1, h2⟩
  · rw [h]; rfl
  · rw [h1, h2]

theorem get_set {fs : List (Int × Fi)} {k : Int} {f : Fi} (h : f.bs ≠ []) : getF (setF fs k f) k = f := by
  unfold setF
  rw [if_neg h]
  exact get_put

theorem get_put_ne {fs : List (Int × Fi)} {k j : Int} {f : Fi} (h : j ≠ k) : getF (mput k f fs) j = getF fs j := by
  unfold getF
  induction fs with
  | nil => simp [mput, mget, h]
  | cons e l ih =>
    obtain ⟨n, v⟩ := e
    simp only [mput]
    by_cases q : k = n
    · rw [if_pos q]; subst q; simp only [mget]; rw [if_neg h, if_neg h]
    · rw [if_neg q]
      simp only [mget]
      split
      · rfl
      · exact ih

theorem get_set_ne {fs : List (Int × Fi)} {k j : Int} {f : Fi} (h : j ≠ k) (hb : f.bs ≠ []) : getF (setF fs k f) j = getF fs j := by
  unfold setF
  rw [if_neg hb]
  exact get_put_ne h

theorem sync_calm {D : Dk} (h : Still D) : ∃ D', syncD D = (0, D') ∧ Still D' ∧ D'.room = D.room ∧ used D'.fs = used D.fs ∧ ∀ k, (getF D'.fs k).bs = (getF D.fs k).bs := by
  unfold syncD
  rw [if_neg (by rw [h.off]; simp), calm_step h, if_neg (by simp)]
  exact ⟨_, rfl, ⟨h.off, h.armed⟩, rfl, used_hard _, fun k => get_hard_bs _ k⟩

/-- An append that fits. -/
theorem append_calm {D : Dk} (h : Still D) {file : Int} (hf : 0 ≤ file ∧ file < 64) {b : List Int} (hb : b ≠ []) (hfit : (b.length : Int) ≤ D.room - used D.fs) : ∃ D', appendD D file b = (0, D') ∧ Still D' ∧ D'.room = D.room ∧ used D'.fs = used D.fs + b.length ∧ (getF D'.fs file).bs = (getF D.fs file).bs ++ b ∧ ∀ k, k ≠ file → (getF D'.fs k).bs = (getF D.fs k).bs := by
  have hc : Still (appD1 D file b) := ⟨h.off, h.armed⟩
  have hne : (getF D.fs file).bs ++ b ≠ [] := fun q => hb (List.append_eq_nil_iff.1 q).2
  unfold appendD
  rw [if_neg (by omega), if_neg (by rw [h.off]; simp), if_neg (by omega), calm_step hc, if_pos rfl]
  refine ⟨_, rfl, hc, rfl, ?_, ?_, fun k hk => ?_⟩
  · show used (setF D.fs file _) = _
    rw [used_set, List.length_append]
    omega
  · show (getF (setF D.fs file _) file).bs = _
    rw [get_set hne]
  · show (getF (setF D.fs file _) k).bs = _
    rw [get_set_ne hk hne]

theorem append_full {D : Dk} (h : Still D) {file : Int} (hf : 0 ≤ file ∧ file < 64) {b : List Int} (hfit : (b.length : Int) > D.room - used D.fs) : appendD D file b = (22, D) := by
  unfold appendD
  rw [if_neg (by omega), if_neg (by rw [h.off]; simp), if_pos hfit]

theorem frameB_ne (i : Int) (x : List Int) : frameB i x ≠ [] := fun q => by
  have := frameB_four i x
  rw [q] at this
  simp at this

theorem lapp_calm {D : Dk} (h : Still D) {file n : Int} (hf : 0 ≤ file ∧ file < 64) {b : List Int} (hfit : used D.fs + (frameB n b).length ≤ D.room) : ∃ D', lappD D file n false b = (0, D') ∧ Still D' ∧ D'.room = D.room ∧ used D'.fs = used D.fs + (frameB n b).length ∧ (getF D'.fs file).bs = (getF D.fs file).bs ++ frameB n b ∧ ∀ k, k ≠ file → (getF D'.fs k).bs = (getF D.fs k).bs := by
  obtain ⟨D1, e1, c1, r1, u1, g1, o1⟩ := append_calm h hf (frameB_ne n b) (by omega)
  obtain ⟨D2, e2, c2, r2, u2, g2⟩ := sync_calm c1
  unfold lappD
  rw [if_neg (by simp), e1, if_neg (by simp), e2]
  exact ⟨D2, rfl, c2, by rw [r2, r1], by rw [u2, u1], by rw [g2, g1], fun k hk => by rw [g2, o1 k hk]⟩

theorem lapp_full {D : Dk} (h : Still D) {file n : Int} (hf : 0 ≤ file ∧ file < 64) {b : List Int} (hfit : used D.fs + (frameB n b).length > D.room) : lappD D file n false b = (22, D) := by
  unfold lappD
  rw [if_neg (by simp), append_full h hf (by omega), if_pos (by simp)]

/-- A file that is a sequence of frames is opened as it is. -/
theorem open_calm {D : Dk} (h : Still D) {file : Int} (hf : 0 ≤ file ∧ file < 64) {l : List (List Int)} (hl : l.length ≤ 1000000) (hx : ∀ x ∈ l, x.length ≤ 1000000) (hb : (getF D.fs file).bs = framesB 0 l) : ∃ D', openD D file = (0, D') ∧ Still D' ∧ D'.room = D.room ∧ used D'.fs = used D.fs ∧ ∀ k, (getF D'.fs k).bs = (getF D.fs k).bs := by
  obtain ⟨r1, r2⟩ := recs_frames hl hx
  have e1 : readD D file = (framesB 0 l, 0) := by
    unfold readD
    rw [if_neg (by omega), if_neg (by rw [h.off]; simp), hb]
  have e2 : openT D file = (0, D) := by
    unfold openT
    rw [hb, r1, r2, if_neg (by omega)]
  unfold openD
  rw [e1, if_neg (by simp), e2, if_neg (by simp)]
  exact sync_calm h

theorem open_far {D : Dk} {file : Int} (hf : ¬ (0 ≤ file ∧ file < 64)) : openD D file = (1, D) := by
  have e1 : readD D file = ([], 1) := by unfold readD; rw [if_pos hf]
  unfold openD
  rw [e1, if_pos (by simp)]

theorem open_good (R : Objs) {R0 : Objs} (d bm : Nat) (D D' : Dk) (mx : MapX) (file : Int) (l : List (List Int)) (hD : DkI R0 D mx) (hi : ∀ g, Sat g R → Sat g R0) (hl : (getF D.fs file).bs.length ≤ 100000) (h0 : openD D file = (0, D')) (hr : recsP (getF D.fs file).bs = l) :
    Spec Try.prog false 30 #[Ptr d 0, I file] (dkO d bm D mx R) fun v O' => ∃ mx' lg ao co vs Gg Rg, v = .tuple #[Ptr lg 0, .slice ao l.length co, I 0] ∧ Grow 1 ao l.length co vs Gg ∧ AreB Rg vs l ∧
          O' = lgO lg d file l.length false :: dkO d bm D' mx' (Gg ++ (Rg ++ R)) ∧ DkI R0 D' mx' :=
  (open_ok R d bm D mx file hD hi hl).mono fun v O' ⟨mx', h⟩ => by
    rw [h0, hr] at h
    rcases h with ⟨_, lg, ao, co, vs, Gg, Rg, h1, h2, h3, h4, h5⟩ | ⟨h, _⟩
    · exact ⟨mx', lg, ao, co, vs, Gg, Rg, h1, h2, h3, h4, h5⟩
    · exact absurd rfl h

theorem open_bad (R : Objs) {R0 : Objs} (d bm : Nat) (D D' : Dk) (mx : MapX) (file e : Int) (hD : DkI R0 D mx) (hi : ∀ g, Sat g R → Sat g R0) (hl : (getF D.fs file).bs.length ≤ 100000) (h0 : openD D file = (e, D')) (he : e ≠ 0) :
    Spec Try.prog false 30 #[Ptr d 0, I file] (dkO d bm D mx R) fun v O' => ∃ mx' N, v = .tuple #[.pointer none, .slice none 0 0, I e] ∧ O' = dkO d bm D' mx' (N ++ R) ∧ DkI R0 D' mx' :=
  (open_ok R d bm D mx file hD hi hl).mono fun v O' ⟨mx', h⟩ => by
    rw [h0] at h
    rcases h with ⟨h, _⟩ | ⟨_, N, h1, h2, h3⟩
    · exact absurd h he
    · exact ⟨mx', N, h1, h2, h3⟩

end Go.Proofs.Ythekokdpplobhaa.Eng

set_option linter.unusedVariables false
set_option linter.unusedSimpArgs false
namespace Go.Proofs.Ythekokdpplobhaa.Eng

/-- All bytes are durable. -/
def Firm (D : Dk) : Prop := ∀ k, getF D.fs k = (getF D.fs k).hard

theorem hard_hard (f : Fi) : f.hard.hard = f.hard := rfl

theorem sync_firm {D : Dk} (h : Still D) : ∃ D', syncD D = (0, D') ∧ Still D' ∧ D'.room = D.room ∧ used D'.fs = used D.fs ∧ Firm D' ∧ ∀ k, (getF D'.fs k).bs = (getF D.fs k).bs := by
  unfold syncD
  rw [if_neg (by rw [h.off]; simp), calm_step h, if_neg (by simp)]
  exact ⟨_, rfl, ⟨h.off, h.armed⟩, rfl, used_hard _, (fun k => by rw [get_hardE, hard_hard]), fun k => by rw [get_hardE]; rfl⟩

theorem append_still {D : Dk} (h : Still D) (hnd : (D.fs.map (·.1)).Nodup) {file : Int} (hf : 0 ≤ file ∧ file < 64) {b : List Int} (hfit : (b.length : Int) ≤ D.room - used D.fs) : ∃ D', appendD D file b = (0, D') ∧ Still D' ∧ D'.room = D.room ∧ used D'.fs = used D.fs + b.length ∧ ∀ k, (getF D'.fs k).bs = if k = file then (getF D.fs file).bs ++ b else (getF D.fs k).bs := by
  have hc : Still (appD1 D file b) := ⟨h.off, h.armed⟩
  unfold appendD
  rw [if_neg (by omega), if_neg (by rw [h.off]; simp), if_neg (by omega), calm_step hc, if_pos rfl]
  refine ⟨_, rfl, hc, rfl, ?_, fun k => ?_⟩
  · show used (setF D.fs file _) = _
    rw [used_set, List.length_append]
    omega
  · show (getF (setF D.fs file _) k).bs = _
    rw [get_set' hnd]
    by_cases hk : k = file
    · rw [if_pos hk, if_pos hk]
      split
      · rename_i q; exact q.symm
      · rfl
    · rw [if_neg hk, if_neg hk]

theorem trunc_still {D : Dk} (h : Still D) (hnd : (D.fs.map (·.1)).Nodup) {file : Int} (hf : 0 ≤ file ∧ file < 64) {n : Nat} (hn : n ≤ (getF D.fs file).bs.length) : ∃ D', truncD D file (n : Nat) = (0, D') ∧ Still D' ∧ D'.room = D.room ∧ used D'.fs = used D.fs - (getF D.fs file).bs.length + n ∧ ∀ k, (getF D'.fs k).bs = if k = file then (getF D.fs file).bs.take n else (getF D.fs k).bs := by
  unfold truncD
  rw [if_neg (by omega), if_neg (by rw [h.off]; simp), calm_step h, if_neg (by simp)]
  refine ⟨_, rfl, ⟨h.off, h.armed⟩, rfl, ?_, fun k => ?_⟩
  · show used (setF D.fs file _) = _
    rw [used_set]
    simp only [List.length_take, Int.toNat_natCast]
    omega
  · show (getF (setF D.fs file _) k).bs = _
    rw [get_set' hnd]
    by_cases hk : k = file
    · rw [if_pos hk, if_pos hk]
      split
      · rename_i q
        simp only [Int.toNat_natCast] at q
        exact q.symm
      · rfl
    · rw [if_neg hk, if_neg hk]

/-- What Open comes to on a disk that stays on: the file keeps its frames. -/
theorem open_still {D : Dk} (h : Still D) (hnd : (D.fs.map (·.1)).Nodup) {file : Int} (hf : 0 ≤ file ∧ file < 64) {n : Nat} (hn : endP (getF D.fs file).bs (recsP (getF D.fs file).bs).length = n) :
    ∃ D', openD D file = (0, D') ∧ Still D' ∧ D'.room = D.room ∧ used D'.fs = used D.fs - (getF D.fs file).bs.length + n ∧ Firm D' ∧ ∀ k, (getF D'.fs k).bs = if k = file then (getF D.fs file).bs.take n else (getF D.fs k).bs := by
  have hle := endP_le (getF D.fs file).bs (recsP (getF D.fs file).bs).length
  rw [hn] at hle
  have e1 : readD D file = ((getF D.fs file).bs, 0) := by
    unfold readD
    rw [if_neg (by omega), if_neg (by rw [h.off]; simp)]
  unfold openD
  rw [e1, if_neg (by simp)]
  unfold openT
  rw [hn]
  by_cases hq : n < (getF D.fs file).bs.length
  · obtain ⟨D1, t1, t2, t3, t4, t5⟩ := trunc_still h hnd hf hle
    obtain ⟨D2, s1, s2, s3, s4, s5, s6⟩ := sync_firm t2
    rw [if_pos hq, t1, if_neg (by simp), s1]
    exact ⟨D2, rfl, s2, by rw [s3, t3], by rw [s4, t4], s5, fun k => by rw [s6, t5]⟩
  · obtain ⟨D2, s1, s2, s3, s4, s5, s6⟩ := sync_firm h
    rw [if_neg hq, if_neg (by simp), s1]
    refine ⟨D2, rfl, s2, s3, by rw [s4]; omega, s5, fun k => ?_⟩
    rw [s6]
    by_cases hk : k = file
    · rw [if_pos hk, hk, List.take_of_length_le (by omega)]
    · rw [if_neg hk]

theorem recs_short {b : List Int} (h : b.length < 4) : recsP b = [] ∧ endP b (recsP b).length = 0 := by
  have h1 : recsP b = [] := by unfold recsP; rw [scan_short _ h]
  refine ⟨h1, ?_⟩
  rw [h1]
  rfl

theorem recs_end {l : List (List Int)} (h : l.length ≤ 1000000) (hx : ∀ x ∈ l, x.length ≤ 1000000) : endP (framesB 0 l) (recsP (framesB 0 l)).length = (framesB 0 l).length := by
  obtain ⟨h1, h2⟩ := recs_frames h hx
  rw [h1, h2]

theorem lapp_still {D : Dk} (h : Still D) (hnd : (D.fs.map (·.1)).Nodup) {file n : Int} (hf : 0 ≤ file ∧ file < 64) {b : List Int} (hfit : used D.fs + (frameB n b).length ≤ D.room) : ∃ D', lappD D file n false b = (0, D') ∧ Still D' ∧ D'.room = D.room ∧ used D'.fs = used D.fs + (frameB n b).length ∧ Firm D' ∧ ∀ k, (getF D'.fs k).bs = if k = file then (getF D.fs file).bs ++ frameB n b else (getF D.fs k).bs := by
  obtain ⟨D1, e1, c1, r1, u1, g1⟩ := append_still h hnd hf (b := frameB n b) (by omega)
  obtain ⟨D2, e2, c2, r2, u2, f2, g2⟩ := sync_firm c1
  unfold lappD
  rw [if_neg (by simp), e1, if_neg (by simp), e2]
  exact ⟨D2, rfl, c2, by rw [r2, r1], by rw [u2, u1], f2, fun k => by rw [g2, g1]⟩

/-- A crash leaves durable bytes alone. -/
theorem crash_firm {D : Dk} {R0 : Objs} {mx : MapX} (hD : DkI R0 D mx) (h : Firm D) (keep : List Int) {flip : Int} (hf : flip < 0) (m : Int) : ((mget m (crashC D keep flip)).getD ⟨[], 0⟩).hard = getF D.fs m := by
  have hcc : crashC D keep flip = cuts D keep (fnos D).length := by
    unfold crashC
    simp only
    rw [if_neg (by omega)]
  rw [hcc]
  by_cases hm : m ∈ fnos D
  · obtain ⟨i, hi, he⟩ := List.getElem_of_mem hm
    have hnd : ((cuts D keep (fnos D).length).map (·.1)).Nodup := by rw [cuts_keys D keep _ (Nat.le_refl _), List.take_length]; exact fnos_nd hD
    have hn : nth (fnos D) i = m := by rw [nth_get hi, he]
    rw [mget_some hnd (v := cutF keep i (getF D.fs m)) (by
      unfold cuts
      refine List.mem_map.2 ⟨i, List.mem_range.2 hi, ?_⟩
      unfold cutAt
      rw [hn])]
    have hd := hD.get_d m
    have hk := keepN_range keep i hd
    have hfd : (getF D.fs m).d = (getF D.fs m).bs.length := congrArg Fi.d (h m)
    have h0 : keepN keep i (getF D.fs m) = 0 := by omega
    show (cutF keep i (getF D.fs m)).hard = _
    unfold cutF
    rw [h0, hfd, Int.add_zero, Int.toNat_natCast, List.take_length, h m]
    rfl
  · have h1 : getF D.fs m = ⟨[], 0⟩ := by
      unfold getF
      rw [mget_none (fun e => hm (fnos_mem.2 e))]
      rfl
    rw [mget_none (by rw [cuts_keys D keep _ (Nat.le_refl _), List.take_length]; exact hm), h1]
    rfl

/-- Two logs on one disk: their records. -/
structure Two (A C : List (List Int)) (D : Dk) (mx : MapX) (N : Objs) : Prop where
  still : Still D
  room : D.room = 5000
  firm : Firm D
  used : used D.fs = (framesB 0 A).length + (framesB 0 C).length
  a : (getF D.fs 3).bs = framesB 0 A
  c : (getF D.fs 4).bs = framesB 0 C
  dk : DkI N D mx

theorem framesB_one' (kept : List (List Int)) (x : List Int) : framesB 0 (kept ++ [x]) = framesB 0 kept ++ frameB (kept.length : Nat) x := by
  rw [framesB_snoc, Nat.zero_add]

theorem two_a {A C : List (List Int)} {D : Dk} {mx : MapX} {N : Objs} (h : Two A C D mx N) {x : List Int} (hfit : (framesB 0 A).length + (framesB 0 C).length + (frameB (A.length : Nat) x).length ≤ 5000) :
    ∃ D', lappD D 3 (A.length : Nat) false x = (0, D') ∧ ∀ N' mx', DkI N' D' mx' → Two (A ++ [x]) C D' mx' N' := by
  obtain ⟨D', e1, s1, r1, u1, f1, g1⟩ := lapp_still h.still h.dk.di.nd (file := 3) (n := ((A.length : Nat) : Int)) (b := x) (by decide) (by rw [h.used, h.room]; omega)
  refine ⟨D', e1, fun N' mx' hD => ⟨s1, by rw [r1, h.room], f1, ?_, ?_, ?_, hD⟩⟩
  · rw [u1, h.used, framesB_one', List.length_append]; omega
  · rw [g1, if_pos rfl, h.a, framesB_one']
  · rw [g1, if_neg (by decide), h.c]

theorem two_c {A C : List (List Int)} {D : Dk} {mx : MapX} {N : Objs} (h : Two A C D mx N) {x : List Int} (hfit : (framesB 0 A).length + (framesB 0 C).length + (frameB (C.length : Nat) x).length ≤ 5000) :
    ∃ D', lappD D 4 (C.length : Nat) false x = (0, D') ∧ ∀ N' mx', DkI N' D' mx' → Two A (C ++ [x]) D' mx' N' := by
  obtain ⟨D', e1, s1, r1, u1, f1, g1⟩ := lapp_still h.still h.dk.di.nd (file := 4) (n := ((C.length : Nat) : Int)) (b := x) (by decide) (by rw [h.used, h.room]; omega)
  refine ⟨D', e1, fun N' mx' hD => ⟨s1, by rw [r1, h.room], f1, ?_, ?_, ?_, hD⟩⟩
  · rw [u1, h.used, framesB_one', List.length_append]; omega
  · rw [g1, if_neg (by decide), h.a]
  · rw [g1, if_pos rfl, h.c, framesB_one']

end Go.Proofs.Ythekokdpplobhaa.Eng

set_option linter.unusedVariables false
set_option linter.unusedSimpArgs false
namespace Go.Proofs.Ythekokdpplobhaa.Eng

theorem arm_ok (R : Objs) (d bm : Nat) (D : Dk) (mx : MapX) (n : Int) : Spec Try.prog false 37 #[Ptr d 0, I n] (dkO d bm D mx R) fun v O' => O' = dkO d bm (if D.off = true then D else { D with armed := decide (0 ≤ n), left := n }) mx R := by
  refine Spec.enter (args := [_, _]) (m := 18) Try.func37 rfl rfl (by decide +kernel) fun h0 => ?_
  refine WX.seq ?_
  refine WX.region rfl ?_
  refine WXL.move Met.none rfl ?_
  refine WXL.nilCheck Met.none rfl ?_
  first | refine WXL.fieldAddr Met.none rfl Try.underlying92 rfl sz4 rfl ?_ | refine WXL.faS Met.none rfl Try.underlying92 rfl sz4 ?_
  first | refine WXL.ld Met.none rfl agg4 ?_ | refine WXL.ldS Met.none rfl agg4 ?_
  refine WXL.not Met.none rfl ?_
  refine WXL.nil ?_
  refine Fin.then_normal ?_
  refine WX.cond rfl (fun hc0 => ?_) (fun hc0 => ?_)
  · try simp only [cnd] at hc0
    refine WX.region rfl ?_
    refine WXL.move Met.none rfl ?_
    refine WXL.move Met.none rfl ?_
    refine WXL.move Met.none rfl ?_
    refine WXL.bin Met.none rfl rfl rfl ?_
    refine WXL.move Met.none rfl ?_
    refine WXL.nilCheck Met.none rfl ?_
    first | refine WXL.fieldAddr Met.none rfl Try.underlying92 rfl sz4 rfl ?_ | refine WXL.faS Met.none rfl Try.underlying92 rfl sz4 ?_
    refine WXL.st (vs := [_]) (j := 0) Met.none rfl rfl rfl sz4 ?_ (hj := rfl)
    refine WXL.nilCheck Met.none rfl ?_
    first | refine WXL.fieldAddr Met.none rfl Try.underlying92 rfl sz3 rfl ?_ | refine WXL.faS Met.none rfl Try.underlying92 rfl sz3 ?_
    refine WXL.st (vs := [_]) (j := 0) Met.none rfl rfl rfl sz3 ?_ (hj := rfl)
    refine WXL.nil ?_
    first
    | exact Fin.result (O' := dkO d bm { D with armed := decide (0 ≤ n), left := n } mx R) (.inl rfl) rfl rfl drop_ (by rw [if_neg (by simp [hc0])])
    | exact Fin.result (O' := dkO d bm D mx R) (.inl rfl) rfl rfl drop_ (by rw [if_pos hc0])
  · try simp only [cnd] at hc0
    refine WX.skip ?_
    first
    | exact Fin.result (O' := dkO d bm { D with armed := decide (0 ≤ n), left := n } mx R) (.inl rfl) rfl rfl drop_ (by rw [if_neg (by simp [hc0])])
    | exact Fin.result (O' := dkO d bm D mx R) (.inl rfl) rfl rfl drop_ (by rw [if_pos hc0])

/-! ### One file -/
/-- Nothing but this file. -/
def Only (k : Int) (D : Dk) : Prop := ∀ j, j ≠ k → (getF D.fs j).bs = []

theorem used_only {R : Objs} {D : Dk} {mx : MapX} (hD : DkI R D mx) {k : Int} (h : Only k D) : used D.fs = (getF D.fs k).bs.length := by
  have hk : ∀ e ∈ D.fs, e.1 = k := fun e he => by
    by_cases q : e.1 = k
    · exact q
    · have h1 : getF D.fs e.1 = e.2 := by
        unfold getF
        rw [mget_some hD.di.nd (v := e.2) he]
        rfl
      have h2 := h e.1 q
      rw [h1] at h2
      exact absurd h2 (hD.ok e he).2.1
  have hn := hD.di.nd
  generalize D.fs = fs at hk hn
  cases fs with
  | nil => rfl
  | cons e l =>
    have hl : l = [] := by
      cases l with
      | nil => rfl
      | cons e2 l2 =>
        simp only [List.map_cons, List.nodup_cons, List.mem_cons] at hn
        exact absurd (by rw [hk e (by simp), hk e2 (by simp)]) (fun q => hn.1 (.inl q))
    subst hl
    have he := hk e (by simp)
    obtain ⟨n, f⟩ := e
    simp only at he
    subst he
    unfold getF
    simp [used, mget]

/-- An append to a log whose power is on: all is well and durable, or the power fails, and the frame lies there, loose. -/
theorem lapp_any {D : Dk} {R : Objs} {mx : MapX} (hD : DkI R D mx) (ho : D.off = false) {file n : Int} (hf : 0 ≤ file ∧ file < 64) {b : List Int} (hfit : used D.fs + (frameB n b).length ≤ D.room) :
    ∃ D', D'.room = D.room ∧ ((lappD D file n false b = (0, D') ∧ D'.off = false ∧ Firm D' ∧ ∀ k, (getF D'.fs k).bs = if k = file then (getF D.fs file).bs ++ frameB n b else (getF D.fs k).bs) ∨
      (lappD D file n false b = (23, D') ∧ D'.off = true ∧ ∀ k, getF D'.fs k = if k = file then ⟨(getF D.fs file).bs ++ frameB n b, (getF D.fs file).d⟩ else getF D.fs k)) := by
  have hne : (getF D.fs file).bs ++ frameB n b ≠ [] := fun q => frameB_ne n b (List.append_eq_nil_iff.1 q).2
  obtain ⟨D1, hD1⟩ : ∃ D1, D1 = appD1 D file (frameB n b) := ⟨_, rfl⟩
  have h1o : D1.off = false := by rw [hD1]; exact ho
  have h1r : D1.room = D.room := by rw [hD1]; rfl
  have h1g : ∀ k, getF D1.fs k = if k = file then ⟨(getF D.fs file).bs ++ frameB n b, (getF D.fs file).d⟩ else getF D.fs k := fun k => by
    rw [hD1]
    show getF (setF D.fs file _) k = _
    rw [get_set' hD.di.nd]
    by_cases hk : k = file
    · rw [if_pos hk, if_pos hk]; exact if_neg hne
    · rw [if_neg hk, if_neg hk]
  have hst : ∀ E : Dk, E.off = false → ((stepD E).1 = true ∧ (stepD E).2.off = false) ∨ ((stepD E).1 = false ∧ (stepD E).2.off = true) := fun E hE => by
    unfold stepD
    split
    · exact .inl ⟨rfl, hE⟩
    · split
      · exact .inr ⟨rfl, rfl⟩
      · exact .inl ⟨by simp [hE], hE⟩
  have eA : appendD D file (frameB n b) = (if (stepD D1).1 = true then 0 else 23, (stepD D1).2) := by
    unfold appendD
    rw [if_neg (by omega), if_neg (by rw [ho]; simp), if_neg (by omega), ← hD1]
  unfold lappD
  rw [if_neg (by simp), eA]
  obtain ⟨q1, q2⟩ := stepD_fs D1
  rcases hst D1 h1o with ⟨s1, s2⟩ | ⟨s1, s2⟩
  · rw [if_pos s1, if_neg (by simp)]
    obtain ⟨q3, q4⟩ := stepD_fs (stepD D1).2
    unfold syncD
    rw [if_neg (by rw [s2]; simp)]
    rcases hst (stepD D1).2 s2 with ⟨t1, t2⟩ | ⟨t1, t2⟩
    · rw [if_neg (by rw [t1]; simp)]
      refine ⟨_, by show (stepD (stepD D1).2).2.room = _; rw [q4, q2, h1r], .inl ⟨rfl, t2, (fun k => by rw [get_hardE, hard_hard]), fun k => ?_⟩⟩
      rw [get_hardE, q3, q1]
      show (getF D1.fs k).bs = _
      rw [h1g]
      split <;> rfl
    · rw [if_pos t1]
      exact ⟨_, by rw [q4, q2, h1r], .inr ⟨rfl, t2, fun k => by rw [q3, q1, h1g]⟩⟩
  · rw [show (if (stepD D1).1 = true then (0 : Int) else 23) = 23 from if_neg (by rw [s1]; simp), if_pos (by simp)]
    exact ⟨_, by rw [q2, h1r], .inr ⟨rfl, s2, fun k => by rw [q1, h1g]⟩⟩

theorem lapp_down (D : Dk) (file n : Int) (b : List Int) : lappD D file n true b = (23, D) := by
  unfold lappD
  rw [if_pos rfl]

/-! ### A crash of one file -/
theorem flipC_get (p k : Nat) : ∀ (l : List (Int × Fi)) (m : Int), (mget m (flipC p k l) = none ∧ mget m l = none) ∨ ∃ f f', mget m l = some f ∧ mget m (flipC p k l) = some f' ∧ f'.d = f.d ∧ f'.bs.length = f.bs.length ∧ f'.bs.take f.d.toNat = f.bs.take f.d.toNat
  | [], m => .inl ⟨rfl, rfl⟩
  | (n, f) :: l, m => by
    unfold flipC
    by_cases hp : p < looseN f
    · rw [if_pos hp]
      simp only [mget]
      by_cases hm : m = n
      · rw [if_pos hm, if_pos hm]
        refine .inr ⟨_, _, rfl, rfl, rfl, List.length_set, ?_⟩
        simp only
        rw [List.take_set_of_le (by omega)]
      · rw [if_neg hm, if_neg hm]
        rcases (show mget m l = none ∨ ∃ f, mget m l = some f from by cases mget m l <;> simp) with h | ⟨g, h⟩
        · exact .inl ⟨h, h⟩
        · exact .inr ⟨g, g, h, h, rfl, rfl, rfl⟩
    · rw [if_neg hp]
      simp only [mget]
      by_cases hm : m = n
      · rw [if_pos hm, if_pos hm]
        exact .inr ⟨_, _, rfl, rfl, rfl, rfl, rfl⟩
      · rw [if_neg hm, if_neg hm]
        exact flipC_get (p - looseN f) k l m

/-- Whatever a crash does, the durable bytes stay, and no bytes come. -/
theorem crash_any {D : Dk} {R0 : Objs} {mx : MapX} (hD : DkI R0 D mx) (keep : List Int) (flip : Int) (m : Int) :
    ∃ f', ((mget m (crashC D keep flip)).getD ⟨[], 0⟩) = f' ∧ f'.bs.take (getF D.fs m).d.toNat = (getF D.fs m).bs.take (getF D.fs m).d.toNat ∧ f'.bs.length ≤ (getF D.fs m).bs.length ∧ (flip < 0 → ∃ k, f'.bs = (getF D.fs m).bs.take k ∧ (getF D.fs m).d.toNat ≤ k) := by
  have hcut : ((mget m (cuts D keep (fnos D).length) = none) ∧ getF D.fs m = ⟨[], 0⟩) ∨ ∃ f, mget m (cuts D keep (fnos D).length) = some f ∧ f.d = (getF D.fs m).d ∧ ∃ k, f.bs = (getF D.fs m).bs.take k ∧ (getF D.fs m).d.toNat ≤ k := by
    by_cases hm : m ∈ fnos D
    · obtain ⟨i, hi, he⟩ := List.getElem_of_mem hm
      have hnd : ((cuts D keep (fnos D).length).map (·.1)).Nodup := by rw [cuts_keys D keep _ (Nat.le_refl _), List.take_length]; exact fnos_nd hD
      have hn : nth (fnos D) i = m := by rw [nth_get hi, he]
      have hk := keepN_range keep i (hD.get_d m)
      refine .inr ⟨cutF keep i (getF D.fs m), mget_some hnd (by
        unfold cuts
        refine List.mem_map.2 ⟨i, List.mem_range.2 hi, ?_⟩
        unfold cutAt
        rw [hn]), rfl, _, rfl, by have := hD.get_d m; omega⟩
    · refine .inl ⟨mget_none (by rw [cuts_keys D keep _ (Nat.le_refl _), List.take_length]; exact hm), ?_⟩
      unfold getF
      rw [mget_none (fun e => hm (fnos_mem.2 e))]
      rfl
  have hno : ∀ f : Fi, mget m (cuts D keep (fnos D).length) = some f → (∃ k, f.bs = (getF D.fs m).bs.take k ∧ (getF D.fs m).d.toNat ≤ k) → f.bs.take (getF D.fs m).d.toNat = (getF D.fs m).bs.take (getF D.fs m).d.toNat ∧ f.bs.length ≤ (getF D.fs m).bs.length := fun f _ ⟨k, h1, h2⟩ => by
    rw [h1, List.take_take, Nat.min_eq_left h2, List.length_take]
    exact ⟨rfl, by omega⟩
  unfold crashC
  simp only
  by_cases hf : 0 ≤ flip ∧ 0 < 8 * looseSum (cuts D keep (fnos D).length)
  · rw [if_pos hf]
    rcases flipC_get (flip.toNat % (8 * looseSum (cuts D keep (fnos D).length)) / 8) (7 - flip.toNat % (8 * looseSum (cuts D keep (fnos D).length)) % 8) (cuts D keep (fnos D).length) m with ⟨h1, h2⟩ | ⟨f, f', h1, h2, h3, h4, h5⟩
    · rw [h1]
      rcases hcut with ⟨_, h6⟩ | ⟨f, h6, _⟩
      · rw [h6]; exact ⟨_, rfl, rfl, Nat.le_refl _, fun q => by omega⟩
      · rw [h2] at h6; cases h6
    · rw [h2]
      rcases hcut with ⟨h6, _⟩ | ⟨g, h6, h7, h8⟩
      · rw [h1] at h6; cases h6
      · rw [h1] at h6
        injection h6 with h6
        subst h6
        obtain ⟨h9, h10⟩ := hno f h1 h8
        refine ⟨f', rfl, ?_, by rw [h4]; exact h10, fun q => by omega⟩
        rw [← h7, h5, h7]
        exact h9
  · rw [if_neg hf]
    rcases hcut with ⟨h1, h6⟩ | ⟨g, h6, h7, h8⟩
    · rw [h1, h6]; exact ⟨_, rfl, rfl, Nat.le_refl _, fun _ => ⟨0, rfl, Nat.le_refl _⟩⟩
    · rw [h6]
      obtain ⟨h9, h10⟩ := hno g h6 h8
      exact ⟨g, rfl, h9, h10, fun _ => h8⟩

/-! ### What is then read -/
theorem scan_part {i : Nat} {x : List Int} {k : Nat} (hi : i ≤ 1000000) (hx : x.length ≤ 1000) (hk : k < (frameB (i : Nat) x).length) : scanP i ((frameB (i : Nat) x).take k) = ([], 0) := by
  rw [scanP, dif_neg]
  rintro ⟨h1, h2⟩
  obtain ⟨x', hx'⟩ : ∃ x', x' = recordP ((frameB (i : Nat) x).take k) := ⟨_, rfl⟩
  rw [← hx'] at h2
  have hl' : x'.length ≤ 1000000000 := by
    have h3 := h2.length_le
    have h4 := frameB_four (i : Nat) x'
    rw [List.length_take] at h3
    have h5 := frameB_len (i := ((i : Nat) : Int)) (x := x)
    have h6 := (recordP_facts ((frameB (i : Nat) x).take k)).1
    rw [← hx', List.length_take] at h6
    have := h5 (by unfold In64; omega) hx
    omega
  have h3 : frameB (i : Nat) x' <+: frameB (i : Nat) x := h2.trans (List.take_prefix _ _)
  have e1 := recordP_frame (i := ((i : Nat) : Int)) (by unfold In64; omega) hl' h3
  have e2 := recordP_frame (i := ((i : Nat) : Int)) (x := x) (b := frameB (i : Nat) x) (by unfold In64; omega) (by omega) (List.prefix_refl _)
  rw [e1] at e2
  rw [e2] at h2
  have := h2.length_le
  rw [List.length_take] at this
  omega

theorem recs_more {l : List (List Int)} (h : l.length ≤ 1000000) (hx : ∀ x ∈ l, x.length ≤ 1000000) (rest : List Int) : recsP (framesB 0 l ++ rest) = l ++ (scanP l.length rest).1 ∧ endP (framesB 0 l ++ rest) (recsP (framesB 0 l ++ rest)).length = (framesB 0 l).length + (scanP l.length rest).2 := by
  have h1 := scanP_frames rest l 0 (by omega) (fun x hx' => by have := hx x hx'; omega)
  rw [Nat.zero_add] at h1
  have h2 : recsP (framesB 0 l ++ rest) = l ++ (scanP l.length rest).1 := by unfold recsP; rw [h1]
  exact ⟨h2, by rw [← scan2, h1]⟩

end Go.Proofs.Ythekokdpplobhaa.Eng

set_option linter.unusedVariables false
set_option linter.unusedSimpArgs false
namespace Go.Proofs.Ythekokdpplobhaa.Eng

/-- One log on a disk, all durable. -/
structure One (A : List (List Int)) (D : Dk) (mx : MapX) (N : Objs) : Prop where
  still : Still D
  room : D.room = 5000
  firm : Firm D
  only : Only 0 D
  bs : (getF D.fs 0).bs = framesB 0 A
  dk : DkI N D mx

theorem one_step {A : List (List Int)} {D : Dk} {mx : MapX} {N : Objs} (h : One A D mx N) {x : List Int} (hfit : (framesB 0 A).length + (frameB (A.length : Nat) x).length ≤ 5000) :
    ∃ D', lappD D 0 (A.length : Nat) false x = (0, D') ∧ ∀ N' mx', DkI N' D' mx' → One (A ++ [x]) D' mx' N' := by
  have hu := used_only h.dk h.only
  obtain ⟨D', e1, s1, r1, u1, f1, g1⟩ := lapp_still h.still h.dk.di.nd (file := 0) (n := ((A.length : Nat) : Int)) (b := x) (by decide) (by rw [hu, h.bs, h.room]; omega)
  refine ⟨D', e1, fun N' mx' hD => ⟨s1, by rw [r1, h.room], f1, fun j hj => ?_, ?_, hD⟩⟩
  · rw [g1, if_neg hj]; exact h.only j hj
  · rw [g1, if_pos rfl, h.bs, framesB_one']

/-- The next step is planned to fail: the frame lies there, loose. -/
theorem lapp_fails {D : Dk} {R : Objs} {mx : MapX} (hD : DkI R D mx) (ho : D.off = false) (ha : D.armed = true) (hl : D.left = 0) {file n : Int} (hf : 0 ≤ file ∧ file < 64) {b : List Int} (hfit : used D.fs + (frameB n b).length ≤ D.room) :
    ∃ D', lappD D file n false b = (23, D') ∧ D'.room = D.room ∧ D'.off = true ∧ ∀ k, getF D'.fs k = if k = file then ⟨(getF D.fs file).bs ++ frameB n b, (getF D.fs file).d⟩ else getF D.fs k := by
  have hs : stepD (appD1 D file (frameB n b)) = (false, { appD1 D file (frameB n b) with off := true, armed := false, left := (appD1 D file (frameB n b)).left - 1 }) := by
    unfold stepD
    rw [if_neg (by show ¬ D.armed = false; rw [ha]; simp), if_pos (by show D.left - 1 < 0; omega)]
  obtain ⟨D', h1, h2⟩ := lapp_any hD ho (n := n) hf hfit
  have eA : appendD D file (frameB n b) = (23, { appD1 D file (frameB n b) with off := true, armed := false, left := (appD1 D file (frameB n b)).left - 1 }) := by
    unfold appendD
    rw [if_neg (by omega), if_neg (by rw [ho]; simp), if_neg (by omega), hs]
    rfl
  rcases h2 with ⟨e, _⟩ | ⟨e, h3, h4⟩
  · unfold lappD at e
    rw [if_neg (by simp), eA, if_pos (by simp)] at e
    injection e with e
    cases e
  · exact ⟨D', e, h1, h3, h4⟩

theorem framesB_small {xs : List (List Int)} (h1 : xs.length ≤ 7) (h2 : ∀ x ∈ xs, x.length ≤ 200) : (framesB 0 xs).length ≤ 1750 := by
  have := framesB_le xs 0 (by omega) h2
  omega

theorem AreB.front {O : Objs} {vs : List Value} {xs ys : List (List Int)} {n : Nat} (h : AreB O vs xs) (hn : n ≤ xs.length) (he : xs.take n = ys) : AreB O (vs.take n) ys := by
  obtain ⟨h1, h2⟩ := h
  subst he
  refine ⟨by rw [List.length_take, List.length_take, h1], fun k hk => ?_⟩
  rw [List.length_take] at hk
  have e1 : nth (vs.take n) k = nth vs k := by
    rw [nth_get (by rw [List.length_take, h1]; exact hk), nth_get (by omega), List.getElem_take]
  have e2 : nth (xs.take n) k = nth xs k := by
    rw [nth_get (by rw [List.length_take]; exact hk), nth_get (by omega), List.getElem_take]
  rw [e1, e2]
  exact h2 k (by omega)

theorem journalInverted_ok (O : Objs) (l b : List Int) (keep flip : Int) (al ab : Option Addr) (cl cb : Nat) (h64l : ∀ n ∈ l, In64 n) (hll : Short l) (hBb : Bytes b) (hbl : Short b) (hk64 : In64 keep) (hf64 : In64 flip) (hl : Src O 1 (.slice al l.length cl) l.length (l.map I)) (hb : Rowy O 1 ab b.length (b.map B8)) (kb : ab = none → cb = 0) :
    Spec Try.prog false 9 #[.slice al l.length cl, .slice ab b.length cb, I keep, I flip] O fun v _ => v = .bool true := by
  have hD0 : DkI [] ⟨5000, false, false, 0, []⟩ .new := ⟨.new, (fun e he => by simp at he), by decide, (fun q => by cases q), by decide⟩
  obtain ⟨rs1, rs2⟩ := recs_short (b := (getF ([] : List (Int × Fi)) 0).bs) (by decide)
  obtain ⟨D1, e1, s1, r1, u1, f1, g1⟩ := open_still (D := ⟨5000, false, false, 0, []⟩) ⟨rfl, rfl⟩ (by simp) (file := 0) (by decide) rs2
  refine Spec.enter (args := [_, _, _, _]) (m := 103) Try.func9 rfl rfl (by decide +kernel) fun h0 => ?_
  refine WX.seq ?_
  refine WX.region rfl ?_
  refine WXL.assign Met.none rfl ?_
  refine WXL.nil ?_
  refine Fin.then_normal ?_
  refine WX.seq ?_
  refine WX.region rfl ?_
  refine WXL.cl (O1 := _) Met.none rfl (fnOk_of Try.func29 (by decide +kernel)) rfl (fun _ h => h) (fresh_ok O 5000 (by decide)) (fun v O' hp => ?_)
  obtain ⟨d, bm, rfl, rfl⟩ := hp
  refine WXL.assign Met.none rfl ?_
  refine WXL.nil ?_
  refine Fin.then_normal ?_
  refine WX.seq ?_
  refine WX.seq ?_
  refine WX.region rfl ?_
  refine WXL.move Met.none rfl ?_
  refine WXL.eqNilP Met.none rfl rfl Try.underlying51 ?_
  refine WXL.nil ?_
  refine Fin.then_normal ?_
  refine WX.cond rfl (fun hc0 => ?_) (fun hc0 => ?_)
  · try simp only [cnd] at hc0
    exact (by simp at hc0) --end
  · try simp only [cnd] at hc0
    refine WX.skip ?_
    refine Fin.then_normal ?_
    refine WX.seq ?_
    refine WX.region rfl ?_
    refine WXL.move Met.none rfl ?_
    refine WXL.cl (O1 := _) Met.none rfl (fnOk_of Try.func30 (by decide +kernel)) rfl (fun _ h => h) (open_good O d bm ⟨5000, false, false, 0, []⟩ D1 .new 0 [] hD0 (fun g hg => Sat.nil hg.wf) (Nat.zero_le _) e1 rs1) (fun v O' hp => ?_)
    obtain ⟨mx1, lg, a1, c1, v1, G1, R1, rfl, hG1, hR1, rfl, hD1⟩ := hp
    refine WXL.move Met.none rfl ?_
    refine WXL.extract Met.none rfl rfl ?_
    refine WXL.extract Met.none rfl rfl ?_
    refine WXL.extract Met.none rfl rfl ?_
    refine WXL.assign Met.none rfl ?_
    refine WXL.assign Met.none rfl ?_
    refine WXL.assign Met.none rfl ?_
    refine WXL.nil ?_
    refine Fin.then_normal ?_
    refine WX.seq ?_
    refine WX.seq ?_
    refine WX.region rfl ?_
    refine WXL.move Met.none rfl ?_
    refine WXL.eqNilP Met.none rfl rfl Try.underlying53 ?_
    refine WXL.move Met.none rfl ?_
    refine WXL.split (d := 29) rfl (fun hg29 => ?_) (fun hg29 => ?_)
    · try simp only [cnd] at hg29
      exact (by simp at hg29) --end
    · try simp only [cnd] at hg29
      refine WXL.move (Met.some rfl rfl rfl) rfl ?_
      refine WXL.bin (Met.some rfl rfl rfl) rfl rfl rfl ?_
      refine WXL.pick_f Met.none rfl rfl ?_
      refine WXL.nil ?_
      refine Fin.then_normal ?_
      refine WX.cond rfl (fun hc1 => ?_) (fun hc1 => ?_)
      · try simp only [cnd] at hc1
        exact (by simp at hc1) --end
      · try simp only [cnd] at hc1
        refine WX.skip ?_
        refine Fin.then_normal ?_
        refine WX.seq ?_
        refine WX.re (O' := lgO lg d 0 (([] : List (List Int)).length : Nat) false :: dkO d bm D1 mx1 O) ?_
        refine WX.region rfl ?_
        refine WXL.move Met.none rfl ?_
        refine WXL.cl (O1 := _) Met.none rfl (fnOk_of Try.func14 (by decide +kernel)) rfl (fun _ h => h) (mkRecords_own _ l al cl h64l hll (Src.cons (Src.cons (Src.cons hl)))) (fun v O' hp => ?_)
        obtain ⟨xs, ax, cx, vx, Gx, Rx, rfl, hGx, hvx, ⟨hx1, hx2⟩, rfl⟩ := hp
        refine WXL.assign Met.none rfl ?_
        refine WXL.nil ?_
        refine Fin.then_normal ?_
        refine WX.seq ?_
        refine WX.seq ?_
        refine WX.re (O' := lgO lg d 0 (([] : List (List Int)).length : Nat) false :: dkO d bm D1 mx1 ([] ++ (Gx ++ (Rx ++ O)))) ?_
        obtain ⟨B, hB⟩ : ∃ B, B = Gx ++ (Rx ++ O) := ⟨_, rfl⟩
        have hsx : Src B 1 (.slice ax xs.length cx) xs.length vx := hB ▸ hGx.src
        have hbx : AreB B vx xs := hB ▸ hvx.right.app
        have hbB : Rowy B 1 ab b.length (b.map B8) := hB ▸ hb.app.app
        have hOne0 : One [] D1 mx1 [] := ⟨s1, r1, f1, (fun j hj => by rw [g1, if_neg hj]; rfl), by rw [g1, if_pos rfl]; rfl, hD1⟩
        have hxl : ∀ i, (framesB 0 (xs.take i)).length ≤ 1750 := fun i => framesB_small (by rw [List.length_take]; omega) fun x hx => by have := (hx2 x (List.mem_of_mem_take hx)).2; omega
        rw [← hB]
        clear hB hGx hvx
        refine WX.region rfl ?_
        refine WXL.assign Met.none rfl ?_
        refine WXL.nil ?_
        refine Fin.then_normal ?_
        refine WX.block ?_
        refine WX.loop (fun q : Nat × Dk × MapX × Objs => [(0, .slice al l.length cl), (1, .slice ab b.length cb), (2, I keep), (3, I flip), (9, Ptr d 0), (10, Ptr lg 0), (13, .slice ax xs.length cx), (14, I (q.1 : Int))]) (fun q => lgO lg d 0 ((xs.take q.1).length : Nat) false :: dkO d bm q.2.1 q.2.2.1 (q.2.2.2 ++ B)) (fun q => q.1 ≤ xs.length ∧ One (xs.take q.1) q.2.1 q.2.2.1 q.2.2.2) (fun q => xs.length - q.1) (0, D1, mx1, []) ⟨Nat.zero_le _, hOne0⟩ (fun s hs => hs.tl [] 0) (fun q hq => ?_)
        obtain ⟨i, D, mx, N⟩ := q
        obtain ⟨hi6, hT⟩ := hq
        simp only at hi6 hT
        dsimp only
        have hxl1 := hxl i
        refine WX.seq ?_
        refine WX.seq ?_
        refine WX.region rfl ?_
        refine WXL.move Met.none rfl ?_
        refine WXL.move Met.none rfl ?_
        refine WXL.len Met.none rfl Try.underlying27 ?_
        refine WXL.bin Met.none rfl rfl rfl ?_
        refine WXL.nil ?_
        refine Fin.then_normal ?_
        refine WX.cond rfl (fun hc2 => ?_) (fun hc2 => ?_)
        · try simp only [cnd] at hc2
          refine WX.skip ?_
          refine Fin.then_normal ?_
          refine WX.seq ?_
          refine WX.block ?_
          refine WX.seq ?_
          have hk1 : i < xs.length := by omega
          obtain ⟨ai, ci, ei, si⟩ := hbx.2 i hk1
          rw [ei] at si
          obtain ⟨x, hx⟩ : ∃ x, x = nth xs i := ⟨_, rfl⟩
          have hxm : x ∈ xs := hx ▸ nth_mem hk1
          obtain ⟨hxB, hxL⟩ := hx2 x hxm
          rw [← hx] at si ei
          have hvi : vx[i]? = some (.slice ai x.length ci) := by rw [← ei]; exact nth_eq (by rw [hbx.1]; exact hk1)
          have htl : (xs.take i).length = i := by rw [List.length_take]; omega
          have htk : xs.take (i + 1) = xs.take i ++ [x] := by rw [take_succ_nth hk1, hx]
          have hfx := frameB_len (i := (((xs.take i).length : Nat) : Int)) (x := x) (by unfold In64; omega) (by omega)
          obtain ⟨Da, ea, haT⟩ := one_step hT (x := x) (by omega)
          refine WX.region rfl ?_
          refine WXL.move Met.none rfl ?_
          refine WXL.move Met.none rfl ?_
          refine WXL.move Met.none rfl ?_
          first | refine WXL.ix Met.none rfl rfl elem27 sz23 ?_ | refine WXL.ixS Met.none rfl rfl elem27 sz23 ?_
          first | refine WXL.ld Met.none rfl agg23 ?_ (hv := hvi) | refine WXL.ldS Met.none rfl agg23 ?_ (hv := hvi)
          refine WXL.cl (O1 := _) Met.none rfl (fnOk_of Try.func32 (by decide +kernel)) rfl (fun _ h => h) (logAppend_ok (N ++ B) lg d bm D mx 0 ((xs.take i).length : Nat) false x ai ci hT.dk (fun g hg => hg.app_left) (by omega) hxB (by omega) (Src.app si)) (fun v O' hp => ?_)
          obtain ⟨mxa, Na, rfl, rfl, hDa⟩ := hp
          rw [ea] at hDa ⊢
          dsimp only at hDa ⊢
          have hTa := haT _ _ hDa
          rw [← htk] at hTa
          rw [show (if (0 : Int) = 0 then (((xs.take i).length : Nat) : Int) + 1 else (((xs.take i).length : Nat) : Int)) = (((xs.take (i + 1)).length : Nat) : Int) from by rw [htk, List.length_append]; simp, show decide ((0 : Int) = 23) = false from rfl]
          refine WXL.bin Met.none rfl rfl rfl ?_
          refine WXL.nil ?_
          refine Fin.then_normal ?_
          refine WX.cond rfl (fun hc3 => ?_) (fun hc3 => ?_)
          · try simp only [cnd] at hc3
            exact (by simp at hc3) --end
          · try simp only [cnd] at hc3
            refine WX.skip ?_
            refine Fin.block_normal ?_
            refine Fin.then_normal ?_
            refine WX.re (O' := lgO lg d 0 ((xs.take (i + 1)).length : Nat) false :: dkO d bm Da mxa ((Na ++ N) ++ B)) ?_
            refine WX.region rfl ?_
            refine WXL.move Met.none rfl ?_
            refine WXL.bin Met.none rfl rfl bvA ?_
            refine WXL.assign Met.none rfl ?_
            refine WXL.nil ?_
            exact Fin.loop_next (i + 1, Da, mxa, Na ++ N) ⟨by simp only; omega, hTa⟩ (by simp only; omega) (fun s hs => hs.tl [] 0)
        · try simp only [cnd] at hc2
          refine WX.exit ?_
          refine Fin.then_exit ?_
          refine Fin.loop_exit ?_
          refine Fin.block_hit rfl ?_
          refine Fin.then_normal ?_
          refine WX.seq ?_
          have hxe : xs.take i = xs := List.take_of_length_le (by omega)
          rw [hxe] at hT hxl1 ⊢
          refine WX.region rfl ?_
          refine WXL.move Met.none rfl ?_
          refine WXL.cl (O1 := dkO d bm D mx (lgO lg d 0 (xs.length : Nat) false :: (N ++ B))) Met.none rfl (fnOk_of Try.func37 (by decide +kernel)) rfl sub_ (arm_ok _ d bm D mx 0) (fun v O' hp => ?_)
          obtain rfl := hp
          rw [if_neg (by rw [hT.still.off]; simp)]
          obtain ⟨D2, hD2e⟩ : ∃ D2 : Dk, D2 = { D with armed := decide ((0 : Int) ≤ 0), left := 0 } := ⟨_, rfl⟩
          have hD2 : DkI N D2 mx := by rw [hD2e]; exact ⟨hT.dk.di, hT.dk.ok, hT.dk.room, (fun _ => ⟨by show (0 : Int) ≤ 0; decide, by show (0 : Int) < 9223372036854775808; decide⟩), hT.dk.used⟩
          have h2o : D2.off = false := by rw [hD2e]; exact hT.still.off
          have h2a : D2.armed = true := by rw [hD2e]; rfl
          have h2l : D2.left = 0 := by rw [hD2e]
          have h2r : D2.room = 5000 := by rw [hD2e]; exact hT.room
          have h2f : D2.fs = D.fs := by rw [hD2e]
          rw [← hD2e]
          refine WXL.nil ?_
          refine Fin.then_normal ?_
          refine WX.seq ?_
          refine WX.seq ?_
          refine WX.region rfl ?_
          refine WXL.move Met.none rfl ?_
          refine WXL.move Met.none rfl ?_
          refine WXL.cl (O1 := _) Met.none rfl (fnOk_of Try.func10 (by decide +kernel)) rfl (fun _ h => h) (few_ok _ b ab cb 60 (by decide) hbl (by decide) (Rowy.cons (Rowy.cons (Rowy.cons (Rowy.app hbB)))) kb) (fun v O' hp => ?_)
          obtain ⟨a2, c2, G2, rfl, hG2, rfl⟩ := hp
          obtain ⟨y, hy⟩ : ∃ y, y = b.take (60 : Int).toNat := ⟨_, rfl⟩
          have hyl : y.length ≤ 60 := by rw [hy, List.length_take]; show min 60 _ ≤ 60; omega
          have hyB : Bytes y := hy ▸ take_bytes hBb
          rw [← hy] at hG2 ⊢
          have hfy := frameB_len (i := ((xs.length : Nat) : Int)) (x := y) (by unfold In64; omega) (by omega)
          have hu2 : used D2.fs = (framesB 0 xs).length := by rw [h2f, used_only hT.dk hT.only, hT.bs]
          obtain ⟨D3, e3, r3, o3, g3⟩ := lapp_fails hD2 h2o h2a h2l (file := 0) (n := ((xs.length : Nat) : Int)) (b := y) (by decide) (by rw [hu2, h2r]; omega)
          refine WXL.cl (O1 := lgO lg d 0 (xs.length : Nat) false :: dkO d bm D2 mx (G2 ++ (N ++ B))) Met.none rfl (fnOk_of Try.func32 (by decide +kernel)) rfl sub_ (logAppend_ok (G2 ++ (N ++ B)) lg d bm D2 mx 0 (xs.length : Nat) false y a2 c2 hD2 (fun g hg => hg.app_right.app_left) (by omega) hyB (by omega) hG2.src) (fun v O' hp => ?_)
          obtain ⟨mx3, N3, rfl, rfl, hD3⟩ := hp
          rw [e3] at hD3 ⊢
          dsimp only at hD3 ⊢
          rw [show (if (23 : Int) = 0 then ((xs.length : Nat) : Int) + 1 else ((xs.length : Nat) : Int)) = ((xs.length : Nat) : Int) from rfl, show decide ((23 : Int) = 23) = true from rfl]
          obtain ⟨NN, hNN⟩ : ∃ NN, NN = N3 ++ N := ⟨_, rfl⟩
          rw [← hNN] at hD3
          refine WXL.re (O' := lgO lg d 0 (xs.length : Nat) true :: dkO d bm D3 mx3 (NN ++ B)) ?_ (by rw [hNN]; exact sub_)
          refine WXL.bin Met.none rfl rfl rfl ?_
          refine WXL.move Met.none rfl ?_
          refine WXL.split (d := 55) rfl (fun hg55 => ?_) (fun hg55 => ?_)
          · try simp only [cnd] at hg55
            exact (by simp at hg55) --end
          · try simp only [cnd] at hg55
            refine WXL.move (Met.some rfl rfl rfl) rfl ?_
            refine WXL.cl (O1 := _) (Met.some rfl rfl rfl) rfl (fnOk_of Try.func34 (by decide +kernel)) rfl (fun _ h => h) (up_ok _ lg d 0 _ true) (fun v O' hp => ?_)
            obtain ⟨rfl, hO⟩ := hp
            subst O'
            obtain ⟨up, hup⟩ : ∃ u, u = (!true) := ⟨_, rfl⟩
            rw [← hup]
            refine WXL.pick_f Met.none rfl rfl ?_
            refine WXL.nil ?_
            refine Fin.then_normal ?_
            refine WX.cond rfl (fun hc4 => ?_) (fun hc4 => ?_)
            · try simp only [cnd] at hc4
              exact (by rw [hup] at hc4; cases hc4) --end
            · try simp only [cnd] at hc4
              refine WX.skip ?_
              refine Fin.then_normal ?_
              refine WX.seq ?_
              refine WX.seq ?_
              refine WX.region rfl ?_
              refine WXL.move Met.none rfl ?_
              refine WXL.cl (O1 := _) Met.none rfl (fnOk_of Try.func32 (by decide +kernel)) rfl (fun _ h => h) (logAppend_ok (NN ++ B) lg d bm D3 mx3 0 (xs.length : Nat) true [] none 0 hD3 (fun g hg => hg.app_left) (by omega) (fun n hn => by simp at hn) (by decide) Src.nil) (fun v O' hp => ?_)
              obtain ⟨mx4, N4, rfl, rfl, hD4⟩ := hp
              rw [lapp_down] at hD4 ⊢
              dsimp only at hD4 ⊢
              rw [show (if (23 : Int) = 0 then ((xs.length : Nat) : Int) + 1 else ((xs.length : Nat) : Int)) = ((xs.length : Nat) : Int) from rfl, show decide ((23 : Int) = 23) = true from rfl]
              obtain ⟨N5, hN5⟩ : ∃ N5, N5 = N4 ++ NN := ⟨_, rfl⟩
              rw [← hN5] at hD4
              refine WXL.re (O' := lgO lg d 0 (xs.length : Nat) true :: dkO d bm D3 mx4 (N5 ++ B)) ?_ (by rw [hN5]; exact sub_)
              refine WXL.bin Met.none rfl rfl rfl ?_
              refine WXL.move Met.none rfl ?_
              refine WXL.split (d := 62) rfl (fun hg62 => ?_) (fun hg62 => ?_)
              · try simp only [cnd] at hg62
                exact (by simp at hg62) --end
              · try simp only [cnd] at hg62
                refine WXL.move (Met.some rfl rfl rfl) rfl ?_
                refine WXL.cl (O1 := _) (Met.some rfl rfl rfl) rfl (fnOk_of Try.func33 (by decide +kernel)) rfl (fun _ h => h) (len_ok _ lg d 0 _ true) (fun v O' hp => ?_)
                obtain ⟨rfl, hO⟩ := hp
                subst O'
                refine WXL.move (Met.some rfl rfl rfl) rfl ?_
                refine WXL.len (Met.some rfl rfl rfl) rfl Try.underlying27 ?_
                refine WXL.bin (Met.some rfl rfl rfl) rfl rfl rfl ?_
                refine WXL.pick_f Met.none rfl rfl ?_
                refine WXL.nil ?_
                refine Fin.then_normal ?_
                refine WX.cond rfl (fun hc5 => ?_) (fun hc5 => ?_)
                · try simp only [cnd] at hc5
                  exact (by simp at hc5) --end
                · try simp only [cnd] at hc5
                  refine WX.skip ?_
                  refine Fin.then_normal ?_
                  refine WX.seq ?_
                  refine WX.region rfl ?_
                  refine WXL.move Met.none rfl ?_
                  refine WXL.move Met.none rfl ?_
                  refine WXL.buildSlice (c := [_]) Met.none rfl elem22 sz3 zero3 (by decide) (by decide) rfl rfl rfl rfl (fun b71 => ?_)
                  refine WXL.move Met.none rfl ?_
                  refine WXL.cl (O1 := dkO d bm D3 mx4 ((b71, ⟨1, false, [I keep]⟩) :: lgO lg d 0 (xs.length : Nat) true :: (N5 ++ B))) Met.none rfl (fnOk_of Try.func36 (by decide +kernel)) rfl sub_ (crash_ok ((b71, ⟨1, false, [I keep]⟩) :: lgO lg d 0 (xs.length : Nat) true :: (N5 ++ B)) d bm D3 mx4 [keep] (some ⟨b71, 0, none⟩) 1 flip hD4 (by intro Q; simp only [List.countP_append, List.countP_cons]; omega) (by rw [r3, h2r]; decide) hf64 (fun n hn => by rw [List.mem_singleton] at hn; subst hn; exact hk64) (by unfold Short; simp) (Src.row1 rfl)) (fun v O' hp => ?_)
                  obtain ⟨mx6, N6, D6, rfl, hD6, hr6, ho6, ha6, hg6⟩ := hp
                  obtain ⟨N7, hN7⟩ : ∃ N7, N7 = N6 ++ N5 := ⟨_, rfl⟩
                  rw [← hN7] at hD6
                  refine WXL.re (O' := lgO lg d 0 (xs.length : Nat) true :: dkO d bm D6 mx6 (N7 ++ B)) ?_ (by rw [hN7]; exact sub_)
                  refine WXL.nil ?_
                  refine Fin.then_normal ?_
                  refine WX.seq ?_
                  refine WX.seq ?_
                  refine WX.region rfl ?_
                  refine WXL.move Met.none rfl ?_
                  refine WXL.cl (O1 := _) Met.none rfl (fnOk_of Try.func32 (by decide +kernel)) rfl (fun _ h => h) (logAppend_ok (N7 ++ B) lg d bm D6 mx6 0 (xs.length : Nat) true [] none 0 hD6 (fun g hg => hg.app_left) (by omega) (fun n hn => by simp at hn) (by decide) Src.nil) (fun v O' hp => ?_)
                  obtain ⟨mx7, N8, rfl, rfl, hD7⟩ := hp
                  rw [lapp_down] at hD7 ⊢
                  dsimp only at hD7 ⊢
                  rw [show (if (23 : Int) = 0 then ((xs.length : Nat) : Int) + 1 else ((xs.length : Nat) : Int)) = ((xs.length : Nat) : Int) from rfl, show decide ((23 : Int) = 23) = true from rfl]
                  obtain ⟨N9, hN9⟩ : ∃ N9, N9 = N8 ++ N7 := ⟨_, rfl⟩
                  rw [← hN9] at hD7
                  refine WXL.re (O' := lgO lg d 0 (xs.length : Nat) true :: dkO d bm D6 mx7 (N9 ++ B)) ?_ (by rw [hN9]; exact sub_)
                  refine WXL.bin Met.none rfl rfl rfl ?_
                  refine WXL.nil ?_
                  refine Fin.then_normal ?_
                  refine WX.cond rfl (fun hc6 => ?_) (fun hc6 => ?_)
                  · try simp only [cnd] at hc6
                    exact (by simp at hc6) --end
                  · try simp only [cnd] at hc6
                    refine WX.skip ?_
                    refine Fin.then_normal ?_
                    refine WX.seq ?_
                    have hxm : ∀ x ∈ xs, x.length ≤ 1000000 := fun x hx => by have := (hx2 x hx).2; omega
                    have hF3 : getF D3.fs 0 = ⟨framesB 0 xs ++ frameB ((xs.length : Nat) : Int) y, ((framesB 0 xs).length : Nat)⟩ := by
                      rw [g3, if_pos rfl, h2f, hT.bs]
                      have := congrArg Fi.d (hT.firm 0)
                      rw [this]
                      show _ = _
                      rw [show (getF D.fs 0).hard.d = (((getF D.fs 0).bs.length : Nat) : Int) from rfl, hT.bs]
                    obtain ⟨f', h1, h2, h3, _⟩ := crash_any hD4 [keep] flip 0
                    have hbs6 : (getF D6.fs 0).bs = f'.bs := by rw [hg6, h1]; rfl
                    rw [hF3] at h2 h3
                    simp only [Int.toNat_natCast] at h2 h3
                    rw [List.take_left] at h2
                    obtain ⟨rest, hrest⟩ : ∃ rest, f'.bs = framesB 0 xs ++ rest := ⟨f'.bs.drop (framesB 0 xs).length, by
                      have h6 := List.take_append_drop (framesB 0 xs).length f'.bs
                      rw [h2] at h6
                      exact h6.symm⟩
                    have hlen6 : (getF D6.fs 0).bs.length ≤ 100000 := by
                      rw [hbs6]
                      rw [List.length_append] at h3
                      omega
                    obtain ⟨hrec, _⟩ := recs_more (l := xs) (by omega) hxm rest
                    rw [← hrest, ← hbs6] at hrec
                    obtain ⟨D8, e8, s8, r8, u8, f8, g8⟩ := open_still (D := D6) ⟨ho6, ha6⟩ hD7.di.nd (file := 0) (by decide) rfl
                    obtain ⟨gt, hgt⟩ : ∃ gt, gt = recsP (getF D6.fs 0).bs := ⟨_, rfl⟩
                    have hgt2 : gt.take xs.length = xs := by rw [hgt, hrec, List.take_left]
                    have hgl : xs.length ≤ gt.length := by rw [hgt, hrec, List.length_append]; omega
                    have hgm : ∀ z ∈ gt, z.length ≤ 1000000000 := fun z hz => by
                      rw [hgt] at hz
                      have := recsP_mem hz
                      omega
                    have hgl2 := recsP_len (getF D6.fs 0).bs
                    rw [← hgt] at hgl2
                    refine WX.region rfl ?_
                    refine WXL.move Met.none rfl ?_
                    refine WXL.cl (O1 := dkO d bm D6 mx7 (lgO lg d 0 (xs.length : Nat) true :: (N9 ++ B))) Met.none rfl (fnOk_of Try.func30 (by decide +kernel)) rfl sub_ (open_good _ d bm D6 D8 mx7 0 gt hD7 (fun g hg => hg.tail.app_left) hlen6 e8 hgt.symm) (fun v O' hp => ?_)
                    obtain ⟨mx9, lg9, a9, c9, v9, G9, R9, rfl, hG9, hR9, rfl, hD9⟩ := hp
                    refine WXL.move Met.none rfl ?_
                    refine WXL.extract Met.none rfl rfl ?_
                    refine WXL.extract Met.none rfl rfl ?_
                    refine WXL.extract Met.none rfl rfl ?_
                    refine WXL.assign Met.none rfl ?_
                    refine WXL.assign Met.none rfl ?_
                    refine WXL.assign Met.none rfl ?_
                    refine WXL.nil ?_
                    refine Fin.then_normal ?_
                    refine WX.seq ?_
                    refine WX.region rfl ?_
                    refine WXL.move Met.none rfl ?_
                    refine WXL.bin Met.none rfl rfl rfl ?_
                    refine WXL.move Met.none rfl ?_
                    refine WXL.split (d := 85) rfl (fun hg85 => ?_) (fun hg85 => ?_)
                    · try simp only [cnd] at hg85
                      refine WXL.move (Met.some rfl rfl rfl) rfl ?_
                      refine WXL.len (Met.some rfl rfl rfl) rfl Try.underlying27 ?_
                      refine WXL.move (Met.some rfl rfl rfl) rfl ?_
                      refine WXL.len (Met.some rfl rfl rfl) rfl Try.underlying27 ?_
                      refine WXL.bin (Met.some rfl rfl rfl) rfl rfl rfl ?_
                      refine WXL.pick_t Met.none rfl rfl ?_
                      refine WXL.move Met.none rfl ?_
                      refine WXL.split (d := 92) rfl (fun hg92 => ?_) (fun hg92 => ?_)
                      · try simp only [cnd] at hg92
                        refine WXL.move (Met.some rfl rfl rfl) rfl ?_
                        refine WXL.move (Met.some rfl rfl rfl) rfl ?_
                        refine WXL.len (Met.some rfl rfl rfl) rfl Try.underlying27 ?_
                        refine WXL.pre (m := xs.length) (Met.some rfl rfl rfl) rfl rfl elem27 sz23 (Rowy.cons (Rowy.cons (Rowy.cons hG9.rowy))) (fun q => (hG9.nil0 q).1) ?_
                        refine WXL.move (Met.some rfl rfl rfl) rfl ?_
                        have hpre := (hG9.rowy (R := R9 ++ (lgO lg d 0 (xs.length : Nat) true :: (N9 ++ B)))).pre (m := xs.length) hgl
                        rw [Nat.mul_one] at hpre
                        refine WXL.cl (O1 := _) (Met.some rfl rfl rfl) rfl (fnOk_of Try.func17 (by decide +kernel)) rfl (fun _ h => h) (sameLists_ok _ xs xs (v9.take xs.length) vx a9 ax xs.length cx (by omega) (fun z hz => by have := hxm z hz; omega) (Src.cons (Src.cons (Src.cons (hpre.src (fun q => hpre.nil0 q))))) (Src.cons (Src.cons (Src.cons (Src.app (Src.app (Src.cons (Src.app hsx))))))) (AreB.front (hR9.right.app.cons.cons.cons) hgl hgt2) hbx.app.cons.app.app.cons.cons.cons) (fun v O' hp => ?_)
                        obtain ⟨b1, rfl, hb1, rfl⟩ := hp
                        refine WXL.pick_t Met.none rfl rfl ?_
                        refine WXL.move Met.none rfl ?_
                        refine WXL.split (d := 100) rfl (fun hg100 => ?_) (fun hg100 => ?_)
                        · try simp only [cnd] at hg100
                          refine WXL.cl (O1 := _) (Met.some rfl rfl rfl) rfl (fnOk_of Try.func18 (by decide +kernel)) rfl (fun _ h => h) (lives_ok _) (fun v O' hp => ?_)
                          obtain ⟨rfl, hO⟩ := hp
                          subst O'
                          refine WXL.pick_t Met.none rfl rfl ?_
                          refine WXL.assign Met.none rfl ?_
                          refine WXL.nil ?_
                          refine Fin.then_normal ?_
                          refine WX.ret ?_
                          exact Fin.result (O' := []) (.inr rfl) rfl rfl (fun _ hs => ⟨by simp, fun p hp => by simp at hp, hs.wf⟩) rfl
                        · try simp only [cnd] at hg100
                          exact (by rw [hg100] at hb1; simp at hb1) --end
                      · try simp only [cnd] at hg92
                        exact absurd hg92 (by omega) --end
                    · try simp only [cnd] at hg85
                      exact (by simp at hg85) --end

end Go.Proofs.Ythekokdpplobhaa.Eng

set_option linter.unusedVariables false
set_option linter.unusedSimpArgs false
namespace Go.Proofs.Ythekokdpplobhaa.Eng

/-- A log under a planned failure, after some appends. -/
structure DurS (xs : List (List Int)) (i done tried : Nat) (down : Bool) (D : Dk) : Prop where
  le : done ≤ i ∧ i ≤ xs.length
  room : D.room = 5000
  only : Only 0 D
  d : (getF D.fs 0).d = ((framesB 0 (xs.take done)).length : Nat)
  st : (down = false ∧ done = i ∧ tried = done ∧ D.off = false ∧ (getF D.fs 0).bs = framesB 0 (xs.take done)) ∨
    (down = true ∧ done < i ∧ tried = done + 1 ∧ D.off = true ∧ (getF D.fs 0).bs = framesB 0 (xs.take done) ++ frameB ((done : Nat) : Int) (nth xs done))

theorem dur_step {xs : List (List Int)} {i done tried : Nat} {down : Bool} {D : Dk} {R : Objs} {mx : MapX} (h : DurS xs i done tried down D) (hD : DkI R D mx) (hi : i < xs.length) (hx : xs.length ≤ 6) (hs : ∀ x ∈ xs, x.length ≤ 200) :
    ∃ e D2, lappD D 0 ((done : Nat) : Int) down (nth xs i) = (e, D2) ∧ ((e = 0 ∧ down = false ∧ DurS xs (i + 1) (done + 1) (done + 1) false D2) ∨ (e = 23 ∧ done = i ∧ DurS xs (i + 1) done (done + 1) true D2) ∨ (e = 23 ∧ done ≠ i ∧ DurS xs (i + 1) done tried true D2)) := by
  have hxl := hs _ (nth_mem hi)
  have hfl := frameB_len (i := ((done : Nat) : Int)) (x := nth xs i) (by have := h.le; unfold In64; omega) (by omega)
  have hsm := framesB_small (xs := xs.take done) (by rw [List.length_take]; omega) fun x hx => hs x (List.mem_of_mem_take hx)
  have hu := used_only hD h.only
  rcases h.st with ⟨rfl, hdi, rfl, ho, hb⟩ | ⟨rfl, hdi, rfl, ho, hb⟩
  · subst hdi
    obtain ⟨D2, r2, h2⟩ := lapp_any hD ho (file := 0) (n := ((tried : Nat) : Int)) (b := nth xs tried) (by decide) (by rw [hu, hb, h.room]; omega)
    have htk : xs.take (tried + 1) = xs.take tried ++ [nth xs tried] := take_succ_nth hi
    have htl : (xs.take tried).length = tried := by rw [List.length_take]; omega
    rcases h2 with ⟨e1, o1, f1, g1⟩ | ⟨e1, o1, g1⟩
    · have hb2 : (getF D2.fs 0).bs = framesB 0 (xs.take (tried + 1)) := by rw [g1, if_pos rfl, hb, htk, framesB_one', htl]
      refine ⟨0, D2, e1, .inl ⟨rfl, rfl, ⟨by have := h.le; omega, by rw [r2, h.room], fun j hj => by rw [g1, if_neg hj]; exact h.only j hj, ?_, .inl ⟨rfl, rfl, rfl, o1, hb2⟩⟩⟩⟩
      have := congrArg Fi.d (f1 0)
      rw [this]
      show (((getF D2.fs 0).bs.length : Nat) : Int) = _
      rw [hb2]
    · refine ⟨23, D2, e1, .inr (.inl ⟨rfl, rfl, ⟨by have := h.le; omega, by rw [r2, h.room], fun j hj => by rw [g1, if_neg hj]; exact h.only j hj, ?_, .inr ⟨rfl, by omega, rfl, o1, ?_⟩⟩⟩)⟩
      · rw [g1, if_pos rfl]; exact h.d
      · rw [g1, if_pos rfl, hb]
  · exact ⟨23, D, lapp_down D 0 _ _, .inr (.inr ⟨rfl, by omega, ⟨by have := h.le; omega, h.room, h.only, h.d, .inr ⟨rfl, by omega, rfl, ho, hb⟩⟩⟩)⟩

/-- What is read after the crash. -/
theorem dur_recs {xs : List (List Int)} {done tried : Nat} {down : Bool} {D : Dk} (h : DurS xs xs.length done tried down D) (hx : xs.length ≤ 6) (hs : ∀ x ∈ xs, x.length ≤ 200) {bs : List Int} {k : Nat} (hb : bs = (getF D.fs 0).bs.take k) (hk : (getF D.fs 0).d.toNat ≤ k) :
    ∃ g, done ≤ g ∧ g ≤ tried ∧ g ≤ xs.length ∧ recsP bs = xs.take g ∧ endP bs (recsP bs).length = (framesB 0 (xs.take g)).length ∧ bs.take (framesB 0 (xs.take g)).length = framesB 0 (xs.take g) := by
  have htl : ∀ g, (xs.take g).length ≤ 1000000 := fun g => by rw [List.length_take]; omega
  have htm : ∀ g, ∀ x ∈ xs.take g, x.length ≤ 1000000 := fun g x hx => by have := hs x (List.mem_of_mem_take hx); omega
  rw [h.d, Int.toNat_natCast] at hk
  rcases h.st with ⟨_, hd, ht, _, hbs⟩ | ⟨_, hd, ht, _, hbs⟩
  · have hbe : bs = framesB 0 (xs.take done) := by rw [hb, hbs, List.take_of_length_le hk]
    obtain ⟨r1, r2⟩ := recs_frames (htl done) (htm done)
    refine ⟨done, Nat.le_refl _, by omega, h.le.1, by rw [hbe, r1], by rw [hbe, r1, r2], by rw [hbe, List.take_length]⟩
  · have hdl : (xs.take done).length = done := by rw [List.length_take]; omega
    have hpre : bs = framesB 0 (xs.take done) ++ (frameB ((done : Nat) : Int) (nth xs done)).take (k - (framesB 0 (xs.take done)).length) := by
      rw [hb, hbs, List.take_append, List.take_of_length_le hk]
    by_cases hfull : (frameB ((done : Nat) : Int) (nth xs done)).length ≤ k - (framesB 0 (xs.take done)).length
    · have hbe : bs = framesB 0 (xs.take (done + 1)) := by rw [hpre, List.take_of_length_le hfull, take_succ_nth hd, framesB_one', hdl]
      obtain ⟨r1, r2⟩ := recs_frames (htl (done + 1)) (htm (done + 1))
      refine ⟨done + 1, by omega, by omega, by omega, by rw [hbe, r1], by rw [hbe, r1, r2], by rw [hbe, List.take_length]⟩
    · have hsp := scan_part (i := done) (x := nth xs done) (k := k - (framesB 0 (xs.take done)).length) (by omega) (by have := hs _ (nth_mem hd); omega) (by omega)
      obtain ⟨r1, r2⟩ := recs_more (htl done) (htm done) ((frameB ((done : Nat) : Int) (nth xs done)).take (k - (framesB 0 (xs.take done)).length))
      rw [hdl, hsp, List.append_nil, ← hpre] at r1
      rw [hdl, hsp, Nat.add_zero, ← hpre] at r2
      exact ⟨done, Nat.le_refl _, by omega, by omega, r1, r2, by rw [hpre, List.take_left]⟩

structure DuS where
  i : Nat
  done : Nat
  tried : Nat
  down : Bool
  D : Dk
  mx : MapX
  N : Objs

theorem journalDurable_ok (O : Objs) (l nxt : List Int) (when_ keep : Int) (al an : Option Addr) (cl cn : Nat) (h64l : ∀ n ∈ l, In64 n) (hll : Short l) (hBn : Bytes nxt) (hnl : Short nxt) (hw64 : In64 when_) (hk64 : In64 keep) (hl : Src O 1 (.slice al l.length cl) l.length (l.map I)) (hn : Rowy O 1 an nxt.length (nxt.map B8)) (kn : an = none → cn = 0) :
    Spec Try.prog false 8 #[.slice al l.length cl, I when_, I keep, .slice an nxt.length cn] O fun v _ => v = .bool true := by
  have hD0 : DkI [] ⟨5000, false, false, 0, []⟩ .new := ⟨.new, (fun e he => by simp at he), by decide, (fun q => by cases q), by decide⟩
  obtain ⟨rs1, rs2⟩ := recs_short (b := (getF ([] : List (Int × Fi)) 0).bs) (by decide)
  obtain ⟨D1, e1, s1, r1, u1, f1, g1⟩ := open_still (D := ⟨5000, false, false, 0, []⟩) ⟨rfl, rfl⟩ (by simp) (file := 0) (by decide) rs2
  have hwr := around_range (n := when_) (m := 13) (by decide)
  refine Spec.enter (args := [_, _, _, _]) (m := 157) Try.func8 rfl rfl (by decide +kernel) fun h0 => ?_
  refine WX.seq ?_
  refine WX.region rfl ?_
  refine WXL.assign Met.none rfl ?_
  refine WXL.nil ?_
  refine Fin.then_normal ?_
  refine WX.seq ?_
  refine WX.region rfl ?_
  refine WXL.cl (O1 := _) Met.none rfl (fnOk_of Try.func29 (by decide +kernel)) rfl (fun _ h => h) (fresh_ok O 5000 (by decide)) (fun v O' hp => ?_)
  obtain ⟨d, bm, rfl, rfl⟩ := hp
  refine WXL.assign Met.none rfl ?_
  refine WXL.nil ?_
  refine Fin.then_normal ?_
  refine WX.seq ?_
  refine WX.seq ?_
  refine WX.region rfl ?_
  refine WXL.move Met.none rfl ?_
  refine WXL.eqNilP Met.none rfl rfl Try.underlying51 ?_
  refine WXL.nil ?_
  refine Fin.then_normal ?_
  refine WX.cond rfl (fun hc0 => ?_) (fun hc0 => ?_)
  · try simp only [cnd] at hc0
    exact (by simp at hc0) --end
  · try simp only [cnd] at hc0
    refine WX.skip ?_
    refine Fin.then_normal ?_
    refine WX.seq ?_
    refine WX.region rfl ?_
    refine WXL.move Met.none rfl ?_
    refine WXL.cl (O1 := _) Met.none rfl (fnOk_of Try.func30 (by decide +kernel)) rfl (fun _ h => h) (open_good O d bm ⟨5000, false, false, 0, []⟩ D1 .new 0 [] hD0 (fun g hg => Sat.nil hg.wf) (Nat.zero_le _) e1 rs1) (fun v O' hp => ?_)
    obtain ⟨mx1, lg, a1, c1, v1, G1, R1, rfl, hG1, hR1, rfl, hD1⟩ := hp
    refine WXL.move Met.none rfl ?_
    refine WXL.extract Met.none rfl rfl ?_
    refine WXL.extract Met.none rfl rfl ?_
    refine WXL.extract Met.none rfl rfl ?_
    refine WXL.assign Met.none rfl ?_
    refine WXL.assign Met.none rfl ?_
    refine WXL.assign Met.none rfl ?_
    refine WXL.nil ?_
    refine Fin.then_normal ?_
    refine WX.seq ?_
    refine WX.seq ?_
    refine WX.region rfl ?_
    refine WXL.move Met.none rfl ?_
    refine WXL.eqNilP Met.none rfl rfl Try.underlying53 ?_
    refine WXL.move Met.none rfl ?_
    refine WXL.split (d := 35) rfl (fun hg35 => ?_) (fun hg35 => ?_)
    · try simp only [cnd] at hg35
      exact (by simp at hg35) --end
    · try simp only [cnd] at hg35
      refine WXL.move (Met.some rfl rfl rfl) rfl ?_
      refine WXL.bin (Met.some rfl rfl rfl) rfl rfl rfl ?_
      refine WXL.pick_f Met.none rfl rfl ?_
      refine WXL.nil ?_
      refine Fin.then_normal ?_
      refine WX.cond rfl (fun hc1 => ?_) (fun hc1 => ?_)
      · try simp only [cnd] at hc1
        exact (by simp at hc1) --end
      · try simp only [cnd] at hc1
        refine WX.skip ?_
        refine Fin.then_normal ?_
        refine WX.seq ?_
        refine WX.region rfl ?_
        refine WXL.move Met.none rfl ?_
        refine WXL.move Met.none rfl ?_
        refine WXL.cl (O1 := _) Met.none rfl (fnOk_of Try.func19 (by decide +kernel)) rfl (fun _ h => h) (around_ok _ when_ 13 hw64 (by decide)) (fun v O' hp => ?_)
        obtain ⟨rfl, hO⟩ := hp
        subst O'
        generalize around when_ 13 = wh at hwr ⊢
        refine WXL.cl (O1 := dkO d bm D1 mx1 (lgO lg d 0 (([] : List (List Int)).length : Nat) false :: O)) Met.none rfl (fnOk_of Try.func37 (by decide +kernel)) rfl sub_ (arm_ok _ d bm D1 mx1 wh) (fun v O' hp => ?_)
        obtain rfl := hp
        rw [if_neg (by rw [s1.off]; simp)]
        obtain ⟨D2, hD2e⟩ : ∃ D2 : Dk, D2 = { D1 with armed := decide ((0 : Int) ≤ wh), left := wh } := ⟨_, rfl⟩
        have hD2 : DkI [] D2 mx1 := by rw [hD2e]; exact ⟨hD1.di, hD1.ok, hD1.room, (fun _ => ⟨by show (0 : Int) ≤ wh; omega, by show wh < 9223372036854775808; omega⟩), hD1.used⟩
        have h2o : D2.off = false := by rw [hD2e]; exact s1.off
        have h2r : D2.room = 5000 := by rw [hD2e]; exact r1
        have h2f : D2.fs = D1.fs := by rw [hD2e]
        rw [← hD2e]
        refine WXL.nil ?_
        refine Fin.then_normal ?_
        refine WX.seq ?_
        refine WX.region rfl ?_
        refine WXL.move Met.none rfl ?_
        refine WXL.cl (O1 := _) Met.none rfl (fnOk_of Try.func14 (by decide +kernel)) rfl (fun _ h => h) (mkRecords_own _ l al cl h64l hll (Src.cons (Src.cons (Src.cons hl)))) (fun v O' hp => ?_)
        obtain ⟨xs, ax, cx, vx, Gx, Rx, rfl, hGx, hvx, ⟨hx1, hx2⟩, rfl⟩ := hp
        refine WXL.assign Met.none rfl ?_
        refine WXL.nil ?_
        refine Fin.then_normal ?_
        refine WX.seq ?_
        refine WX.region rfl ?_
        refine WXL.assign Met.none rfl ?_
        refine WXL.nil ?_
        refine Fin.then_normal ?_
        refine WX.seq ?_
        refine WX.region rfl ?_
        refine WXL.assign Met.none rfl ?_
        refine WXL.nil ?_
        refine Fin.then_normal ?_
        refine WX.seq ?_
        refine WX.seq ?_
        refine WX.re (O' := lgO lg d 0 (([] : List (List Int)).length : Nat) false :: dkO d bm D2 mx1 ([] ++ (Gx ++ (Rx ++ O)))) ?_
        obtain ⟨B, hB⟩ : ∃ B, B = Gx ++ (Rx ++ O) := ⟨_, rfl⟩
        have hsx : Src B 1 (.slice ax xs.length cx) xs.length vx := hB ▸ hGx.src
        have hrx : Rowy B 1 ax xs.length vx := hB ▸ hGx.rowy
        have hnx : ax = none → cx = 0 := fun q => (hGx.nil0 q).1
        have hbx : AreB B vx xs := hB ▸ hvx.right.app
        have hnB : Rowy B 1 an nxt.length (nxt.map B8) := hB ▸ hn.app.app
        have hxs : ∀ x ∈ xs, x.length ≤ 200 := fun x hx => by have := (hx2 x hx).2; omega
        have hS0 : DurS xs 0 0 0 false D2 := ⟨⟨Nat.le_refl _, Nat.zero_le _⟩, h2r, (fun j hj => by rw [h2f, g1, if_neg hj]; rfl), by
          rw [h2f]
          have := congrArg Fi.d (f1 0)
          rw [this]
          show (((getF D1.fs 0).bs.length : Nat) : Int) = _
          rw [g1, if_pos rfl]
          rfl, .inl ⟨rfl, rfl, rfl, h2o, by rw [h2f, g1, if_pos rfl]; rfl⟩⟩
        rw [← hB]
        clear hB hGx hvx
        refine WX.region rfl ?_
        refine WXL.assign Met.none rfl ?_
        refine WXL.nil ?_
        refine Fin.then_normal ?_
        refine WX.block ?_
        refine WX.loop (fun q : DuS => [(0, .slice al l.length cl), (2, I keep), (3, .slice an nxt.length cn), (9, Ptr d 0), (10, Ptr lg 0), (13, .slice ax xs.length cx), (14, I (q.done : Int)), (15, I (q.tried : Int)), (16, I (q.i : Int))]) (fun q => lgO lg d 0 (q.done : Nat) q.down :: dkO d bm q.D q.mx (q.N ++ B)) (fun q => DurS xs q.i q.done q.tried q.down q.D ∧ DkI q.N q.D q.mx) (fun q => xs.length - q.i) ⟨0, 0, 0, false, D2, mx1, []⟩ ⟨hS0, hD2⟩ (fun s hs => hs.tl [] 0) (fun q hq => ?_)
        obtain ⟨i, done, tried, down, D, mx, N⟩ := q
        obtain ⟨hS, hD⟩ := hq
        simp only at hS hD
        dsimp only
        have hSle := hS.le
        refine WX.seq ?_
        refine WX.seq ?_
        refine WX.region rfl ?_
        refine WXL.move Met.none rfl ?_
        refine WXL.move Met.none rfl ?_
        refine WXL.len Met.none rfl Try.underlying27 ?_
        refine WXL.bin Met.none rfl rfl rfl ?_
        refine WXL.nil ?_
        refine Fin.then_normal ?_
        refine WX.cond rfl (fun hc2 => ?_) (fun hc2 => ?_)
        · try simp only [cnd] at hc2
          refine WX.skip ?_
          refine Fin.then_normal ?_
          refine WX.seq ?_
          refine WX.block ?_
          refine WX.seq ?_
          have hk1 : i < xs.length := by omega
          obtain ⟨ai, ci, ei, si⟩ := hbx.2 i hk1
          rw [ei] at si
          have hxm := nth_mem hk1
          obtain ⟨hxB, hxL⟩ := hx2 _ hxm
          have hvi : vx[i]? = some (.slice ai (nth xs i).length ci) := by rw [← ei]; exact nth_eq (by rw [hbx.1]; exact hk1)
          obtain ⟨e, D3, hE, hcase⟩ := dur_step hS hD hk1 hx1 hxs
          refine WX.region rfl ?_
          refine WXL.move Met.none rfl ?_
          refine WXL.move Met.none rfl ?_
          refine WXL.move Met.none rfl ?_
          first | refine WXL.ix Met.none rfl rfl elem27 sz23 ?_ | refine WXL.ixS Met.none rfl rfl elem27 sz23 ?_
          first | refine WXL.ld Met.none rfl agg23 ?_ (hv := hvi) | refine WXL.ldS Met.none rfl agg23 ?_ (hv := hvi)
          refine WXL.cl (O1 := _) Met.none rfl (fnOk_of Try.func32 (by decide +kernel)) rfl (fun _ h => h) (logAppend_ok (N ++ B) lg d bm D mx 0 (done : Nat) down (nth xs i) ai ci hD (fun g hg => hg.app_left) (by omega) hxB (by omega) (Src.app si)) (fun v O' hp => ?_)
          obtain ⟨mx3, N3, rfl, rfl, hD3⟩ := hp
          rw [hE] at hD3 ⊢
          dsimp only at hD3 ⊢
          refine WXL.bin Met.none rfl rfl rfl ?_
          refine WXL.nil ?_
          refine Fin.then_normal ?_
          refine WX.cond rfl (fun hc3 => ?_) (fun hc3 => ?_)
          · try simp only [cnd] at hc3
            have hnx := (hcase.resolve_right (fun h => by rcases h with ⟨h, _⟩ | ⟨h, _⟩ <;> omega)).2.2
            subst hc3
            refine WX.re (O' := lgO lg d 0 ((done + 1 : Nat) : Int) false :: dkO d bm D3 mx3 ((N3 ++ N) ++ B)) ?_ (by rw [if_pos rfl, show decide ((0 : Int) = 23) = false from rfl, show ((done : Nat) : Int) + 1 = ((done + 1 : Nat) : Int) from rfl]; exact sub_)
            refine WX.seq ?_
            refine WX.region rfl ?_
            refine WXL.move Met.none rfl ?_
            refine WXL.bin Met.none rfl rfl bvA ?_
            refine WXL.assign Met.none rfl ?_
            refine WXL.nil ?_
            refine Fin.then_normal ?_
            refine WX.region rfl ?_
            refine WXL.move Met.none rfl ?_
            refine WXL.assign Met.none rfl ?_
            refine WXL.nil ?_
            refine Fin.block_normal ?_
            refine Fin.then_normal ?_
            refine WX.region rfl ?_
            refine WXL.move Met.none rfl ?_
            refine WXL.bin Met.none rfl rfl bvA ?_
            refine WXL.assign Met.none rfl ?_
            refine WXL.nil ?_
            first
            | exact Fin.loop_next (⟨i + 1, done + 1, done + 1, false, D3, mx3, N3 ++ N⟩ : DuS) ⟨hnx, hD3⟩ (by simp only; omega) (fun s hs => hs.tl [] 0)
            | exact Fin.loop_next (⟨i + 1, done, done + 1, true, D3, mx3, N3 ++ N⟩ : DuS) ⟨hnx, hD3⟩ (by simp only; omega) (fun s hs => hs.tl [] 0)
            | exact Fin.loop_next (⟨i + 1, done, tried, true, D3, mx3, N3 ++ N⟩ : DuS) ⟨hnx, hD3⟩ (by simp only; omega) (fun s hs => hs.tl [] 0)
          · try simp only [cnd] at hc3
            have he23 : e = 23 := by rcases hcase with ⟨h, _⟩ | ⟨h, _⟩ | ⟨h, _⟩ <;> omega
            refine WX.re (O' := lgO lg d 0 (done : Nat) true :: dkO d bm D3 mx3 ((N3 ++ N) ++ B)) ?_ (by rw [if_neg hc3, he23, show decide ((23 : Int) = 23) = true from rfl]; exact sub_)
            refine WX.seq ?_
            refine WX.region rfl ?_
            refine WXL.move Met.none rfl ?_
            refine WXL.move Met.none rfl ?_
            refine WXL.bin Met.none rfl rfl rfl ?_
            refine WXL.nil ?_
            refine Fin.then_normal ?_
            refine WX.cond rfl (fun hc4 => ?_) (fun hc4 => ?_)
            · try simp only [cnd] at hc4
              have hnx : DurS xs (i + 1) done (done + 1) true D3 := by
                rcases hcase with ⟨h, _⟩ | ⟨_, _, h⟩ | ⟨_, h, _⟩
                · omega
                · exact h
                · omega
              refine WX.region rfl ?_
              refine WXL.move Met.none rfl ?_
              refine WXL.bin Met.none rfl rfl bvA ?_
              refine WXL.assign Met.none rfl ?_
              refine WXL.nil ?_
              refine Fin.block_normal ?_
              refine Fin.then_normal ?_
              refine WX.region rfl ?_
              refine WXL.move Met.none rfl ?_
              refine WXL.bin Met.none rfl rfl bvA ?_
              refine WXL.assign Met.none rfl ?_
              refine WXL.nil ?_
              first
              | exact Fin.loop_next (⟨i + 1, done + 1, done + 1, false, D3, mx3, N3 ++ N⟩ : DuS) ⟨hnx, hD3⟩ (by simp only; omega) (fun s hs => hs.tl [] 0)
              | exact Fin.loop_next (⟨i + 1, done, done + 1, true, D3, mx3, N3 ++ N⟩ : DuS) ⟨hnx, hD3⟩ (by simp only; omega) (fun s hs => hs.tl [] 0)
              | exact Fin.loop_next (⟨i + 1, done, tried, true, D3, mx3, N3 ++ N⟩ : DuS) ⟨hnx, hD3⟩ (by simp only; omega) (fun s hs => hs.tl [] 0)
            · try simp only [cnd] at hc4
              have hnx : DurS xs (i + 1) done tried true D3 := by
                rcases hcase with ⟨h, _⟩ | ⟨_, h, _⟩ | ⟨_, _, h⟩
                · omega
                · omega
                · exact h
              refine WX.skip ?_
              refine Fin.block_normal ?_
              refine Fin.then_normal ?_
              refine WX.region rfl ?_
              refine WXL.move Met.none rfl ?_
              refine WXL.bin Met.none rfl rfl bvA ?_
              refine WXL.assign Met.none rfl ?_
              refine WXL.nil ?_
              first
              | exact Fin.loop_next (⟨i + 1, done + 1, done + 1, false, D3, mx3, N3 ++ N⟩ : DuS) ⟨hnx, hD3⟩ (by simp only; omega) (fun s hs => hs.tl [] 0)
              | exact Fin.loop_next (⟨i + 1, done, done + 1, true, D3, mx3, N3 ++ N⟩ : DuS) ⟨hnx, hD3⟩ (by simp only; omega) (fun s hs => hs.tl [] 0)
              | exact Fin.loop_next (⟨i + 1, done, tried, true, D3, mx3, N3 ++ N⟩ : DuS) ⟨hnx, hD3⟩ (by simp only; omega) (fun s hs => hs.tl [] 0)
        · try simp only [cnd] at hc2
          refine WX.exit ?_
          refine Fin.then_exit ?_
          refine Fin.loop_exit ?_
          refine Fin.block_hit rfl ?_
          refine Fin.then_normal ?_
          refine WX.seq ?_
          refine WX.seq ?_
          have hie : i = xs.length := by omega
          rw [hie] at hS hSle
          refine WX.region rfl ?_
          refine WXL.move Met.none rfl ?_
          refine WXL.cl (O1 := _) Met.none rfl (fnOk_of Try.func33 (by decide +kernel)) rfl (fun _ h => h) (len_ok _ lg d 0 _ down) (fun v O' hp => ?_)
          obtain ⟨rfl, hO⟩ := hp
          subst O'
          refine WXL.move Met.none rfl ?_
          refine WXL.bin Met.none rfl rfl rfl ?_
          refine WXL.move Met.none rfl ?_
          refine WXL.split (d := 70) rfl (fun hg70 => ?_) (fun hg70 => ?_)
          · try simp only [cnd] at hg70
            exact (by simp at hg70) --end
          · try simp only [cnd] at hg70
            refine WXL.move (Met.some rfl rfl rfl) rfl ?_
            refine WXL.cl (O1 := _) (Met.some rfl rfl rfl) rfl (fnOk_of Try.func34 (by decide +kernel)) rfl (fun _ h => h) (up_ok _ lg d 0 _ down) (fun v O' hp => ?_)
            obtain ⟨rfl, hO⟩ := hp
            subst O'
            refine WXL.move (Met.some rfl rfl rfl) rfl ?_
            refine WXL.move (Met.some rfl rfl rfl) rfl ?_
            refine WXL.len (Met.some rfl rfl rfl) rfl Try.underlying27 ?_
            refine WXL.bin (Met.some rfl rfl rfl) rfl rfl rfl ?_
            refine WXL.neB (Met.some rfl rfl rfl) rfl rfl Try.underlying4 ?_
            refine WXL.pick_f Met.none rfl rfl ?_
            refine WXL.nil ?_
            refine Fin.then_normal ?_
            refine WX.cond rfl (fun hc5 => ?_) (fun hc5 => ?_)
            · try simp only [cnd] at hc5
              rcases hS.st with ⟨q1, q2, _⟩ | ⟨q1, q2, _⟩ <;> first | exact absurd hc5 (by rw [q1, decide_eq_true (by omega)]; decide) | exact absurd hc5 (by rw [q1, decide_eq_false (by omega)]; decide) --end
            · try simp only [cnd] at hc5
              refine WX.skip ?_
              refine Fin.then_normal ?_
              refine WX.seq ?_
              refine WX.region rfl ?_
              refine WXL.move Met.none rfl ?_
              refine WXL.move Met.none rfl ?_
              refine WXL.buildSlice (c := [_]) Met.none rfl elem22 sz3 zero3 (by decide) (by decide) rfl rfl rfl rfl (fun b81 => ?_)
              refine WXL.cl (O1 := dkO d bm D mx ((b81, ⟨1, false, [I keep]⟩) :: lgO lg d 0 (done : Nat) down :: (N ++ B))) Met.none rfl (fnOk_of Try.func36 (by decide +kernel)) rfl sub_ (crash_ok ((b81, ⟨1, false, [I keep]⟩) :: lgO lg d 0 (done : Nat) down :: (N ++ B)) d bm D mx [keep] (some ⟨b81, 0, none⟩) 1 (-1) hD (by intro Q; simp only [List.countP_append, List.countP_cons]; omega) (by rw [hS.room]; decide) (by unfold In64; decide) (fun n hn => by rw [List.mem_singleton] at hn; subst hn; exact hk64) (by unfold Short; simp) (Src.row1 rfl)) (fun v O' hp => ?_)
              obtain ⟨mx6, N6, D6, rfl, hD6, hr6, ho6, ha6, hg6⟩ := hp
              refine WXL.nil ?_
              refine Fin.then_normal ?_
              refine WX.seq ?_
              obtain ⟨N7, hN7⟩ : ∃ N7, N7 = N6 ++ N := ⟨_, rfl⟩
              rw [← hN7] at hD6
              refine WX.re (O' := dkO d bm D6 mx6 (N7 ++ B)) ?_ (by rw [hN7]; exact sub_)
              obtain ⟨f', h1, h2, h3, h4⟩ := crash_any hD [keep] (-1) 0
              obtain ⟨kc, hkc, hkd⟩ := h4 (by decide)
              have hbs6 : (getF D6.fs 0).bs = (getF D.fs 0).bs.take kc := by rw [hg6, h1, ← hkc]; rfl
              have hon6 : Only 0 D6 := fun j hj => by
                obtain ⟨fj, j1, j2, j3, _⟩ := crash_any hD [keep] (-1) j
                rw [hg6, j1]
                rw [hS.only j hj] at j3
                exact List.length_eq_zero_iff.1 (Nat.le_zero.1 j3)
              obtain ⟨g, hg1, hg2, hg3, hg4, hg5, hg7⟩ := dur_recs hS hx1 hxs hbs6 hkd
              obtain ⟨A, hA⟩ : ∃ A, A = xs.take g := ⟨_, rfl⟩
              have hAl : A.length = g := by rw [hA, List.length_take]; omega
              have hAm : ∀ x ∈ A, Bytes x ∧ x.length ≤ 10 := fun x hx => hx2 x (List.mem_of_mem_take (hA ▸ hx))
              have hAf := framesB_small (xs := A) (by omega) fun x hx => by have := (hAm x hx).2; omega
              rw [← hA] at hg4 hg5 hg7
              obtain ⟨D8, e8, s8, r8, u8, f8, g8⟩ := open_still (D := D6) ⟨ho6, ha6⟩ hD6.di.nd (file := 0) (by decide) hg5
              have hlen6 : (getF D6.fs 0).bs.length ≤ 100000 := by
                have h5 := used_get D6.fs 0
                have h6 := hD6.used
                rw [hr6, hS.room] at h6
                omega
              refine WX.region rfl ?_
              refine WXL.move Met.none rfl ?_
              refine WXL.cl (O1 := dkO d bm D6 mx6 (N7 ++ B)) Met.none rfl (fnOk_of Try.func30 (by decide +kernel)) rfl sub_ (open_good _ d bm D6 D8 mx6 0 A hD6 (fun g hg => hg.app_left) hlen6 e8 hg4) (fun v O' hp => ?_)
              obtain ⟨mx9, lg9, a9, c9, v9, G9, R9, rfl, hG9, hR9, rfl, hD9⟩ := hp
              refine WXL.move Met.none rfl ?_
              refine WXL.extract Met.none rfl rfl ?_
              refine WXL.extract Met.none rfl rfl ?_
              refine WXL.extract Met.none rfl rfl ?_
              refine WXL.assign Met.none rfl ?_
              refine WXL.assign Met.none rfl ?_
              refine WXL.assign Met.none rfl ?_
              refine WXL.nil ?_
              refine Fin.then_normal ?_
              refine WX.seq ?_
              refine WX.seq ?_
              have hOne : One A D8 mx9 N7 := ⟨s8, by rw [r8, hr6, hS.room], f8, (fun j hj => by rw [g8, if_neg hj]; exact hon6 j hj), by rw [g8, if_pos rfl, hg7], hD9⟩
              refine WX.region rfl ?_
              refine WXL.move Met.none rfl ?_
              refine WXL.eqNilP Met.none rfl rfl Try.underlying53 ?_
              refine WXL.move Met.none rfl ?_
              refine WXL.split (d := 91) rfl (fun hg91 => ?_) (fun hg91 => ?_)
              · try simp only [cnd] at hg91
                exact (by simp at hg91) --end
              · try simp only [cnd] at hg91
                refine WXL.move (Met.some rfl rfl rfl) rfl ?_
                refine WXL.bin (Met.some rfl rfl rfl) rfl rfl rfl ?_
                refine WXL.pick_f Met.none rfl rfl ?_
                refine WXL.move Met.none rfl ?_
                refine WXL.split (d := 95) rfl (fun hg95 => ?_) (fun hg95 => ?_)
                · try simp only [cnd] at hg95
                  exact (by simp at hg95) --end
                · try simp only [cnd] at hg95
                  refine WXL.move (Met.some rfl rfl rfl) rfl ?_
                  refine WXL.len (Met.some rfl rfl rfl) rfl Try.underlying27 ?_
                  refine WXL.move (Met.some rfl rfl rfl) rfl ?_
                  refine WXL.bin (Met.some rfl rfl rfl) rfl rfl rfl ?_
                  refine WXL.pick_f Met.none rfl rfl ?_
                  refine WXL.move Met.none rfl ?_
                  refine WXL.split (d := 101) rfl (fun hg101 => ?_) (fun hg101 => ?_)
                  · try simp only [cnd] at hg101
                    exact absurd hg101 (by omega) --end
                  · try simp only [cnd] at hg101
                    refine WXL.move (Met.some rfl rfl rfl) rfl ?_
                    refine WXL.len (Met.some rfl rfl rfl) rfl Try.underlying27 ?_
                    refine WXL.move (Met.some rfl rfl rfl) rfl ?_
                    refine WXL.bin (Met.some rfl rfl rfl) rfl rfl rfl ?_
                    refine WXL.pick_f Met.none rfl rfl ?_
                    refine WXL.move Met.none rfl ?_
                    refine WXL.split (d := 107) rfl (fun hg107 => ?_) (fun hg107 => ?_)
                    · try simp only [cnd] at hg107
                      exact absurd hg107 (by omega) --end
                    · try simp only [cnd] at hg107
                      refine WXL.move (Met.some rfl rfl rfl) rfl ?_
                      refine WXL.move (Met.some rfl rfl rfl) rfl ?_
                      refine WXL.move (Met.some rfl rfl rfl) rfl ?_
                      refine WXL.len (Met.some rfl rfl rfl) rfl Try.underlying27 ?_
                      refine WXL.pre (m := A.length) (Met.some rfl rfl rfl) rfl rfl elem27 sz23 (Rowy.cons (Rowy.cons (Rowy.cons (Rowy.app (Rowy.app (Rowy.app hrx)))))) hnx ?_
                      have hpre := hrx.pre (m := A.length) (by omega)
                      rw [Nat.mul_one] at hpre
                      refine WXL.cl (O1 := _) (Met.some rfl rfl rfl) rfl (fnOk_of Try.func17 (by decide +kernel)) rfl (fun _ h => h) (sameLists_ok _ A A v9 (vx.take A.length) a9 ax c9 A.length (by omega) (fun z hz => by have := (hAm z hz).2; omega) (Src.cons (Src.cons (Src.cons hG9.src))) (Src.cons (Src.cons (Src.cons (Src.app (Src.app (Src.app (hpre.src (fun q => hpre.nil0 q)))))))) hR9.right.app.cons.cons.cons (AreB.front hbx (n := A.length) (by omega) (by rw [hAl]; exact hA.symm)).app.app.app.cons.cons.cons) (fun v O' hp => ?_)
                      obtain ⟨b1, rfl, hb1, rfl⟩ := hp
                      refine WXL.not (Met.some rfl rfl rfl) rfl ?_
                      refine WXL.pick_f Met.none rfl rfl ?_
                      refine WXL.move Met.none rfl ?_
                      refine WXL.split (d := 116) rfl (fun hg116 => ?_) (fun hg116 => ?_)
                      · try simp only [cnd] at hg116
                        exact (by rw [hg116] at hb1; simp at hb1) --end
                      · try simp only [cnd] at hg116
                        refine WXL.move (Met.some rfl rfl rfl) rfl ?_
                        refine WXL.cl (O1 := _) (Met.some rfl rfl rfl) rfl (fnOk_of Try.func33 (by decide +kernel)) rfl (fun _ h => h) (len_ok _ lg9 d 0 _ false) (fun v O' hp => ?_)
                        obtain ⟨rfl, hO⟩ := hp
                        subst O'
                        refine WXL.move (Met.some rfl rfl rfl) rfl ?_
                        refine WXL.len (Met.some rfl rfl rfl) rfl Try.underlying27 ?_
                        refine WXL.bin (Met.some rfl rfl rfl) rfl rfl rfl ?_
                        refine WXL.pick_f Met.none rfl rfl ?_
                        refine WXL.nil ?_
                        refine Fin.then_normal ?_
                        refine WX.cond rfl (fun hc6 => ?_) (fun hc6 => ?_)
                        · try simp only [cnd] at hc6
                          exact (by simp at hc6) --end
                        · try simp only [cnd] at hc6
                          refine WX.skip ?_
                          refine Fin.then_normal ?_
                          refine WX.seq ?_
                          refine WX.region rfl ?_
                          refine WXL.move Met.none rfl ?_
                          refine WXL.cl (O1 := _) Met.none rfl (fnOk_of Try.func10 (by decide +kernel)) rfl (fun _ h => h) (few_ok _ nxt an cn 50 (by decide) hnl (by decide) (Rowy.cons (Rowy.cons (Rowy.cons (Rowy.app (Rowy.app (Rowy.app hnB)))))) kn) (fun v O' hp => ?_)
                          obtain ⟨a2, c2, G2, rfl, hG2, rfl⟩ := hp
                          obtain ⟨y, hy⟩ : ∃ y, y = nxt.take (50 : Int).toNat := ⟨_, rfl⟩
                          have hyl : y.length ≤ 50 := by rw [hy, List.length_take]; show min 50 _ ≤ 50; omega
                          have hyB : Bytes y := hy ▸ take_bytes hBn
                          rw [← hy] at hG2 ⊢
                          have hfy := frameB_len (i := ((A.length : Nat) : Int)) (x := y) (by unfold In64; omega) (by omega)
                          obtain ⟨D10, e10, h10⟩ := one_step hOne (x := y) (by omega)
                          refine WXL.assign Met.none rfl ?_
                          refine WXL.nil ?_
                          refine Fin.then_normal ?_
                          refine WX.seq ?_
                          refine WX.seq ?_
                          refine WX.region rfl ?_
                          refine WXL.move Met.none rfl ?_
                          refine WXL.move Met.none rfl ?_
                          refine WXL.cl (O1 := lgO lg9 d 0 (A.length : Nat) false :: dkO d bm D8 mx9 (G2 ++ (G9 ++ (R9 ++ (N7 ++ B))))) Met.none rfl (fnOk_of Try.func32 (by decide +kernel)) rfl sub_ (logAppend_ok (G2 ++ (G9 ++ (R9 ++ (N7 ++ B)))) lg9 d bm D8 mx9 0 (A.length : Nat) false y a2 c2 hOne.dk (fun g hg => hg.app_right.app_right.app_right.app_left) (by omega) hyB (by omega) hG2.src) (fun v O' hp => ?_)
                          obtain ⟨mx11, N11, rfl, rfl, hD11⟩ := hp
                          rw [e10] at hD11 ⊢
                          dsimp only at hD11 ⊢
                          have hOne2 := h10 _ _ hD11
                          refine WXL.bin Met.none rfl rfl rfl ?_
                          refine WXL.nil ?_
                          refine Fin.then_normal ?_
                          refine WX.cond rfl (fun hc7 => ?_) (fun hc7 => ?_)
                          · try simp only [cnd] at hc7
                            exact (by simp at hc7) --end
                          · try simp only [cnd] at hc7
                            refine WX.skip ?_
                            refine Fin.then_normal ?_
                            refine WX.seq ?_
                            have hyA : ∀ x ∈ A ++ [y], x.length ≤ 1000000 := fun x hx => by
                              rcases List.mem_append.1 hx with q | q
                              · have := (hAm x q).2; omega
                              · rw [List.mem_singleton] at q; subst q; omega
                            have hAyl : (A ++ [y]).length = g + 1 := by rw [List.length_append, hAl]; rfl
                            obtain ⟨ra1, ra2⟩ := recs_frames (l := A ++ [y]) (by omega) hyA
                            have hra : endP (getF D10.fs 0).bs (recsP (getF D10.fs 0).bs).length = (framesB 0 (A ++ [y])).length := by rw [hOne2.bs, ra1, ra2]
                            obtain ⟨D12, e12, s12, r12, u12, f12, g12⟩ := open_still hOne2.still hOne2.dk.di.nd (file := 0) (by decide) hra
                            have hl12 : (getF D10.fs 0).bs.length ≤ 100000 := by
                              rw [hOne2.bs, framesB_one', List.length_append]
                              omega
                            refine WX.re (O' := dkO d bm D10 mx11 ((N11 ++ N7) ++ (G2 ++ (G9 ++ (R9 ++ B))))) ?_
                            refine WX.region rfl ?_
                            refine WXL.move Met.none rfl ?_
                            refine WXL.cl (O1 := dkO d bm D10 mx11 ((N11 ++ N7) ++ (G2 ++ (G9 ++ (R9 ++ B))))) Met.none rfl (fnOk_of Try.func30 (by decide +kernel)) rfl sub_ (open_good _ d bm D10 D12 mx11 0 (A ++ [y]) hOne2.dk (fun g hg => hg.app_left) hl12 e12 (by rw [hOne2.bs]; exact ra1)) (fun v O' hp => ?_)
                            obtain ⟨mx13, lg13, a13, c13, v13, G13, R13, rfl, hG13, hR13, rfl, hD13⟩ := hp
                            refine WXL.move Met.none rfl ?_
                            refine WXL.extract Met.none rfl rfl ?_
                            refine WXL.extract Met.none rfl rfl ?_
                            refine WXL.extract Met.none rfl rfl ?_
                            refine WXL.assign Met.none rfl ?_
                            refine WXL.assign Met.none rfl ?_
                            refine WXL.assign Met.none rfl ?_
                            refine WXL.nil ?_
                            refine Fin.then_normal ?_
                            refine WX.seq ?_
                            rw [hAyl] at hG13 ⊢
                            rw [hAl]
                            obtain ⟨ay, cy, ey, sy⟩ := hR13.2 g (by omega)
                            have hng : nth (A ++ [y]) g = y := by
                              rw [nth_snoc, if_neg (by omega), if_pos hAl.symm]
                            rw [hng] at ey sy
                            rw [ey] at sy
                            have hvg : v13[g]? = some (.slice ay y.length cy) := by rw [← ey]; exact nth_eq (by rw [hR13.1]; omega)
                            refine WX.region rfl ?_
                            refine WXL.move Met.none rfl ?_
                            refine WXL.bin Met.none rfl rfl rfl ?_
                            refine WXL.move Met.none rfl ?_
                            refine WXL.split (d := 137) rfl (fun hg137 => ?_) (fun hg137 => ?_)
                            · try simp only [cnd] at hg137
                              refine WXL.move (Met.some rfl rfl rfl) rfl ?_
                              refine WXL.len (Met.some rfl rfl rfl) rfl Try.underlying27 ?_
                              refine WXL.move (Met.some rfl rfl rfl) rfl ?_
                              refine WXL.len (Met.some rfl rfl rfl) rfl Try.underlying27 ?_
                              refine WXL.bin (Met.some rfl rfl rfl) rfl rfl bvA ?_
                              refine WXL.bin (Met.some rfl rfl rfl) rfl rfl rfl ?_
                              refine WXL.pick_t Met.none rfl rfl ?_
                              refine WXL.move Met.none rfl ?_
                              refine WXL.split (d := 145) rfl (fun hg145 => ?_) (fun hg145 => ?_)
                              · try simp only [cnd] at hg145
                                refine WXL.move (Met.some rfl rfl rfl) rfl ?_
                                refine WXL.move (Met.some rfl rfl rfl) rfl ?_
                                refine WXL.len (Met.some rfl rfl rfl) rfl Try.underlying27 ?_
                                first | refine WXL.ix (Met.some rfl rfl rfl) rfl rfl elem27 sz23 ?_ | refine WXL.ixS (Met.some rfl rfl rfl) rfl rfl elem27 sz23 ?_
                                first | refine WXL.ld (Met.some rfl rfl rfl) rfl agg23 ?_ (hv := hvg) | refine WXL.ldS (Met.some rfl rfl rfl) rfl agg23 ?_ (hv := hvg)
                                refine WXL.move (Met.some rfl rfl rfl) rfl ?_
                                refine WXL.cl (O1 := _) (Met.some rfl rfl rfl) rfl (fnOk_of Try.func11 (by decide +kernel)) rfl (fun _ h => h) (sameB_ok _ y y ay a2 cy c2 (by unfold Short; omega) (Src.cons (Src.cons (Src.cons (Src.app sy.right)))) (Src.cons (Src.cons (Src.cons (Src.app (Src.app (Src.app hG2.src))))))) (fun v O' hp => ?_)
                                obtain ⟨rfl, hO⟩ := hp
                                subst O'
                                refine WXL.pick_t Met.none rfl rfl ?_
                                refine WXL.move Met.none rfl ?_
                                refine WXL.split (d := 154) rfl (fun hg154 => ?_) (fun hg154 => ?_)
                                · try simp only [cnd] at hg154
                                  refine WXL.cl (O1 := _) (Met.some rfl rfl rfl) rfl (fnOk_of Try.func18 (by decide +kernel)) rfl (fun _ h => h) (lives_ok _) (fun v O' hp => ?_)
                                  obtain ⟨rfl, hO⟩ := hp
                                  subst O'
                                  refine WXL.pick_t Met.none rfl rfl ?_
                                  refine WXL.assign Met.none rfl ?_
                                  refine WXL.nil ?_
                                  refine Fin.then_normal ?_
                                  refine WX.ret ?_
                                  exact Fin.result (O' := []) (.inr rfl) rfl rfl (fun _ hs => ⟨by simp, fun p hp => by simp at hp, hs.wf⟩) rfl
                                · try simp only [cnd] at hg154
                                  exact (by simp at hg154) --end
                              · try simp only [cnd] at hg145
                                exact absurd hg145 (by omega) --end
                            · try simp only [cnd] at hg137
                              exact (by simp at hg137) --end

end Go.Proofs.Ythekokdpplobhaa.Eng

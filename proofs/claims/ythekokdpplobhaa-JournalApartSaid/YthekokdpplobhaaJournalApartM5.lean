/- A crash, walked. Own work; no condition. | Append to a file of a disk. Own work; no condition. | Open a log. Own work; no condition. | A log's Append, Len, Up; a fresh disk. Own work; no condition. | A log's Append. Own work; no condition. | Logs on a disk that never fails, in plain lists. Own work; no condition. | Logs on a disk that never fails, and a crash of durable bytes, in plain lists. Own work; no condition. | The law JournalApart, walked. Own work; no condition. -/
import Derived.Test.YthekokdpplobhaaJournalApartM1
import Derived.Test.YthekokdpplobhaaJournalApartM2
import Derived.Test.YthekokdpplobhaaJournalApartM3
import Derived.Test.YthekokdpplobhaaJournalApartM4
set_option linter.unusedVariables false
set_option linter.unusedSimpArgs false
namespace Go.Proofs.Ythekokdpplobhaa.Eng

/-- What a crash comes to. -/
def CrashPost (D0 : Dk) (keep : List Int) (flip : Int) (d bm : Nat) (R R0 : Objs) (O' : Objs) : Prop :=
  ∃ mx' N D', O' = dkO d bm D' mx' (N ++ R) ∧ DkI (N ++ R0) D' mx' ∧ D'.room = D0.room ∧ D'.off = false ∧ D'.armed = false ∧ ∀ m, getF D'.fs m = ((mget m (crashC D0 keep flip)).getD ⟨[], 0⟩).hard

theorem looseSum_le (D0 : Dk) (keep : List Int) (M : Nat) (h : ∀ n, (getF D0.fs n).bs.length ≤ M) : ∀ i, looseSum (cuts D0 keep i) ≤ i * M
  | 0 => Nat.zero_le _
  | i + 1 => by
    have h1 := looseSum_le D0 keep M h i
    have h2 := h (nth (fnos D0) i)
    rw [cuts_succ, looseSum_app, Nat.succ_mul]
    have h3 : looseSum [cutAt D0 keep i] ≤ M := by
      show looseN (cutF keep i (getF D0.fs (nth (fnos D0) i))) + 0 ≤ M
      unfold looseN cutF
      simp only [List.length_take]
      omega
    omega

theorem flipB_range (a : Int) (k : Nat) : 0 ≤ flipB a k ∧ flipB a k < 256 := wrap8_lt _

theorem Rowy.mid {A N R : Objs} {sz : Nat} {a : Option Addr} {n : Nat} {cs : List Value} (h : Rowy (A ++ R) sz a n cs) : Rowy (A ++ (N ++ R)) sz a n cs :=
  h.inc fun g hg => hg.sub (by intro Q; simp only [List.countP_append]; omega)
theorem FRel.mid {A N R : Objs} {m : List (Int × Value)} {fs : List (Int × Fi)} (h : FRel (A ++ R) m fs) : FRel (A ++ (N ++ R)) m fs := by
  induction h with
  | nil => exact .nil
  | cons h1 _ ih =>
    obtain ⟨a, c, h2, h3, h4⟩ := h1
    exact .cons ⟨a, c, h2, h3.mid, h4⟩ ih

theorem crash_ok (R : Objs) {R0 : Objs} (d bm : Nat) (D0 : Dk) (mx0 : MapX) (keep : List Int) (ak : Option Addr) (ck : Nat) (flip : Int) (hD : DkI R0 D0 mx0) (hi : ∀ Q : Nat × Ent → Bool, R0.countP Q ≤ R.countP Q) (hroom : D0.room ≤ 1000000) (hf64 : In64 flip) (hk64 : ∀ n ∈ keep, In64 n) (hkl : Short keep)
    (hk : Src R 1 (.slice ak keep.length ck) keep.length (keep.map I)) :
    Spec Try.prog false 36 #[Ptr d 0, .slice ak keep.length ck, I flip] (dkO d bm D0 mx0 R) fun v O' => CrashPost D0 keep flip d bm R R0 O' := by
  have hnd := fnos_nd hD
  have hfl := fnos_len hD
  have hfl2 : (fnos D0).length ≤ 1000000 := by
    have h1 := used_count hD.ok
    have h2 := hD.used
    have h4 : (fnos D0).length = D0.fs.length := by
      unfold fnos
      rw [(sortK_perm _).length_eq, List.length_map]
    omega
  refine Spec.enter (args := [_, _, _]) (m := 107) Try.func36 rfl rfl (by decide +kernel) fun h0 => ?_
  refine WX.seq ?_
  refine WX.region rfl ?_
  refine WXL.assign Met.none rfl ?_
  refine WXL.nil ?_
  refine Fin.then_normal ?_
  refine WX.seq ?_
  refine WX.seq ?_
  refine WX.region rfl ?_
  refine WXL.move Met.none rfl ?_
  refine WXL.cl (O1 := _) Met.none rfl (fnOk_of Try.func60 (by decide +kernel)) rfl (fun _ h => h) (files_ok _ R d bm D0 mx0 hD) (fun v O' hp => ?_)
  obtain ⟨a15, c15, G15, rfl, hG15, rfl⟩ := hp
  refine WXL.len Met.none rfl Try.underlying22 ?_
  refine WXL.move Met.none rfl ?_
  refine WXL.nil ?_
  refine Fin.then_normal ?_
  refine WX.block ?_
  obtain ⟨B, hB⟩ : ∃ B, B = G15 ++ R := ⟨_, rfl⟩
  have hsF : Src B 1 (.slice a15 (fnos D0).length c15) (fnos D0).length ((fnos D0).map I) := hB ▸ hG15.src
  have hsK : Src B 1 (.slice ak keep.length ck) keep.length (keep.map I) := hB ▸ Src.app hk
  have hiB : ∀ Q : Nat × Ent → Bool, R0.countP Q ≤ B.countP Q := fun Q => by
    have := hi Q
    rw [hB, List.countP_append]
    omega
  refine WX.re (O' := dkO d bm D0 mx0 ([] ++ ([] ++ B))) ?_ (by rw [hB]; exact sub_)
  refine WX.loop (fun q : CrS => [(0, Ptr d 0), (1, .slice ak keep.length ck), (2, I flip), (6, .slice q.a (looseV q.ow).length q.c), (15, .slice a15 (fnos D0).length c15), (16, I ((fnos D0).length : Nat)), (17, I (q.i : Nat))]) (fun q => dkO d bm q.D q.mx (q.G ++ (rowsO q.ow ++ B))) (CrI D0 keep R0) (fun q => (fnos D0).length - q.i) ⟨0, [], D0, mx0, none, 0, []⟩ ⟨Nat.zero_le _, rfl, (fun o ho => by simp at ho), (fun o ho => by simp at ho), (fun m => rfl), (fun e he => fnos_mem.2 (List.mem_map.2 ⟨e, he, rfl⟩)), hD, ⟨rfl, rfl, rfl, rfl⟩, .nil⟩ (fun s hs => hs.tl [] 0) (fun q hq => ?_)
  obtain ⟨i, ow, D, mx, a6, c6, G6⟩ := q
  obtain ⟨hin, how, hgr, hval, hget, hkeys, hDi, hsame, hloose⟩ := hq
  simp only at hin how hgr hval hget hkeys hDi hsame hloose
  dsimp only
  have hlsum : (looseV ow).length ≤ i * 1000000 := by
    rw [looseV_len, how]
    exact looseSum_le D0 keep 1000000 (fun n => by
      have h1 := used_get D0.fs n
      have h2 := hD.used
      omega) i
  refine WX.seq ?_
  refine WX.region rfl ?_
  refine WXL.bin Met.none rfl rfl rfl ?_
  refine WXL.nil ?_
  refine Fin.then_normal ?_
  refine WX.seq ?_
  refine WX.cond rfl (fun hc0 => ?_) (fun hc0 => ?_)
  · try simp only [cnd] at hc0
    refine WX.skip ?_
    refine Fin.then_normal ?_
    refine WX.seq ?_
    refine WX.block ?_
    refine WX.seq ?_
    have hik : i < (fnos D0).length := by omega
    obtain ⟨n, hn⟩ : ∃ n, n = nth (fnos D0) i := ⟨_, rfl⟩
    have hnin : n ∈ fnos D0 := hn ▸ nth_mem hik
    have hn64 := fnos_range hD hnin
    have hnot : n ∉ (cuts D0 keep i).map (·.1) := by rw [cuts_keys D0 keep i (by omega), hn]; exact take_nth_notin hnd hik
    have hfn : getF D.fs n = getF D0.fs n := by rw [hget n, mget_none hnot]; rfl
    obtain ⟨fa, fc, hfv, hrow0, hnil, hfB⟩ := hDi.di.get n
    obtain ⟨f, hf⟩ : ∃ f, f = getF D.fs n := ⟨_, rfl⟩
    have hfd := hDi.get_d n
    have hflen := hDi.get_len n
    rw [← hf] at hfv hrow0 hfB hfd hflen hfn
    have hrow := hrow0.inc (R := G6 ++ (rowsO ow ++ B)) (fun g hg => hg.sub (by intro Q; have := hiB Q; simp only [List.countP_append]; omega))
    obtain ⟨kk, hkk⟩ : ∃ kk, kk = keepN keep i f := ⟨_, rfl⟩
    have hkr := keepN_range keep i hfd
    obtain ⟨cb, hcb⟩ : ∃ cb, cb = (cutF keep i f).bs := ⟨_, rfl⟩
    have hcl := cutF_len keep i hfd
    rw [← hcb, ← hkk] at hcl
    rw [← hkk] at hkr
    have htk : f.bs.take cb.length = cb := by
      rw [hcb]
      show f.bs.take (f.bs.take _).length = f.bs.take _
      rw [List.length_take, ← List.take_take, List.take_length]
    refine WX.region rfl ?_
    refine WXL.move Met.none rfl ?_
    first | refine WXL.ix Met.none rfl rfl elem22 sz3 ?_ | refine WXL.ixS Met.none rfl rfl elem22 sz3 ?_
    first | refine WXL.ld Met.none rfl agg3 ?_ (hv := (show ((fnos D0).map I)[i]? = some (I n) from by rw [hn]; exact cell_map _ _ _ hik)) | refine WXL.ldS Met.none rfl agg3 ?_ (hv := (show ((fnos D0).map I)[i]? = some (I n) from by rw [hn]; exact cell_map _ _ _ hik))
    refine WXL.assign Met.none rfl ?_
    refine WXL.assign Met.none rfl ?_
    refine WXL.nil ?_
    refine Fin.then_normal ?_
    refine WX.seq ?_
    refine WX.region rfl ?_
    refine WXL.move Met.none rfl ?_
    refine WXL.nilCheck Met.none rfl ?_
    first | refine WXL.fieldAddr Met.none rfl Try.underlying92 rfl sz90 rfl ?_ | refine WXL.faS Met.none rfl Try.underlying92 rfl sz90 ?_
    first | refine WXL.ld Met.none rfl agg90 ?_ | refine WXL.ldS Met.none rfl agg90 ?_
    refine WXL.move Met.none rfl ?_
    refine WXL.lookup Met.none rfl rfl mapT90 zero94 at_ (show _ = fileV fa f.bs.length fc f.d from hfv) ?_
    refine WXL.alloc (c := [_, _]) Met.none zero94 rfl (fun b9 => ?_)
    refine WXL.st (vs := [_, _]) (c' := [_, _]) (j := 0) Met.none rfl rfl rfl sz94 ?_ (hj := rfl)
    refine WXL.nil ?_
    refine Fin.then_normal ?_
    refine WX.seq ?_
    refine WX.region rfl ?_
    refine WXL.assign Met.none rfl ?_
    refine WXL.nil ?_
    refine Fin.then_normal ?_
    refine WX.seq ?_
    refine WX.seq ?_
    refine WX.region rfl ?_
    refine WXL.move Met.none rfl ?_
    refine WXL.move Met.none rfl ?_
    refine WXL.len Met.none rfl Try.underlying22 ?_
    refine WXL.bin Met.none rfl rfl rfl ?_
    refine WXL.nil ?_
    refine Fin.then_normal ?_
    refine WX.cond rfl (fun hc1 => ?_) (fun hc1 => ?_)
    · try simp only [cnd] at hc1
      have hik2 : i < keep.length := by omega
      refine WX.draw rfl ?_
      refine WXL.move Met.none rfl ?_
      refine WXL.move Met.none rfl ?_
      first | refine WXL.ix Met.none rfl rfl elem22 sz3 ?_ | refine WXL.ixS Met.none rfl rfl elem22 sz3 ?_
      first | refine WXL.ld Met.none rfl agg3 ?_ (hv := (cell_map _ _ _ (by omega))) | refine WXL.ldS Met.none rfl agg3 ?_ (hv := (cell_map _ _ _ (by omega)))
      refine WXL.fieldAddr (off' := 0) Met.none rfl Try.underlying94 rfl sz23 rfl ?_
      first | refine WXL.ld Met.none rfl agg23 ?_ | refine WXL.ldS Met.none rfl agg23 ?_
      refine WXL.len Met.none rfl Try.underlying23 ?_
      refine WXL.fieldAddr (off' := 1) Met.none rfl Try.underlying94 rfl sz3 rfl ?_
      first | refine WXL.ld Met.none rfl agg3 ?_ | refine WXL.ldS Met.none rfl agg3 ?_
      refine WXL.bin Met.none rfl rfl bvS ?_
      refine WXL.min Met.none rfl rfl ?_
      refine WXL.max Met.none rfl rfl ?_
      refine WXL.assign Met.none rfl ?_
      refine WXL.nil ?_
      refine Fin.then_normal ?_
      refine WX.seq ?_
      have hcat : ∃ z : Int, z = kk := ⟨_, rfl⟩
      have hkk2 : kk = if i < keep.length then max 0 (min (nth keep i) (f.bs.length - f.d)) else 0 := hkk
      first | rw [if_pos hik2] at hkk2 | rw [if_neg (by omega)] at hkk2
      refine WX.region rfl ?_
      refine WXL.fieldAddr (off' := 0) Met.none rfl Try.underlying94 rfl sz23 rfl ?_
      first | refine WXL.ld Met.none rfl agg23 ?_ | refine WXL.ldS Met.none rfl agg23 ?_
      refine WXL.fieldAddr (off' := 1) Met.none rfl Try.underlying94 rfl sz3 rfl ?_
      first | refine WXL.ld Met.none rfl agg3 ?_ | refine WXL.ldS Met.none rfl agg3 ?_
      refine WXL.move Met.none rfl ?_
      refine WXL.bin Met.none rfl rfl bvA ?_
      refine WXL.pre (m := cb.length) Met.none rfl rfl elem23 sz5 (Rowy.cons (Rowy.cons (Rowy.cons hrow))) hnil ?_
      refine WXL.cl (O1 := _) Met.none rfl (fnOk_of Try.func46 (by decide +kernel)) rfl (fun _ h => h) (clone_ok _ cb fa cb.length (by omega) (fun q => by
      have := hrow.nil0 q
      have h2 : cb.length = 0 := by omega
      exact List.length_eq_zero_iff.1 h2) (Src.cons (Src.cons (Src.cons (by
      have hpre := hrow.pre (m := cb.length) (by omega)
      rw [Nat.mul_one, ← List.map_take, htk] at hpre
      exact hpre.src hpre.nil0))))) (fun v O' hp => ?_)
      obtain ⟨a51, c51, G51, rfl, hG51, rfl⟩ := hp
      refine WXL.re (O' := (b9, ⟨0, false, [.slice fa f.bs.length fc, I f.d]⟩) :: dkO d bm D mx (G6 ++ ((rowsO ow ++ G51) ++ B))) ?_
      refine WXL.fieldAddr (off' := 0) Met.none rfl Try.underlying94 rfl sz23 rfl ?_
      refine WXL.st (vs := [_]) (c' := [_, _]) (j := 0) Met.none rfl rfl rfl sz23 ?_ (hj := rfl)
      refine WXL.nil ?_
      refine Fin.then_normal ?_
      refine WX.seq ?_
      refine WX.seq ?_
      refine WX.region rfl ?_
      refine WXL.fieldAddr (off' := 1) Met.none rfl Try.underlying94 rfl sz3 rfl ?_
      first | refine WXL.ld Met.none rfl agg3 ?_ | refine WXL.ldS Met.none rfl agg3 ?_
      refine WXL.assign Met.none rfl ?_
      refine WXL.nil ?_
      refine Fin.then_normal ?_
      refine WX.block ?_
      obtain ⟨dn, hdn⟩ : ∃ dn : Nat, f.d = (dn : Int) := ⟨f.d.toNat, by omega⟩
      have hsC : Src ((rowsO ow ++ G51) ++ B) 1 (.slice a51 cb.length c51) cb.length (cb.map B8) := by rw [List.append_assoc]; exact Src.app hG51.src
      rw [hdn]
      refine WX.loop (fun q : Nat × Option Addr × Nat × Objs => [(0, Ptr d 0), (1, .slice ak keep.length ck), (2, I flip), (6, .slice q.2.1 ((looseV ow).length + q.1) q.2.2.1), (8, I n), (9, Ptr b9 0), (11, I ((dn + q.1 : Nat) : Int)), (15, .slice a15 (fnos D0).length c15), (16, I ((fnos D0).length : Nat)), (17, I (i : Nat))]) (fun q => (b9, ⟨0, false, [.slice a51 cb.length c51, I (dn : Int)]⟩) :: dkO d bm D mx (q.2.2.2 ++ ((rowsO ow ++ G51) ++ B))) (fun q => dn + q.1 ≤ cb.length ∧ Grow 1 q.2.1 ((looseV ow).length + q.1) q.2.2.1 (looseV ow ++ looseV1 a51 dn q.1) q.2.2.2) (fun q => cb.length - q.1) (0, a6, c6, G6) ⟨by show dn + 0 ≤ _; omega, by rw [show looseV1 a51 dn 0 = [] from rfl, List.append_nil]; exact hloose⟩ (fun s hs => hs.tl [] 0) (fun q hq => ?_)
      obtain ⟨j, a7, c7, G7⟩ := q
      obtain ⟨hj, hG7⟩ := hq
      simp only at hj hG7
      dsimp only
      refine WX.seq ?_
      refine WX.seq ?_
      refine WX.region rfl ?_
      refine WXL.move Met.none rfl ?_
      refine WXL.fieldAddr (off' := 0) Met.none rfl Try.underlying94 rfl sz23 rfl ?_
      first | refine WXL.ld Met.none rfl agg23 ?_ | refine WXL.ldS Met.none rfl agg23 ?_
      refine WXL.len Met.none rfl Try.underlying23 ?_
      refine WXL.bin Met.none rfl rfl rfl ?_
      refine WXL.nil ?_
      refine Fin.then_normal ?_
      refine WX.cond rfl (fun hc2 => ?_) (fun hc2 => ?_)
      · try simp only [cnd] at hc2
        refine WX.skip ?_
        refine Fin.then_normal ?_
        refine WX.seq ?_
        refine WX.block ?_
        obtain ⟨b51, rfl, hG51e, hcl51⟩ : ∃ b51, a51 = some ⟨b51, 0, none⟩ ∧ G51 = [(b51, ⟨1, false, cb.map B8⟩)] ∧ (cb.map B8).length = cb.length * 1 := by
          rcases hG51 with ⟨_, h0, _⟩ | h
          · omega
          · exact h
        refine WX.region rfl ?_
        refine WXL.move Met.none rfl ?_
        refine WXL.fieldAddr (off' := 0) Met.none rfl Try.underlying94 rfl sz23 rfl ?_
        first | refine WXL.ld Met.none rfl agg23 ?_ | refine WXL.ldS Met.none rfl agg23 ?_
        refine WXL.move Met.none rfl ?_
        first | refine WXL.ix Met.none rfl rfl elem23 sz5 ?_ | refine WXL.ixS Met.none rfl rfl elem23 sz5 ?_
        refine WXL.buildSlice (c := [_]) Met.none rfl elem97 sz99 zero99 (by decide) (by decide) rfl rfl rfl rfl (fun b67 => ?_)
        refine WXL.apG [_, _, _, _] Met.none rfl rfl isrow97 elem97 sz99 by99 zero99 (Src.lit (cs := [_])) (fun a68 c68 G68 hG68 => ?_)
        refine WXL.assign Met.none rfl ?_
        refine WXL.nil ?_
        refine Fin.block_normal ?_
        refine Fin.then_normal ?_
        refine WX.region rfl ?_
        refine WXL.move Met.none rfl ?_
        refine WXL.bin Met.none rfl rfl bvA ?_
        refine WXL.assign Met.none rfl ?_
        refine WXL.nil ?_
        refine Fin.loop_next (j + 1, a68, c68, G68) ⟨by simp only; omega, ?_⟩ (by simp only; omega) (fun s hs => hs.tl [] 1)
        simp only
        rw [looseV1_succ, ← List.append_assoc, show ePtr (some ⟨b51, 0, none⟩) (dn + j) = Ptr b51 (dn + j) from by unfold ePtr; simp]
        exact hG68
      · try simp only [cnd] at hc2
        refine WX.exit ?_
        refine Fin.then_exit ?_
        refine Fin.loop_exit ?_
        refine Fin.block_hit rfl ?_
        refine Fin.then_normal ?_
        have hjl : j = cb.length - dn := by omega
        obtain ⟨o, ho⟩ : ∃ o : OwnF, o = ⟨n, cutF keep i f, a51, c51, G51⟩ := ⟨_, rfl⟩
        have hof : o.f.bs = cb ∧ o.f.d = f.d := by rw [ho]; exact ⟨hcb.symm, rfl⟩
        have hoG : Grow 1 o.a o.f.bs.length o.c (o.f.bs.map B8) o.G := by rw [hof.1, ho]; exact hG51
        have hlo : looseN o.f = j := by
          unfold looseN
          rw [hof.1, hof.2, hdn, Int.toNat_natCast, hjl]
        have hlv : looseV (ow ++ [o]) = looseV ow ++ looseV1 a51 dn j := by
          rw [looseV_app]
          show looseV ow ++ (looseV1 o.a o.f.d.toNat (looseN o.f) ++ []) = _
          rw [List.append_nil, hlo, hof.2, hdn, Int.toNat_natCast, ho]
        have hro : rowsO (ow ++ [o]) = rowsO ow ++ G51 := by
          rw [rowsO_app]
          show rowsO ow ++ (o.G ++ []) = _
          rw [List.append_nil, ho]
        have hlvl : (looseV ow).length + j = (looseV (ow ++ [o])).length := by rw [hlv, List.length_append, looseV1_len]
        have hcut : cutAt D0 keep i = (n, o.f) := by
          unfold cutAt
          rw [← hn, ← hfn, ho]
        have hfile : FileOk (rowsO (ow ++ [o]) ++ R0) (fileV a51 cb.length c51 f.d) o.f := ⟨a51, c51, by rw [hof.1, hof.2], by
          rw [hro, List.append_assoc, hof.1]
          exact Rowy.app hG51.rowy, fun q => (hG51.nil0 q).1, by
          rw [hof.1, ← htk]
          exact take_bytes hfB⟩
        have hcbl : o.f.bs.length = cb.length := by rw [hof.1]
        have hnk : (mx.kv.map (·.1)).Nodup := by rw [← keys_es]; exact hDi.keys
        have hDn : DkI (rowsO (ow ++ [o]) ++ R0) { D with fs := setF D.fs n o.f } (setX mx n (fileV a51 cb.length c51 f.d) cb.length) := by
          have h0 : DkI (rowsO (ow ++ [o]) ++ R0) D mx := ⟨⟨by
            rw [hro, List.append_assoc]
            exact hDi.di.rel.mid, hDi.di.nd⟩, hDi.ok, hDi.room, hDi.left, hDi.used⟩
          have h1 := h0.set n hfile hn64 ⟨by rw [hof.2]; omega, by rw [hof.1, hof.2]; omega⟩ (by
            have := hDi.used
            rw [hcbl, ← hf]
            omega)
          rw [hcbl] at h1
          exact h1
        refine WX.region rfl ?_
        refine WXL.move Met.none rfl ?_
        refine WXL.move Met.none rfl ?_
        refine WXL.ldN (vs := [_, _]) Met.none rfl agg94 sz94 ?_
        refine WXL.cl (O1 := dkO d bm D mx ((b9, ⟨0, false, [.slice a51 cb.length c51, I (dn : Int)]⟩) :: (G7 ++ ((rowsO ow ++ G51) ++ B)))) Met.none rfl (fnOk_of Try.func58 (by decide +kernel)) rfl sub_ (set_ok _ d bm D mx n a51 cb.length c51 (dn : Int)) (fun v O' hp => ?_)
        obtain rfl := hp
        refine WXL.nil ?_
        refine Fin.block_normal ?_
        refine Fin.then_normal ?_
        refine WX.region rfl ?_
        refine WXL.bin Met.none rfl rfl bvA ?_
        refine WXL.move Met.none rfl ?_
        refine WXL.nil ?_
        rw [← hdn]
        refine Fin.loop_next (⟨i + 1, ow ++ [o], { D with fs := setF D.fs n o.f }, setX mx n (fileV a51 cb.length c51 f.d) cb.length, a7, c7, G7⟩ : CrS) ⟨by simp only; omega, ?_, ?_, ?_, ?_, ?_, hDn, hsame, ?_⟩ (by simp only; omega) ?_
        · simp only
          rw [List.map_append, how, cuts_succ, hcut, ho]
          rfl
        · intro o' h'
          rcases List.mem_append.1 h' with q | q
          · exact hgr o' q
          · rw [List.mem_singleton] at q; subst q; exact ⟨hoG, by rw [hof.1, ← htk]; exact take_bytes hfB⟩
        · intro o' h' hne
          simp only
          rw [setX_get hnk]
          rcases List.mem_append.1 h' with q | q
          · rw [if_neg (fun e => hnot (by rw [← how, List.map_map]; exact List.mem_map.2 ⟨o', q, e⟩))]
            exact hval o' q hne
          · rw [List.mem_singleton] at q
            subst q
            rw [if_pos (by rw [ho]), if_neg (fun e => hne (by rw [hof.1]; exact List.length_eq_zero_iff.1 e)), hof.1, hof.2]
            rw [ho]
        · intro m
          simp only
          rw [get_set' hDi.di.nd, cuts_succ, mget_app, hcut]
          by_cases hm : m = n
          · subst hm
            rw [if_pos rfl, mget_none hnot]
            simp only [mget, if_pos, Option.or, Option.getD_some]
            split
            · rename_i hb0
              have h5 : o.f.d = 0 := by
                rw [hof.1] at hb0
                rw [hof.2]
                rw [hb0] at hcl
                simp at hcl
                omega
              cases hof' : o.f with
              | mk b' d' => rw [hof'] at hb0 h5; simp only at hb0 h5; rw [hb0, h5]
            · rfl
          · rw [if_neg hm, hget m]
            simp only [mget, if_neg hm]
            cases mget m (cuts D0 keep i) <;> rfl
        · intro e he
          rcases mem_set he with q | q
          · rw [q]; exact hnin
          · exact hkeys e q
        · simp only
          rw [← hlvl, hlv]
          exact hG7
        · simp only
          rw [hro, ← hlvl]
          exact (fun s hs => hs.tl [0, 1] 3)
    · try simp only [cnd] at hc1
      refine WX.skip ?_
      refine Fin.then_normal ?_
      refine WX.seq ?_
      have hcat : ∃ z : Int, z = kk := ⟨_, rfl⟩
      have hkk2 : kk = if i < keep.length then max 0 (min (nth keep i) (f.bs.length - f.d)) else 0 := hkk
      first | rw [if_pos hik2] at hkk2 | rw [if_neg (by omega)] at hkk2
      refine WX.region rfl ?_
      refine WXL.fieldAddr (off' := 0) Met.none rfl Try.underlying94 rfl sz23 rfl ?_
      first | refine WXL.ld Met.none rfl agg23 ?_ | refine WXL.ldS Met.none rfl agg23 ?_
      refine WXL.fieldAddr (off' := 1) Met.none rfl Try.underlying94 rfl sz3 rfl ?_
      first | refine WXL.ld Met.none rfl agg3 ?_ | refine WXL.ldS Met.none rfl agg3 ?_
      refine WXL.move Met.none rfl ?_
      refine WXL.bin Met.none rfl rfl bvA ?_
      refine WXL.pre (m := cb.length) Met.none rfl rfl elem23 sz5 (Rowy.cons (Rowy.cons (Rowy.cons hrow))) hnil ?_
      refine WXL.cl (O1 := _) Met.none rfl (fnOk_of Try.func46 (by decide +kernel)) rfl (fun _ h => h) (clone_ok _ cb fa cb.length (by omega) (fun q => by
      have := hrow.nil0 q
      have h2 : cb.length = 0 := by omega
      exact List.length_eq_zero_iff.1 h2) (Src.cons (Src.cons (Src.cons (by
      have hpre := hrow.pre (m := cb.length) (by omega)
      rw [Nat.mul_one, ← List.map_take, htk] at hpre
      exact hpre.src hpre.nil0))))) (fun v O' hp => ?_)
      obtain ⟨a51, c51, G51, rfl, hG51, rfl⟩ := hp
      refine WXL.re (O' := (b9, ⟨0, false, [.slice fa f.bs.length fc, I f.d]⟩) :: dkO d bm D mx (G6 ++ ((rowsO ow ++ G51) ++ B))) ?_
      refine WXL.fieldAddr (off' := 0) Met.none rfl Try.underlying94 rfl sz23 rfl ?_
      refine WXL.st (vs := [_]) (c' := [_, _]) (j := 0) Met.none rfl rfl rfl sz23 ?_ (hj := rfl)
      refine WXL.nil ?_
      refine Fin.then_normal ?_
      refine WX.seq ?_
      refine WX.seq ?_
      refine WX.region rfl ?_
      refine WXL.fieldAddr (off' := 1) Met.none rfl Try.underlying94 rfl sz3 rfl ?_
      first | refine WXL.ld Met.none rfl agg3 ?_ | refine WXL.ldS Met.none rfl agg3 ?_
      refine WXL.assign Met.none rfl ?_
      refine WXL.nil ?_
      refine Fin.then_normal ?_
      refine WX.block ?_
      obtain ⟨dn, hdn⟩ : ∃ dn : Nat, f.d = (dn : Int) := ⟨f.d.toNat, by omega⟩
      have hsC : Src ((rowsO ow ++ G51) ++ B) 1 (.slice a51 cb.length c51) cb.length (cb.map B8) := by rw [List.append_assoc]; exact Src.app hG51.src
      rw [hdn]
      refine WX.loop (fun q : Nat × Option Addr × Nat × Objs => [(0, Ptr d 0), (1, .slice ak keep.length ck), (2, I flip), (6, .slice q.2.1 ((looseV ow).length + q.1) q.2.2.1), (8, I n), (9, Ptr b9 0), (11, I ((dn + q.1 : Nat) : Int)), (15, .slice a15 (fnos D0).length c15), (16, I ((fnos D0).length : Nat)), (17, I (i : Nat))]) (fun q => (b9, ⟨0, false, [.slice a51 cb.length c51, I (dn : Int)]⟩) :: dkO d bm D mx (q.2.2.2 ++ ((rowsO ow ++ G51) ++ B))) (fun q => dn + q.1 ≤ cb.length ∧ Grow 1 q.2.1 ((looseV ow).length + q.1) q.2.2.1 (looseV ow ++ looseV1 a51 dn q.1) q.2.2.2) (fun q => cb.length - q.1) (0, a6, c6, G6) ⟨by show dn + 0 ≤ _; omega, by rw [show looseV1 a51 dn 0 = [] from rfl, List.append_nil]; exact hloose⟩ (fun s hs => hs.tl [] 0) (fun q hq => ?_)
      obtain ⟨j, a7, c7, G7⟩ := q
      obtain ⟨hj, hG7⟩ := hq
      simp only at hj hG7
      dsimp only
      refine WX.seq ?_
      refine WX.seq ?_
      refine WX.region rfl ?_
      refine WXL.move Met.none rfl ?_
      refine WXL.fieldAddr (off' := 0) Met.none rfl Try.underlying94 rfl sz23 rfl ?_
      first | refine WXL.ld Met.none rfl agg23 ?_ | refine WXL.ldS Met.none rfl agg23 ?_
      refine WXL.len Met.none rfl Try.underlying23 ?_
      refine WXL.bin Met.none rfl rfl rfl ?_
      refine WXL.nil ?_
      refine Fin.then_normal ?_
      refine WX.cond rfl (fun hc2 => ?_) (fun hc2 => ?_)
      · try simp only [cnd] at hc2
        refine WX.skip ?_
        refine Fin.then_normal ?_
        refine WX.seq ?_
        refine WX.block ?_
        obtain ⟨b51, rfl, hG51e, hcl51⟩ : ∃ b51, a51 = some ⟨b51, 0, none⟩ ∧ G51 = [(b51, ⟨1, false, cb.map B8⟩)] ∧ (cb.map B8).length = cb.length * 1 := by
          rcases hG51 with ⟨_, h0, _⟩ | h
          · omega
          · exact h
        refine WX.region rfl ?_
        refine WXL.move Met.none rfl ?_
        refine WXL.fieldAddr (off' := 0) Met.none rfl Try.underlying94 rfl sz23 rfl ?_
        first | refine WXL.ld Met.none rfl agg23 ?_ | refine WXL.ldS Met.none rfl agg23 ?_
        refine WXL.move Met.none rfl ?_
        first | refine WXL.ix Met.none rfl rfl elem23 sz5 ?_ | refine WXL.ixS Met.none rfl rfl elem23 sz5 ?_
        refine WXL.buildSlice (c := [_]) Met.none rfl elem97 sz99 zero99 (by decide) (by decide) rfl rfl rfl rfl (fun b67 => ?_)
        refine WXL.apG [_, _, _, _] Met.none rfl rfl isrow97 elem97 sz99 by99 zero99 (Src.lit (cs := [_])) (fun a68 c68 G68 hG68 => ?_)
        refine WXL.assign Met.none rfl ?_
        refine WXL.nil ?_
        refine Fin.block_normal ?_
        refine Fin.then_normal ?_
        refine WX.region rfl ?_
        refine WXL.move Met.none rfl ?_
        refine WXL.bin Met.none rfl rfl bvA ?_
        refine WXL.assign Met.none rfl ?_
        refine WXL.nil ?_
        refine Fin.loop_next (j + 1, a68, c68, G68) ⟨by simp only; omega, ?_⟩ (by simp only; omega) (fun s hs => hs.tl [] 1)
        simp only
        rw [looseV1_succ, ← List.append_assoc, show ePtr (some ⟨b51, 0, none⟩) (dn + j) = Ptr b51 (dn + j) from by unfold ePtr; simp]
        exact hG68
      · try simp only [cnd] at hc2
        refine WX.exit ?_
        refine Fin.then_exit ?_
        refine Fin.loop_exit ?_
        refine Fin.block_hit rfl ?_
        refine Fin.then_normal ?_
        have hjl : j = cb.length - dn := by omega
        obtain ⟨o, ho⟩ : ∃ o : OwnF, o = ⟨n, cutF keep i f, a51, c51, G51⟩ := ⟨_, rfl⟩
        have hof : o.f.bs = cb ∧ o.f.d = f.d := by rw [ho]; exact ⟨hcb.symm, rfl⟩
        have hoG : Grow 1 o.a o.f.bs.length o.c (o.f.bs.map B8) o.G := by rw [hof.1, ho]; exact hG51
        have hlo : looseN o.f = j := by
          unfold looseN
          rw [hof.1, hof.2, hdn, Int.toNat_natCast, hjl]
        have hlv : looseV (ow ++ [o]) = looseV ow ++ looseV1 a51 dn j := by
          rw [looseV_app]
          show looseV ow ++ (looseV1 o.a o.f.d.toNat (looseN o.f) ++ []) = _
          rw [List.append_nil, hlo, hof.2, hdn, Int.toNat_natCast, ho]
        have hro : rowsO (ow ++ [o]) = rowsO ow ++ G51 := by
          rw [rowsO_app]
          show rowsO ow ++ (o.G ++ []) = _
          rw [List.append_nil, ho]
        have hlvl : (looseV ow).length + j = (looseV (ow ++ [o])).length := by rw [hlv, List.length_append, looseV1_len]
        have hcut : cutAt D0 keep i = (n, o.f) := by
          unfold cutAt
          rw [← hn, ← hfn, ho]
        have hfile : FileOk (rowsO (ow ++ [o]) ++ R0) (fileV a51 cb.length c51 f.d) o.f := ⟨a51, c51, by rw [hof.1, hof.2], by
          rw [hro, List.append_assoc, hof.1]
          exact Rowy.app hG51.rowy, fun q => (hG51.nil0 q).1, by
          rw [hof.1, ← htk]
          exact take_bytes hfB⟩
        have hcbl : o.f.bs.length = cb.length := by rw [hof.1]
        have hnk : (mx.kv.map (·.1)).Nodup := by rw [← keys_es]; exact hDi.keys
        have hDn : DkI (rowsO (ow ++ [o]) ++ R0) { D with fs := setF D.fs n o.f } (setX mx n (fileV a51 cb.length c51 f.d) cb.length) := by
          have h0 : DkI (rowsO (ow ++ [o]) ++ R0) D mx := ⟨⟨by
            rw [hro, List.append_assoc]
            exact hDi.di.rel.mid, hDi.di.nd⟩, hDi.ok, hDi.room, hDi.left, hDi.used⟩
          have h1 := h0.set n hfile hn64 ⟨by rw [hof.2]; omega, by rw [hof.1, hof.2]; omega⟩ (by
            have := hDi.used
            rw [hcbl, ← hf]
            omega)
          rw [hcbl] at h1
          exact h1
        refine WX.region rfl ?_
        refine WXL.move Met.none rfl ?_
        refine WXL.move Met.none rfl ?_
        refine WXL.ldN (vs := [_, _]) Met.none rfl agg94 sz94 ?_
        refine WXL.cl (O1 := dkO d bm D mx ((b9, ⟨0, false, [.slice a51 cb.length c51, I (dn : Int)]⟩) :: (G7 ++ ((rowsO ow ++ G51) ++ B)))) Met.none rfl (fnOk_of Try.func58 (by decide +kernel)) rfl sub_ (set_ok _ d bm D mx n a51 cb.length c51 (dn : Int)) (fun v O' hp => ?_)
        obtain rfl := hp
        refine WXL.nil ?_
        refine Fin.block_normal ?_
        refine Fin.then_normal ?_
        refine WX.region rfl ?_
        refine WXL.bin Met.none rfl rfl bvA ?_
        refine WXL.move Met.none rfl ?_
        refine WXL.nil ?_
        rw [← hdn]
        refine Fin.loop_next (⟨i + 1, ow ++ [o], { D with fs := setF D.fs n o.f }, setX mx n (fileV a51 cb.length c51 f.d) cb.length, a7, c7, G7⟩ : CrS) ⟨by simp only; omega, ?_, ?_, ?_, ?_, ?_, hDn, hsame, ?_⟩ (by simp only; omega) ?_
        · simp only
          rw [List.map_append, how, cuts_succ, hcut, ho]
          rfl
        · intro o' h'
          rcases List.mem_append.1 h' with q | q
          · exact hgr o' q
          · rw [List.mem_singleton] at q; subst q; exact ⟨hoG, by rw [hof.1, ← htk]; exact take_bytes hfB⟩
        · intro o' h' hne
          simp only
          rw [setX_get hnk]
          rcases List.mem_append.1 h' with q | q
          · rw [if_neg (fun e => hnot (by rw [← how, List.map_map]; exact List.mem_map.2 ⟨o', q, e⟩))]
            exact hval o' q hne
          · rw [List.mem_singleton] at q
            subst q
            rw [if_pos (by rw [ho]), if_neg (fun e => hne (by rw [hof.1]; exact List.length_eq_zero_iff.1 e)), hof.1, hof.2]
            rw [ho]
        · intro m
          simp only
          rw [get_set' hDi.di.nd, cuts_succ, mget_app, hcut]
          by_cases hm : m = n
          · subst hm
            rw [if_pos rfl, mget_none hnot]
            simp only [mget, if_pos, Option.or, Option.getD_some]
            split
            · rename_i hb0
              have h5 : o.f.d = 0 := by
                rw [hof.1] at hb0
                rw [hof.2]
                rw [hb0] at hcl
                simp at hcl
                omega
              cases hof' : o.f with
              | mk b' d' => rw [hof'] at hb0 h5; simp only at hb0 h5; rw [hb0, h5]
            · rfl
          · rw [if_neg hm, hget m]
            simp only [mget, if_neg hm]
            cases mget m (cuts D0 keep i) <;> rfl
        · intro e he
          rcases mem_set he with q | q
          · rw [q]; exact hnin
          · exact hkeys e q
        · simp only
          rw [← hlvl, hlv]
          exact hG7
        · simp only
          rw [hro, ← hlvl]
          exact (fun s hs => hs.tl [0, 1] 3)
  · try simp only [cnd] at hc0
    refine WX.exit ?_
    refine Fin.then_exit ?_
    refine Fin.loop_exit ?_
    refine Fin.block_hit rfl ?_
    refine Fin.then_normal ?_
    refine WX.seq ?_
    refine WX.seq ?_
    have hie : i = (fnos D0).length := by omega
    have hC : CrI D0 keep R0 ⟨i, ow, D, mx, a6, c6, G6⟩ := ⟨hin, how, hgr, hval, hget, hkeys, hDi, hsame, hloose⟩
    have hcg := crash_get hC hie
    have hls : (looseV ow).length = looseSum (cuts D0 keep (fnos D0).length) := by rw [looseV_len, how, hie]
    have hlb : (looseV ow).length ≤ 1000000000000 := by omega
    refine WX.region rfl ?_
    refine WXL.move Met.none rfl ?_
    refine WXL.len Met.none rfl Try.underlying97 ?_
    refine WXL.bin Met.none rfl rfl bvM ?_
    refine WXL.assign Met.none rfl ?_
    refine WXL.nil ?_
    refine Fin.then_normal ?_
    refine WX.seq ?_
    refine WX.region rfl ?_
    refine WXL.move Met.none rfl ?_
    refine WXL.bin Met.none rfl rfl rfl ?_
    refine WXL.move Met.none rfl ?_
    refine WXL.split (d := 79) rfl (fun hg79 => ?_) (fun hg79 => ?_)
    · try simp only [cnd] at hg79
      refine WXL.move (Met.some rfl rfl rfl) rfl ?_
      refine WXL.bin (Met.some rfl rfl rfl) rfl rfl rfl ?_
      refine WXL.pick_t Met.none rfl rfl ?_
      refine WXL.nil ?_
      refine Fin.then_normal ?_
      refine WX.cond rfl (fun hc3 => ?_) (fun hc3 => ?_)
      · try simp only [cnd] at hc3
        refine WX.seq ?_
        obtain ⟨fl, hfle⟩ : ∃ fl : Nat, flip = (fl : Int) := ⟨flip.toNat, by omega⟩
        obtain ⟨q, hq⟩ : ∃ q, q = fl % (8 * (looseV ow).length) := ⟨_, rfl⟩
        have hqm : flip.tmod (8 * ((looseV ow).length : Int)) = (q : Int) := by
          rw [hfle, Int.tmod_eq_emod_of_nonneg (by omega), hq, Int.natCast_emod, Int.natCast_mul]
          rfl
        have hqlt : q < 8 * (looseV ow).length := by rw [hq]; exact Nat.mod_lt _ (by omega)
        have hq8 : (q : Int).tdiv 8 = ((q / 8 : Nat) : Int) := by rw [Int.tdiv_eq_ediv_of_nonneg (by omega)]; omega
        have hq8m : (q : Int).tmod 8 = ((q % 8 : Nat) : Int) := by rw [Int.tmod_eq_emod_of_nonneg (by omega)]; omega
        obtain ⟨ow1, o, ow2, r, how2, hr, hpv, hfc⟩ := flip_split (7 - q % 8) ow (q / 8) (by rw [← looseV_len]; omega)
        have hom : o ∈ ow := by rw [how2]; simp
        obtain ⟨hoG, hoB⟩ := hgr o hom
        have hrl : o.f.d.toNat + r < o.f.bs.length := by unfold looseN at hr; omega
        have hone : o.f.bs ≠ [] := fun e => by rw [e] at hrl; simp at hrl
        obtain ⟨b, hoa, hoGe⟩ : ∃ b, o.a = some ⟨b, 0, none⟩ ∧ o.G = [(b, ⟨1, false, o.f.bs.map B8⟩)] := by
          rcases hoG with ⟨_, h0, _⟩ | ⟨b, h1, h2, _⟩
          · omega
          · exact ⟨b, h1, h2⟩
        obtain ⟨z, hz⟩ : ∃ z, z = o.f.d.toNat + r := ⟨_, rfl⟩
        rw [← hz] at hrl hpv hfc
        rw [hoa, show ePtr (some ⟨b, 0, none⟩) z = Ptr b z from by unfold ePtr; simp] at hpv
        have hrs : rowsO ow = rowsO ow1 ++ ([(b, ⟨1, false, o.f.bs.map B8⟩)] ++ rowsO ow2) := by rw [how2, rowsO_app, rowsO_cons, hoGe]
        rw [hrs]
        refine WX.re (O' := (b, ⟨1, false, o.f.bs.map B8⟩) :: dkO d bm D mx (G6 ++ ((rowsO ow1 ++ rowsO ow2) ++ B))) ?_
        refine WX.region rfl ?_
        refine WXL.move Met.none rfl ?_
        refine WXL.move Met.none rfl ?_
        refine WXL.rem Met.none rfl rfl (by omega) ?_
        rw [hqm]
        refine WXL.assign Met.none rfl ?_
        refine WXL.nil ?_
        refine Fin.then_normal ?_
        refine WX.draw rfl ?_
        refine WXL.move Met.none rfl ?_
        refine WXL.move Met.none rfl ?_
        refine WXL.qu Met.none rfl rfl ?_ (hr := (show IntKind.wrap .i64 ((q : Int).tdiv 8) = ((q / 8 : Nat) : Int) from by rw [hq8]; exact wrap_i64 (by omega) (by omega)))
        first | refine WXL.ix Met.none rfl rfl elem97 sz99 ?_ | refine WXL.ixS Met.none rfl rfl elem97 sz99 ?_
        first | refine WXL.ld Met.none rfl agg99 ?_ (hv := hpv) | refine WXL.ldS Met.none rfl agg99 ?_ (hv := hpv)
        refine WXL.nilCheck Met.none rfl ?_
        first | refine WXL.ld Met.none rfl agg5 ?_ | refine WXL.ldS Met.none rfl agg5 ?_
        refine WXL.move Met.none rfl ?_
        refine WXL.rem Met.none rfl rfl (by omega) ?_
        rw [hq8m]
        refine WXL.bin Met.none rfl rfl bvS ?_
        refine WXL.shl Met.none rfl rfl (by omega) ?_
        rw [show ((7 : Int) - ((q % 8 : Nat) : Int)).toNat = 7 - q % 8 from by omega]
        refine WXL.bin Met.none rfl rfl (show _ = some (B8 (flipB (nth o.f.bs z) (7 - q % 8))) from rfl) ?_
        refine WXL.nilCheck Met.none rfl ?_
        refine WXL.st (vs := [_]) (j := 0) Met.none rfl rfl rfl sz5 ?_ (hj := rfl)
        refine WXL.nil ?_
        refine Fin.then_normal ?_
        refine WX.seq ?_
        first
        | obtain ⟨f2, hf2⟩ : ∃ f2 : Fi, f2 = ⟨o.f.bs.set z (flipB (nth o.f.bs z) (7 - q % 8)), o.f.d⟩ := ⟨_, rfl⟩
          have hz8 := flipB_range (nth o.f.bs z) (7 - q % 8)
          obtain ⟨hDf, hgf, hgc⟩ := crash_flip hC hie hnd (f2 := f2) how2 hoa hone (by rw [hf2]; exact List.length_set) (by rw [hf2]) (by
            rw [hf2]
            intro y hy
            rcases List.mem_or_eq_of_mem_set hy with p | p
            · exact hoB y p
            · rw [p]; exact hz8)
          have hcc : crashC D0 keep flip = ow1.map OwnF.nf ++ (o.n, f2) :: ow2.map OwnF.nf := by
            unfold crashC
            simp only
            rw [← hls, if_pos (by omega), show flip.toNat = fl by omega, ← hq, hf2, ← hfc, how, hie]
          obtain ⟨Df, hDfe⟩ : ∃ Df : Dk, Df = { D with fs := mput o.n f2 D.fs } := ⟨_, rfl⟩
          obtain ⟨NN, hNN⟩ : ∃ NN, NN = rowsO ow1 ++ ((b, ⟨1, false, f2.bs.map B8⟩) :: rowsO ow2) := ⟨_, rfl⟩
          have hDk : DkI (NN ++ R0) Df mx := by rw [hNN, hDfe]; exact hDf
          have hgg : ∀ m, getF Df.fs m = (mget m (crashC D0 keep flip)).getD ⟨[], 0⟩ := fun m => by rw [hDfe, hcc]; exact (hgf m).trans (hgc m).symm
          have hrm : Df.room = D0.room := by rw [hDfe]; exact hsame.1
          refine WX.re (O' := dkO d bm Df mx (NN ++ R)) ?_ (by rw [hDfe, hNN, hB, hf2]; exact sub_)
        | obtain ⟨Df, hDfe⟩ : ∃ Df : Dk, Df = D := ⟨_, rfl⟩
          obtain ⟨NN, hNN⟩ : ∃ NN, NN = rowsO ow := ⟨_, rfl⟩
          have hDk : DkI (NN ++ R0) Df mx := by rw [hNN, hDfe]; exact hDi
          have hgg : ∀ m, getF Df.fs m = (mget m (crashC D0 keep flip)).getD ⟨[], 0⟩ := fun m => by
            have hcc : crashC D0 keep flip = cuts D0 keep (fnos D0).length := by
              unfold crashC
              simp only
              rw [← hls, if_neg (by omega)]
            rw [hcc, hDfe]
            exact hcg m
          have hrm : Df.room = D0.room := by rw [hDfe]; exact hsame.1
          refine WX.re (O' := dkO d bm Df mx (NN ++ R)) ?_ (by rw [hDfe, hNN, hB]; exact sub_)
        refine WX.region rfl ?_
        refine WXL.move Met.none rfl ?_
        refine WXL.cl (O1 := _) Met.none rfl (fnOk_of Try.func61 (by decide +kernel)) rfl (fun _ h => h) (harden_ok _ d bm Df mx hDk) (fun v O' hp => ?_)
        obtain ⟨rfl, hO⟩ := hp
        subst O'
        refine WXL.nil ?_
        refine Fin.then_normal ?_
        refine WX.region rfl ?_
        refine WXL.move Met.none rfl ?_
        refine WXL.move Met.none rfl ?_
        refine WXL.nilCheck Met.none rfl ?_
        first | refine WXL.fieldAddr Met.none rfl Try.underlying92 rfl sz4 rfl ?_ | refine WXL.faS Met.none rfl Try.underlying92 rfl sz4 ?_
        refine WXL.st (vs := [_]) (j := 0) Met.none rfl rfl rfl sz4 ?_ (hj := rfl)
        refine WXL.nilCheck Met.none rfl ?_
        first | refine WXL.fieldAddr Met.none rfl Try.underlying92 rfl sz4 rfl ?_ | refine WXL.faS Met.none rfl Try.underlying92 rfl sz4 ?_
        refine WXL.st (vs := [_]) (j := 0) Met.none rfl rfl rfl sz4 ?_ (hj := rfl)
        refine WXL.nil ?_
        exact Fin.result (O' := dkO d bm ⟨Df.room, false, false, Df.left, hardAll Df.fs⟩ mx.hard (NN ++ R)) (.inl rfl) rfl rfl drop_ ⟨mx.hard, NN, ⟨Df.room, false, false, Df.left, hardAll Df.fs⟩, rfl, ⟨hDk.hard.di, hDk.hard.ok, hDk.hard.room, (fun e => by cases e), hDk.hard.used⟩, hrm, rfl, rfl, fun m => by
          rw [get_hardE, hgg]⟩
      · try simp only [cnd] at hc3
        refine WX.skip ?_
        refine Fin.then_normal ?_
        refine WX.seq ?_
        first
        | obtain ⟨f2, hf2⟩ : ∃ f2 : Fi, f2 = ⟨o.f.bs.set z (flipB (nth o.f.bs z) (7 - q % 8)), o.f.d⟩ := ⟨_, rfl⟩
          have hz8 := flipB_range (nth o.f.bs z) (7 - q % 8)
          obtain ⟨hDf, hgf, hgc⟩ := crash_flip hC hie hnd (f2 := f2) how2 hoa hone (by rw [hf2]; exact List.length_set) (by rw [hf2]) (by
            rw [hf2]
            intro y hy
            rcases List.mem_or_eq_of_mem_set hy with p | p
            · exact hoB y p
            · rw [p]; exact hz8)
          have hcc : crashC D0 keep flip = ow1.map OwnF.nf ++ (o.n, f2) :: ow2.map OwnF.nf := by
            unfold crashC
            simp only
            rw [← hls, if_pos (by omega), show flip.toNat = fl by omega, ← hq, hf2, ← hfc, how, hie]
          obtain ⟨Df, hDfe⟩ : ∃ Df : Dk, Df = { D with fs := mput o.n f2 D.fs } := ⟨_, rfl⟩
          obtain ⟨NN, hNN⟩ : ∃ NN, NN = rowsO ow1 ++ ((b, ⟨1, false, f2.bs.map B8⟩) :: rowsO ow2) := ⟨_, rfl⟩
          have hDk : DkI (NN ++ R0) Df mx := by rw [hNN, hDfe]; exact hDf
          have hgg : ∀ m, getF Df.fs m = (mget m (crashC D0 keep flip)).getD ⟨[], 0⟩ := fun m => by rw [hDfe, hcc]; exact (hgf m).trans (hgc m).symm
          have hrm : Df.room = D0.room := by rw [hDfe]; exact hsame.1
          refine WX.re (O' := dkO d bm Df mx (NN ++ R)) ?_ (by rw [hDfe, hNN, hB, hf2]; exact sub_)
        | obtain ⟨Df, hDfe⟩ : ∃ Df : Dk, Df = D := ⟨_, rfl⟩
          obtain ⟨NN, hNN⟩ : ∃ NN, NN = rowsO ow := ⟨_, rfl⟩
          have hDk : DkI (NN ++ R0) Df mx := by rw [hNN, hDfe]; exact hDi
          have hgg : ∀ m, getF Df.fs m = (mget m (crashC D0 keep flip)).getD ⟨[], 0⟩ := fun m => by
            have hcc : crashC D0 keep flip = cuts D0 keep (fnos D0).length := by
              unfold crashC
              simp only
              rw [← hls, if_neg (by omega)]
            rw [hcc, hDfe]
            exact hcg m
          have hrm : Df.room = D0.room := by rw [hDfe]; exact hsame.1
          refine WX.re (O' := dkO d bm Df mx (NN ++ R)) ?_ (by rw [hDfe, hNN, hB]; exact sub_)
        refine WX.region rfl ?_
        refine WXL.move Met.none rfl ?_
        refine WXL.cl (O1 := _) Met.none rfl (fnOk_of Try.func61 (by decide +kernel)) rfl (fun _ h => h) (harden_ok _ d bm Df mx hDk) (fun v O' hp => ?_)
        obtain ⟨rfl, hO⟩ := hp
        subst O'
        refine WXL.nil ?_
        refine Fin.then_normal ?_
        refine WX.region rfl ?_
        refine WXL.move Met.none rfl ?_
        refine WXL.move Met.none rfl ?_
        refine WXL.nilCheck Met.none rfl ?_
        first | refine WXL.fieldAddr Met.none rfl Try.underlying92 rfl sz4 rfl ?_ | refine WXL.faS Met.none rfl Try.underlying92 rfl sz4 ?_
        refine WXL.st (vs := [_]) (j := 0) Met.none rfl rfl rfl sz4 ?_ (hj := rfl)
        refine WXL.nilCheck Met.none rfl ?_
        first | refine WXL.fieldAddr Met.none rfl Try.underlying92 rfl sz4 rfl ?_ | refine WXL.faS Met.none rfl Try.underlying92 rfl sz4 ?_
        refine WXL.st (vs := [_]) (j := 0) Met.none rfl rfl rfl sz4 ?_ (hj := rfl)
        refine WXL.nil ?_
        exact Fin.result (O' := dkO d bm ⟨Df.room, false, false, Df.left, hardAll Df.fs⟩ mx.hard (NN ++ R)) (.inl rfl) rfl rfl drop_ ⟨mx.hard, NN, ⟨Df.room, false, false, Df.left, hardAll Df.fs⟩, rfl, ⟨hDk.hard.di, hDk.hard.ok, hDk.hard.room, (fun e => by cases e), hDk.hard.used⟩, hrm, rfl, rfl, fun m => by
          rw [get_hardE, hgg]⟩
    · try simp only [cnd] at hg79
      refine WXL.miss (j := 2) (d := 79) rfl rfl rfl ?_
      refine WXL.miss (j := 2) (d := 79) rfl rfl rfl ?_
      refine WXL.pick_f Met.none rfl rfl ?_
      refine WXL.nil ?_
      refine Fin.then_normal ?_
      refine WX.cond rfl (fun hc3 => nomatch hc3) (fun hc3 => ?_)
      refine WX.skip ?_
      refine Fin.then_normal ?_
      refine WX.seq ?_
      first
      | obtain ⟨f2, hf2⟩ : ∃ f2 : Fi, f2 = ⟨o.f.bs.set z (flipB (nth o.f.bs z) (7 - q % 8)), o.f.d⟩ := ⟨_, rfl⟩
        have hz8 := flipB_range (nth o.f.bs z) (7 - q % 8)
        obtain ⟨hDf, hgf, hgc⟩ := crash_flip hC hie hnd (f2 := f2) how2 hoa hone (by rw [hf2]; exact List.length_set) (by rw [hf2]) (by
          rw [hf2]
          intro y hy
          rcases List.mem_or_eq_of_mem_set hy with p | p
          · exact hoB y p
          · rw [p]; exact hz8)
        have hcc : crashC D0 keep flip = ow1.map OwnF.nf ++ (o.n, f2) :: ow2.map OwnF.nf := by
          unfold crashC
          simp only
          rw [← hls, if_pos (by omega), show flip.toNat = fl by omega, ← hq, hf2, ← hfc, how, hie]
        obtain ⟨Df, hDfe⟩ : ∃ Df : Dk, Df = { D with fs := mput o.n f2 D.fs } := ⟨_, rfl⟩
        obtain ⟨NN, hNN⟩ : ∃ NN, NN = rowsO ow1 ++ ((b, ⟨1, false, f2.bs.map B8⟩) :: rowsO ow2) := ⟨_, rfl⟩
        have hDk : DkI (NN ++ R0) Df mx := by rw [hNN, hDfe]; exact hDf
        have hgg : ∀ m, getF Df.fs m = (mget m (crashC D0 keep flip)).getD ⟨[], 0⟩ := fun m => by rw [hDfe, hcc]; exact (hgf m).trans (hgc m).symm
        have hrm : Df.room = D0.room := by rw [hDfe]; exact hsame.1
        refine WX.re (O' := dkO d bm Df mx (NN ++ R)) ?_ (by rw [hDfe, hNN, hB, hf2]; exact sub_)
      | obtain ⟨Df, hDfe⟩ : ∃ Df : Dk, Df = D := ⟨_, rfl⟩
        obtain ⟨NN, hNN⟩ : ∃ NN, NN = rowsO ow := ⟨_, rfl⟩
        have hDk : DkI (NN ++ R0) Df mx := by rw [hNN, hDfe]; exact hDi
        have hgg : ∀ m, getF Df.fs m = (mget m (crashC D0 keep flip)).getD ⟨[], 0⟩ := fun m => by
          have hcc : crashC D0 keep flip = cuts D0 keep (fnos D0).length := by
            unfold crashC
            simp only
            rw [← hls, if_neg (by omega)]
          rw [hcc, hDfe]
          exact hcg m
        have hrm : Df.room = D0.room := by rw [hDfe]; exact hsame.1
        refine WX.re (O' := dkO d bm Df mx (NN ++ R)) ?_ (by rw [hDfe, hNN, hB]; exact sub_)
      refine WX.region rfl ?_
      refine WXL.move Met.none rfl ?_
      refine WXL.cl (O1 := _) Met.none rfl (fnOk_of Try.func61 (by decide +kernel)) rfl (fun _ h => h) (harden_ok _ d bm Df mx hDk) (fun v O' hp => ?_)
      obtain ⟨rfl, hO⟩ := hp
      subst O'
      refine WXL.nil ?_
      refine Fin.then_normal ?_
      refine WX.region rfl ?_
      refine WXL.move Met.none rfl ?_
      refine WXL.move Met.none rfl ?_
      refine WXL.nilCheck Met.none rfl ?_
      first | refine WXL.fieldAddr Met.none rfl Try.underlying92 rfl sz4 rfl ?_ | refine WXL.faS Met.none rfl Try.underlying92 rfl sz4 ?_
      refine WXL.st (vs := [_]) (j := 0) Met.none rfl rfl rfl sz4 ?_ (hj := rfl)
      refine WXL.nilCheck Met.none rfl ?_
      first | refine WXL.fieldAddr Met.none rfl Try.underlying92 rfl sz4 rfl ?_ | refine WXL.faS Met.none rfl Try.underlying92 rfl sz4 ?_
      refine WXL.st (vs := [_]) (j := 0) Met.none rfl rfl rfl sz4 ?_ (hj := rfl)
      refine WXL.nil ?_
      exact Fin.result (O' := dkO d bm ⟨Df.room, false, false, Df.left, hardAll Df.fs⟩ mx.hard (NN ++ R)) (.inl rfl) rfl rfl drop_ ⟨mx.hard, NN, ⟨Df.room, false, false, Df.left, hardAll Df.fs⟩, rfl, ⟨hDk.hard.di, hDk.hard.ok, hDk.hard.room, (fun e => by cases e), hDk.hard.used⟩, hrm, rfl, rfl, fun m => by
        rw [get_hardE, hgg]⟩

end Go.Proofs.Ythekokdpplobhaa.Eng

set_option linter.unusedVariables false
set_option linter.unusedSimpArgs false
namespace Go.Proofs.Ythekokdpplobhaa.Eng

theorem diskAppend_ok (R : Objs) {R0 : Objs} (d bm : Nat) (D : Dk) (mx : MapX) (n : Int) (b : List Int) (ab : Option Addr) (cb : Nat) (hD : DkI R0 D mx) (hi : ∀ g, Sat g R → Sat g R0) (hb : Src R 1 (.slice ab b.length cb) b.length (b.map B8)) (hBb : Bytes b) :
    Spec Try.prog false 35 #[Ptr d 0, I n, .slice ab b.length cb] (dkO d bm D mx R) fun v O' => ∃ mx' N, v = I (appendD D n b).1 ∧ O' = dkO d bm (appendD D n b).2 mx' (N ++ R) ∧ DkI (N ++ R0) (appendD D n b).2 mx' := by
  obtain ⟨fa, fc, hfv, hrow0, hnil, hB⟩ := hD.di.get n
  have hrow := hrow0.inc hi
  have hlen := hD.get_len n
  have hu := hD.used
  have hr := hD.room
  have hn := used_nn D.fs
  refine Spec.enter (args := [_, _, _]) (m := 47) Try.func35 rfl rfl (by decide +kernel) fun h0 => ?_
  refine WX.seq ?_
  refine WX.region rfl ?_
  refine WXL.assign Met.none rfl ?_
  refine WXL.nil ?_
  refine Fin.then_normal ?_
  refine WX.seq ?_
  refine WX.block ?_
  refine WX.seq ?_
  refine WX.region rfl ?_
  refine WXL.move Met.none rfl ?_
  refine WXL.cl (O1 := _) Met.none rfl (fnOk_of Try.func57 (by decide +kernel)) rfl (fun _ h => h) (exists_ok _ n) (fun v O' hp => ?_)
  obtain ⟨rfl, hO⟩ := hp
  subst O'
  refine WXL.not Met.none rfl ?_
  refine WXL.assign Met.none rfl ?_
  refine WXL.nil ?_
  refine Fin.then_normal ?_
  refine WX.cond rfl (fun hc0 => ?_) (fun hc0 => ?_)
  · try simp only [cnd] at hc0
    refine WX.seq ?_
    refine WX.region rfl ?_
    refine WXL.assign Met.none rfl ?_
    refine WXL.nil ?_
    refine Fin.then_normal ?_
    refine WX.ret ?_
    refine Fin.block_ret ?_
    refine Fin.then_ret ?_
    first
    | exact Fin.result (O' := dkO d bm D mx ([] ++ R)) (.inr rfl) rfl rfl drop_ (by unfold appendD; rw [if_pos (by omega)]; exact ⟨mx, [], rfl, rfl, hD⟩)
    | exact Fin.result (O' := dkO d bm D mx ([] ++ R)) (.inr rfl) rfl rfl drop_ (by unfold appendD; rw [if_neg (by omega), if_pos (by assumption)]; exact ⟨mx, [], rfl, rfl, hD⟩)
    | exact Fin.result (O' := dkO d bm D mx ([] ++ R)) (.inr rfl) rfl rfl drop_ (by unfold appendD; rw [if_neg (by omega), if_neg (by simp [hc1]), if_pos (by omega)]; exact ⟨mx, [], rfl, rfl, hD⟩)
    | exact Fin.result (O' := dkO d bm (stepD (appD1 D n b)).2 _ (G38 ++ R)) (.inr rfl) rfl rfl drop_ (by unfold appendD; rw [if_neg (by omega), if_neg (by simp [hc1]), if_neg (by omega), if_neg (by simpa using hc3)]; exact ⟨_, G38, rfl, rfl, hs.step⟩)
    | exact Fin.result (O' := dkO d bm (stepD (appD1 D n b)).2 _ (G38 ++ R)) (.inr rfl) rfl rfl drop_ (by unfold appendD; rw [if_neg (by omega), if_neg (by simp [hc1]), if_neg (by omega), if_pos (by simpa using hc3)]; exact ⟨_, G38, rfl, rfl, hs.step⟩)
  · try simp only [cnd] at hc0
    refine WX.seq ?_
    refine WX.region rfl ?_
    refine WXL.move Met.none rfl ?_
    refine WXL.nilCheck Met.none rfl ?_
    first | refine WXL.fieldAddr Met.none rfl Try.underlying92 rfl sz4 rfl ?_ | refine WXL.faS Met.none rfl Try.underlying92 rfl sz4 ?_
    first | refine WXL.ld Met.none rfl agg4 ?_ | refine WXL.ldS Met.none rfl agg4 ?_
    refine WXL.assign Met.none rfl ?_
    refine WXL.nil ?_
    refine Fin.then_normal ?_
    refine WX.cond rfl (fun hc1 => ?_) (fun hc1 => ?_)
    · try simp only [cnd] at hc1
      refine WX.seq ?_
      refine WX.region rfl ?_
      refine WXL.assign Met.none rfl ?_
      refine WXL.nil ?_
      refine Fin.then_normal ?_
      refine WX.ret ?_
      refine Fin.block_ret ?_
      refine Fin.then_ret ?_
      first
      | exact Fin.result (O' := dkO d bm D mx ([] ++ R)) (.inr rfl) rfl rfl drop_ (by unfold appendD; rw [if_pos (by omega)]; exact ⟨mx, [], rfl, rfl, hD⟩)
      | exact Fin.result (O' := dkO d bm D mx ([] ++ R)) (.inr rfl) rfl rfl drop_ (by unfold appendD; rw [if_neg (by omega), if_pos (by assumption)]; exact ⟨mx, [], rfl, rfl, hD⟩)
      | exact Fin.result (O' := dkO d bm D mx ([] ++ R)) (.inr rfl) rfl rfl drop_ (by unfold appendD; rw [if_neg (by omega), if_neg (by simp [hc1]), if_pos (by omega)]; exact ⟨mx, [], rfl, rfl, hD⟩)
      | exact Fin.result (O' := dkO d bm (stepD (appD1 D n b)).2 _ (G38 ++ R)) (.inr rfl) rfl rfl drop_ (by unfold appendD; rw [if_neg (by omega), if_neg (by simp [hc1]), if_neg (by omega), if_neg (by simpa using hc3)]; exact ⟨_, G38, rfl, rfl, hs.step⟩)
      | exact Fin.result (O' := dkO d bm (stepD (appD1 D n b)).2 _ (G38 ++ R)) (.inr rfl) rfl rfl drop_ (by unfold appendD; rw [if_neg (by omega), if_neg (by simp [hc1]), if_neg (by omega), if_pos (by simpa using hc3)]; exact ⟨_, G38, rfl, rfl, hs.step⟩)
    · try simp only [cnd] at hc1
      refine WX.seq ?_
      refine WX.draw rfl ?_
      refine WXL.move Met.none rfl ?_
      refine WXL.len Met.none rfl Try.underlying23 ?_
      refine WXL.move Met.none rfl ?_
      refine WXL.nilCheck Met.none rfl ?_
      first | refine WXL.fieldAddr Met.none rfl Try.underlying92 rfl sz3 rfl ?_ | refine WXL.faS Met.none rfl Try.underlying92 rfl sz3 ?_
      first | refine WXL.ld Met.none rfl agg3 ?_ | refine WXL.ldS Met.none rfl agg3 ?_
      refine WXL.move Met.none rfl ?_
      refine WXL.cl (O1 := _) Met.none rfl (fnOk_of Try.func31 (by decide +kernel)) rfl (fun _ h => h) (used_ok _ R d bm D mx hD) (fun v O' hp => ?_)
      obtain ⟨rfl, hO⟩ := hp
      subst O'
      refine WXL.bin Met.none rfl rfl bvS ?_
      refine WXL.bin Met.none rfl rfl rfl ?_
      refine WXL.assign Met.none rfl ?_
      refine WXL.nil ?_
      refine Fin.then_normal ?_
      refine WX.cond rfl (fun hc2 => ?_) (fun hc2 => ?_)
      · try simp only [cnd] at hc2
        refine WX.seq ?_
        refine WX.region rfl ?_
        refine WXL.assign Met.none rfl ?_
        refine WXL.nil ?_
        refine Fin.then_normal ?_
        refine WX.ret ?_
        refine Fin.block_ret ?_
        refine Fin.then_ret ?_
        first
        | exact Fin.result (O' := dkO d bm D mx ([] ++ R)) (.inr rfl) rfl rfl drop_ (by unfold appendD; rw [if_pos (by omega)]; exact ⟨mx, [], rfl, rfl, hD⟩)
        | exact Fin.result (O' := dkO d bm D mx ([] ++ R)) (.inr rfl) rfl rfl drop_ (by unfold appendD; rw [if_neg (by omega), if_pos (by assumption)]; exact ⟨mx, [], rfl, rfl, hD⟩)
        | exact Fin.result (O' := dkO d bm D mx ([] ++ R)) (.inr rfl) rfl rfl drop_ (by unfold appendD; rw [if_neg (by omega), if_neg (by simp [hc1]), if_pos (by omega)]; exact ⟨mx, [], rfl, rfl, hD⟩)
        | exact Fin.result (O' := dkO d bm (stepD (appD1 D n b)).2 _ (G38 ++ R)) (.inr rfl) rfl rfl drop_ (by unfold appendD; rw [if_neg (by omega), if_neg (by simp [hc1]), if_neg (by omega), if_neg (by simpa using hc3)]; exact ⟨_, G38, rfl, rfl, hs.step⟩)
        | exact Fin.result (O' := dkO d bm (stepD (appD1 D n b)).2 _ (G38 ++ R)) (.inr rfl) rfl rfl drop_ (by unfold appendD; rw [if_neg (by omega), if_neg (by simp [hc1]), if_neg (by omega), if_pos (by simpa using hc3)]; exact ⟨_, G38, rfl, rfl, hs.step⟩)
      · try simp only [cnd] at hc2
        refine WX.skip ?_
        refine Fin.block_normal ?_
        refine Fin.then_normal ?_
        refine WX.seq ?_
        refine WX.region rfl ?_
        refine WXL.move Met.none rfl ?_
        refine WXL.nilCheck Met.none rfl ?_
        first | refine WXL.fieldAddr Met.none rfl Try.underlying92 rfl sz90 rfl ?_ | refine WXL.faS Met.none rfl Try.underlying92 rfl sz90 ?_
        first | refine WXL.ld Met.none rfl agg90 ?_ | refine WXL.ldS Met.none rfl agg90 ?_
        refine WXL.move Met.none rfl ?_
        refine WXL.lookup Met.none rfl rfl mapT90 zero94 at_ (show _ = fileV fa (getF D.fs n).bs.length fc (getF D.fs n).d from hfv) ?_
        refine WXL.alloc (c := [_, _]) Met.none zero94 rfl (fun b7 => ?_)
        refine WXL.st (vs := [_, _]) (c' := [_, _]) (j := 0) Met.none rfl rfl rfl sz94 ?_ (hj := rfl)
        refine WXL.nil ?_
        refine Fin.then_normal ?_
        refine WX.seq ?_
        refine WX.region rfl ?_
        refine WXL.fieldAddr (off' := 0) Met.none rfl Try.underlying94 rfl sz23 rfl ?_
        first | refine WXL.ld Met.none rfl agg23 ?_ | refine WXL.ldS Met.none rfl agg23 ?_
        refine WXL.cl (O1 := _) Met.none rfl (fnOk_of Try.func46 (by decide +kernel)) rfl (fun _ h => h) (clone_ok _ (getF D.fs n).bs fa fc (by omega) (fun q => by
        have := hrow.nil0 q
        exact List.length_eq_zero_iff.1 this) (Src.cons (Src.cons (Src.cons (hrow.src hnil))))) (fun v O' hp => ?_)
        obtain ⟨a36, c36, G36, rfl, hG36, rfl⟩ := hp
        refine WXL.move Met.none rfl ?_
        refine WXL.apG ([]) Met.none rfl rfl isrow23 elem23 sz5 by5 zero5 (Src.app (Src.cons (Src.cons (Src.cons hb)))) (fun a38 c38 G38 hG38 => ?_) (hm := (by rw [List.length_map]; omega))
        refine WXL.re (O' := (b7, ⟨0, false, [.slice fa (getF D.fs n).bs.length fc, I (getF D.fs n).d]⟩) :: dkO d bm D mx (G38 ++ R)) ?_
        refine WXL.fieldAddr (off' := 0) Met.none rfl Try.underlying94 rfl sz23 rfl ?_
        refine WXL.st (vs := [_]) (c' := [_, _]) (j := 0) Met.none rfl rfl rfl sz23 ?_ (hj := rfl)
        refine WXL.nil ?_
        refine Fin.then_normal ?_
        refine WX.seq ?_
        refine WX.region rfl ?_
        refine WXL.move Met.none rfl ?_
        refine WXL.move Met.none rfl ?_
        refine WXL.ldN (vs := [_, _]) Met.none rfl agg94 sz94 ?_
        refine WXL.cl (O1 := dkO d bm D mx (G38 ++ R)) Met.none rfl (fnOk_of Try.func58 (by decide +kernel)) rfl sub_ (set_ok (G38 ++ R) d bm D mx n a38 ((getF D.fs n).bs.length + b.length) c38 (getF D.fs n).d) (fun v O' hp => ?_)
        obtain rfl := hp
        refine WXL.nil ?_
        refine Fin.then_normal ?_
        refine WX.seq ?_
        refine WX.seq ?_
        have hf : FileOk (G38 ++ R0) (fileV a38 ((getF D.fs n).bs.length + b.length) c38 (getF D.fs n).d) ⟨(getF D.fs n).bs ++ b, (getF D.fs n).d⟩ := by
          have h1 := hG38.rowy (R := R0)
          rw [← List.map_append] at h1
          exact ⟨a38, c38, by rw [List.length_append], by rw [List.length_append]; exact h1, fun q => (hG38.nil0 q).1, fun x hx => by
            rcases List.mem_append.1 hx with q | q
            · exact hB x q
            · exact hBb x q⟩
        have hs : DkI (G38 ++ R0) (appD1 D n b) (setX mx n (fileV a38 ((getF D.fs n).bs.length + b.length) c38 (getF D.fs n).d) ((getF D.fs n).bs.length + b.length)) := by
          have hgd := hD.get_d n
          have := (hD.app (N := G38)).set n hf (by omega) ⟨hgd.1, by simp only [List.length_append]; omega⟩ (by rw [List.length_append]; omega)
          rw [List.length_append] at this
          exact this
        refine WX.region rfl ?_
        refine WXL.move Met.none rfl ?_
        refine WXL.cl (O1 := _) Met.none rfl (fnOk_of Try.func59 (by decide +kernel)) rfl (fun _ h => h) (step_ok (G38 ++ R) d bm (appD1 D n b) (setX mx n (fileV a38 ((getF D.fs n).bs.length + b.length) c38 (getF D.fs n).d) ((getF D.fs n).bs.length + b.length)) hs.left) (fun v O' hp => ?_)
        obtain ⟨rfl, hO⟩ := hp
        subst O'
        refine WXL.not Met.none rfl ?_
        refine WXL.nil ?_
        refine Fin.then_normal ?_
        refine WX.cond rfl (fun hc3 => ?_) (fun hc3 => ?_)
        · try simp only [cnd] at hc3
          refine WX.seq ?_
          refine WX.region rfl ?_
          refine WXL.assign Met.none rfl ?_
          refine WXL.nil ?_
          refine Fin.then_normal ?_
          refine WX.ret ?_
          refine Fin.then_ret ?_
          first
          | exact Fin.result (O' := dkO d bm D mx ([] ++ R)) (.inr rfl) rfl rfl drop_ (by unfold appendD; rw [if_pos (by omega)]; exact ⟨mx, [], rfl, rfl, hD⟩)
          | exact Fin.result (O' := dkO d bm D mx ([] ++ R)) (.inr rfl) rfl rfl drop_ (by unfold appendD; rw [if_neg (by omega), if_pos (by assumption)]; exact ⟨mx, [], rfl, rfl, hD⟩)
          | exact Fin.result (O' := dkO d bm D mx ([] ++ R)) (.inr rfl) rfl rfl drop_ (by unfold appendD; rw [if_neg (by omega), if_neg (by simp [hc1]), if_pos (by omega)]; exact ⟨mx, [], rfl, rfl, hD⟩)
          | exact Fin.result (O' := dkO d bm (stepD (appD1 D n b)).2 _ (G38 ++ R)) (.inr rfl) rfl rfl drop_ (by unfold appendD; rw [if_neg (by omega), if_neg (by simp [hc1]), if_neg (by omega), if_neg (by simpa using hc3)]; exact ⟨_, G38, rfl, rfl, hs.step⟩)
          | exact Fin.result (O' := dkO d bm (stepD (appD1 D n b)).2 _ (G38 ++ R)) (.inr rfl) rfl rfl drop_ (by unfold appendD; rw [if_neg (by omega), if_neg (by simp [hc1]), if_neg (by omega), if_pos (by simpa using hc3)]; exact ⟨_, G38, rfl, rfl, hs.step⟩)
        · try simp only [cnd] at hc3
          refine WX.skip ?_
          refine Fin.then_normal ?_
          refine WX.seq ?_
          refine WX.region rfl ?_
          refine WXL.assign Met.none rfl ?_
          refine WXL.nil ?_
          refine Fin.then_normal ?_
          refine WX.ret ?_
          first
          | exact Fin.result (O' := dkO d bm D mx ([] ++ R)) (.inr rfl) rfl rfl drop_ (by unfold appendD; rw [if_pos (by omega)]; exact ⟨mx, [], rfl, rfl, hD⟩)
          | exact Fin.result (O' := dkO d bm D mx ([] ++ R)) (.inr rfl) rfl rfl drop_ (by unfold appendD; rw [if_neg (by omega), if_pos (by assumption)]; exact ⟨mx, [], rfl, rfl, hD⟩)
          | exact Fin.result (O' := dkO d bm D mx ([] ++ R)) (.inr rfl) rfl rfl drop_ (by unfold appendD; rw [if_neg (by omega), if_neg (by simp [hc1]), if_pos (by omega)]; exact ⟨mx, [], rfl, rfl, hD⟩)
          | exact Fin.result (O' := dkO d bm (stepD (appD1 D n b)).2 _ (G38 ++ R)) (.inr rfl) rfl rfl drop_ (by unfold appendD; rw [if_neg (by omega), if_neg (by simp [hc1]), if_neg (by omega), if_neg (by simpa using hc3)]; exact ⟨_, G38, rfl, rfl, hs.step⟩)
          | exact Fin.result (O' := dkO d bm (stepD (appD1 D n b)).2 _ (G38 ++ R)) (.inr rfl) rfl rfl drop_ (by unfold appendD; rw [if_neg (by omega), if_neg (by simp [hc1]), if_neg (by omega), if_pos (by simpa using hc3)]; exact ⟨_, G38, rfl, rfl, hs.step⟩)

end Go.Proofs.Ythekokdpplobhaa.Eng

set_option linter.unusedVariables false
set_option linter.unusedSimpArgs false
namespace Go.Proofs.Ythekokdpplobhaa.Eng

/-- What Open comes to: the error, the disk then. The records are those at the beginning of the file. -/
def openT (D : Dk) (file : Int) : Int × Dk :=
  if endP (getF D.fs file).bs (recsP (getF D.fs file).bs).length < (getF D.fs file).bs.length then truncD D file (endP (getF D.fs file).bs (recsP (getF D.fs file).bs).length : Nat) else (0, D)
def openD (D : Dk) (file : Int) : Int × Dk :=
  if (readD D file).2 ≠ 0 then ((readD D file).2, D)
  else if (openT D file).1 ≠ 0 then openT D file else syncD (openT D file).2

abbrev lgO (lg d : Nat) (file n : Int) (down : Bool) : Nat × Ent := (lg, ⟨0, false, [Ptr d 0, I file, I n, .bool down]⟩)

theorem openNil_ok (O : Objs) (file : Int) : Spec Try.prog false 30 #[.pointer none, I file] O fun v O' => v = .tuple #[.pointer none, .slice none 0 0, I 1] ∧ O' = O := by
  refine Spec.enter (args := [_, _]) (m := 49) Try.func30 rfl rfl (by decide +kernel) fun h0 => ?_
  refine WX.seq ?_
  refine WX.region rfl ?_
  refine WXL.assign Met.none rfl ?_
  refine WXL.assign Met.none rfl ?_
  refine WXL.assign Met.none rfl ?_
  refine WXL.nil ?_
  refine Fin.then_normal ?_
  refine WX.seq ?_
  refine WX.seq ?_
  refine WX.region rfl ?_
  refine WXL.move Met.none rfl ?_
  refine WXL.eqNilP Met.none rfl rfl Try.underlying51 ?_
  refine WXL.nil ?_
  refine Fin.then_normal ?_
  refine WX.cond rfl (fun hc0 => ?_) (fun hc0 => ?_)
  · try simp only [cnd] at hc0
    refine WX.seq ?_
    refine WX.region rfl ?_
    refine WXL.assign Met.none rfl ?_
    refine WXL.assign Met.none rfl ?_
    refine WXL.assign Met.none rfl ?_
    refine WXL.nil ?_
    refine Fin.then_normal ?_
    refine WX.ret ?_
    refine Fin.then_ret ?_
    exact Fin.result (O' := O) (.inr rfl) rfl rfl drop_ ⟨rfl, rfl⟩
  · try simp only [cnd] at hc0
    exact (by simp at hc0) --end

theorem trunc_err {D : Dk} {n size : Int} : (truncD D n size).1 = 0 ∨ (truncD D n size).1 = 1 ∨ (truncD D n size).1 = 23 := by
  unfold truncD
  split
  · exact .inr (.inl rfl)
  · split
    · exact .inr (.inr rfl)
    · split
      · exact .inr (.inr rfl)
      · exact .inl rfl

theorem open_ok (R : Objs) {R0 : Objs} (d bm : Nat) (D : Dk) (mx : MapX) (file : Int) (hD : DkI R0 D mx) (hi : ∀ g, Sat g R → Sat g R0) (hl : (getF D.fs file).bs.length ≤ 100000) :
    Spec Try.prog false 30 #[Ptr d 0, I file] (dkO d bm D mx R) fun v O' => ∃ mx',
      (((openD D file).1 = 0 ∧ ∃ lg ao co vs Gg Rg, v = .tuple #[Ptr lg 0, .slice ao (recsP (getF D.fs file).bs).length co, I 0] ∧ Grow 1 ao (recsP (getF D.fs file).bs).length co vs Gg ∧ AreB Rg vs (recsP (getF D.fs file).bs) ∧
          O' = lgO lg d file (recsP (getF D.fs file).bs).length false :: dkO d bm (openD D file).2 mx' (Gg ++ (Rg ++ R)) ∧ DkI R0 (openD D file).2 mx') ∨
        ((openD D file).1 ≠ 0 ∧ ∃ N, v = .tuple #[.pointer none, .slice none 0 0, I (openD D file).1] ∧ O' = dkO d bm (openD D file).2 mx' (N ++ R) ∧ DkI R0 (openD D file).2 mx')) := by
  obtain ⟨fa, fc, hfv, hrow, hnil, hB⟩ := hD.di.get file
  have hrd : readD D file = ([], 1) ∨ readD D file = ([], 23) ∨ readD D file = ((getF D.fs file).bs, 0) := by
    unfold readD
    split
    · exact .inl rfl
    · split
      · exact .inr (.inl rfl)
      · exact .inr (.inr rfl)
  obtain ⟨b, hb⟩ : ∃ b, b = (getF D.fs file).bs := ⟨_, rfl⟩
  have hend := endP_le b (recsP b).length
  have hT1 : endP b (recsP b).length < b.length → openT D file = truncD D file (endP b (recsP b).length : Nat) := fun q => by
    unfold openT
    rw [← hb, if_pos q]
  have hT2 : ¬ endP b (recsP b).length < b.length → openT D file = (0, D) := fun q => by
    unfold openT
    rw [← hb, if_neg q]
  rw [← hb] at hrd hl hB ⊢
  refine Spec.enter (args := [_, _]) (m := 49) Try.func30 rfl rfl (by decide +kernel) fun h0 => ?_
  refine WX.seq ?_
  refine WX.region rfl ?_
  refine WXL.assign Met.none rfl ?_
  refine WXL.assign Met.none rfl ?_
  refine WXL.assign Met.none rfl ?_
  refine WXL.nil ?_
  refine Fin.then_normal ?_
  refine WX.seq ?_
  refine WX.seq ?_
  refine WX.region rfl ?_
  refine WXL.move Met.none rfl ?_
  refine WXL.eqNilP Met.none rfl rfl Try.underlying51 ?_
  refine WXL.nil ?_
  refine Fin.then_normal ?_
  refine WX.cond rfl (fun hc0 => ?_) (fun hc0 => ?_)
  · try simp only [cnd] at hc0
    exact (by simp at hc0) --end
  · try simp only [cnd] at hc0
    refine WX.skip ?_
    refine Fin.then_normal ?_
    refine WX.seq ?_
    refine WX.region rfl ?_
    refine WXL.move Met.none rfl ?_
    refine WXL.move Met.none rfl ?_
    refine WXL.cl (O1 := _) Met.none rfl (fnOk_of Try.func53 (by decide +kernel)) rfl (fun _ h => h) (diskRead_ok R d bm D mx file hD hi) (fun v O' hp => ?_)
    obtain ⟨a1, c1, G1, rfl, hG1, rfl⟩ := hp
    refine WXL.move Met.none rfl ?_
    refine WXL.extract Met.none rfl rfl ?_
    refine WXL.extract Met.none rfl rfl ?_
    refine WXL.assign Met.none rfl ?_
    refine WXL.assign Met.none rfl ?_
    refine WXL.nil ?_
    refine Fin.then_normal ?_
    refine WX.seq ?_
    refine WX.seq ?_
    refine WX.region rfl ?_
    refine WXL.move Met.none rfl ?_
    refine WXL.bin Met.none rfl rfl rfl ?_
    refine WXL.nil ?_
    refine Fin.then_normal ?_
    refine WX.cond rfl (fun hc1 => ?_) (fun hc1 => ?_)
    · try simp only [cnd] at hc1
      refine WX.seq ?_
      refine WX.region rfl ?_
      refine WXL.move Met.none rfl ?_
      refine WXL.assign Met.none rfl ?_
      refine WXL.assign Met.none rfl ?_
      refine WXL.assign Met.none rfl ?_
      refine WXL.nil ?_
      refine Fin.then_normal ?_
      refine WX.ret ?_
      refine Fin.then_ret ?_
      first
      | (exfalso; omega)
      | (exfalso; simp at hc3; done)
      | exact Fin.result (O' := dkO d bm D mx ([] ++ R)) (.inr rfl) rfl rfl sub_ (by
          have hop : openD D file = ((readD D file).2, D) := by unfold openD; rw [if_pos hc1]
          rw [hop]
          exact ⟨mx, .inr ⟨hc1, [], rfl, rfl, hD⟩⟩)
      | exact Fin.result (O' := dkO d bm (openT D file).2 mx1 ((Gg ++ Rg) ++ R)) (.inr rfl) rfl rfl sub_ (by
          rw [hop]
          rw [if_pos hc3]
          exact ⟨mx1, .inr ⟨hc4, Gg ++ Rg, rfl, rfl, hD1⟩⟩)
      | exact Fin.result (O' := dkO d bm (syncD (openT D file).2).2 mx2 ((Gg ++ Rg) ++ R)) (.inr rfl) rfl rfl sub_ (by
          rw [hop]
          rw [if_neg (by omega)]
          exact ⟨mx2, .inr ⟨hc4, Gg ++ Rg, rfl, rfl, hD2⟩⟩)
      | exact Fin.result (O' := dkO d bm (syncD D).2 mx2 ((Gg ++ Rg) ++ R)) (.inr rfl) rfl rfl sub_ (by
          rw [hop]
          rw [if_neg (by rw [hT]; simp), hT]
          exact ⟨mx2, .inr ⟨hc4, Gg ++ Rg, rfl, rfl, hD2⟩⟩)
      | exact Fin.result (O' := (b47, ⟨0, false, [Ptr d 0, I file, .int .i64 ((recsP b).length : Nat), .bool false]⟩) :: dkO d bm (syncD D).2 mx2 (Gg ++ (Rg ++ R))) (.inr rfl) rfl rfl sub_ (by
          rw [hop]
          rw [if_neg (by rw [hT]; simp), hT]
          exact ⟨mx2, .inl ⟨by omega, b47, ao, co, vs, Gg, Rg, rfl, hGg, hRg, rfl, hD2⟩⟩)
      | exact Fin.result (O' := (b47, ⟨0, false, [Ptr d 0, I file, .int .i64 ((recsP b).length : Nat), .bool false]⟩) :: dkO d bm (syncD (openT D file).2).2 mx2 (Gg ++ (Rg ++ R))) (.inr rfl) rfl rfl sub_ (by
          rw [hop]
          rw [if_neg (by omega)]
          exact ⟨mx2, .inl ⟨by omega, b47, ao, co, vs, Gg, Rg, rfl, hGg, hRg, rfl, hD2⟩⟩)
    · try simp only [cnd] at hc1
      refine WX.skip ?_
      refine Fin.then_normal ?_
      refine WX.seq ?_
      have hr0 : readD D file = (b, 0) := by
        rcases hrd with q | q | q
        · rw [q] at hc1; simp at hc1
        · rw [q] at hc1; simp at hc1
        · exact q
      have hop : openD D file = if (openT D file).1 ≠ 0 then openT D file else syncD (openT D file).2 := by
        unfold openD
        rw [hr0, if_neg (by simp)]
      rw [hr0] at hG1 ⊢
      dsimp only at hG1 ⊢
      refine WX.region rfl ?_
      refine WXL.move Met.none rfl ?_
      refine WXL.cl (O1 := _) Met.none rfl (fnOk_of Try.func15 (by decide +kernel)) rfl (fun _ h => h) (scan_own _ b a1 c1 hB hl (Rowy.cons (Rowy.cons hG1.rowy)) (fun q => (hG1.nil0 q).1)) (fun v O' hp => ?_)
      obtain ⟨ao, co, vs, Gg, Rg, rfl, hGg, hRg, rfl⟩ := hp
      refine WXL.move Met.none rfl ?_
      refine WXL.extract Met.none rfl rfl ?_
      refine WXL.extract Met.none rfl rfl ?_
      refine WXL.assign Met.none rfl ?_
      refine WXL.assign Met.none rfl ?_
      refine WXL.nil ?_
      refine Fin.then_normal ?_
      refine WX.seq ?_
      refine WX.seq ?_
      refine WX.re (O' := dkO d bm D mx (Gg ++ (Rg ++ R))) ?_
      refine WX.region rfl ?_
      refine WXL.move Met.none rfl ?_
      refine WXL.move Met.none rfl ?_
      refine WXL.len Met.none rfl Try.underlying23 ?_
      refine WXL.bin Met.none rfl rfl rfl ?_
      refine WXL.nil ?_
      refine Fin.then_normal ?_
      refine WX.cond rfl (fun hc2 => ?_) (fun hc2 => ?_)
      · try simp only [cnd] at hc2
        refine WX.region rfl ?_
        refine WXL.move Met.none rfl ?_
        refine WXL.move Met.none rfl ?_
        refine WXL.move Met.none rfl ?_
        refine WXL.cl (O1 := _) Met.none rfl (fnOk_of Try.func54 (by decide +kernel)) rfl (fun _ h => h) (trunc_ok (Gg ++ (Rg ++ R)) d bm D mx file (endP b (recsP b).length : Nat) hD (fun g hg => hi g hg.app_right.app_right)) (fun v O' hp => ?_)
        obtain ⟨mx1, rfl, rfl, hD1⟩ := hp
        have hT := hT1 (by omega)
        rw [← hT] at hD1 ⊢
        refine WXL.assign Met.none rfl ?_
        refine WXL.nil ?_
        refine Fin.then_normal ?_
        refine WX.seq ?_
        refine WX.seq ?_
        refine WX.region rfl ?_
        refine WXL.move Met.none rfl ?_
        refine WXL.bin Met.none rfl rfl rfl ?_
        refine WXL.nil ?_
        refine Fin.then_normal ?_
        refine WX.cond rfl (fun hc3 => ?_) (fun hc3 => ?_)
        · try simp only [cnd] at hc3
          refine WX.region rfl ?_
          refine WXL.move Met.none rfl ?_
          refine WXL.cl (O1 := _) Met.none rfl (fnOk_of Try.func55 (by decide +kernel)) rfl (fun _ h => h) ((by first | exact sync_ok (Gg ++ (Rg ++ R)) d bm (openT D file).2 mx1 hD1 | exact sync_ok (Gg ++ (Rg ++ R)) d bm D mx hD)) (fun v O' hp => ?_)
          obtain ⟨mx2, rfl, rfl, hD2⟩ := hp
          refine WXL.assign Met.none rfl ?_
          refine WXL.nil ?_
          refine Fin.then_normal ?_
          refine WX.seq ?_
          refine WX.seq ?_
          refine WX.region rfl ?_
          refine WXL.move Met.none rfl ?_
          refine WXL.bin Met.none rfl rfl rfl ?_
          refine WXL.nil ?_
          refine Fin.then_normal ?_
          refine WX.cond rfl (fun hc4 => ?_) (fun hc4 => ?_)
          · try simp only [cnd] at hc4
            refine WX.seq ?_
            refine WX.region rfl ?_
            refine WXL.move Met.none rfl ?_
            refine WXL.assign Met.none rfl ?_
            refine WXL.assign Met.none rfl ?_
            refine WXL.assign Met.none rfl ?_
            refine WXL.nil ?_
            refine Fin.then_normal ?_
            refine WX.ret ?_
            refine Fin.then_ret ?_
            first
            | (exfalso; omega)
            | (exfalso; simp at hc3; done)
            | exact Fin.result (O' := dkO d bm D mx ([] ++ R)) (.inr rfl) rfl rfl sub_ (by
                have hop : openD D file = ((readD D file).2, D) := by unfold openD; rw [if_pos hc1]
                rw [hop]
                exact ⟨mx, .inr ⟨hc1, [], rfl, rfl, hD⟩⟩)
            | exact Fin.result (O' := dkO d bm (openT D file).2 mx1 ((Gg ++ Rg) ++ R)) (.inr rfl) rfl rfl sub_ (by
                rw [hop]
                rw [if_pos hc3]
                exact ⟨mx1, .inr ⟨hc4, Gg ++ Rg, rfl, rfl, hD1⟩⟩)
            | exact Fin.result (O' := dkO d bm (syncD (openT D file).2).2 mx2 ((Gg ++ Rg) ++ R)) (.inr rfl) rfl rfl sub_ (by
                rw [hop]
                rw [if_neg (by omega)]
                exact ⟨mx2, .inr ⟨hc4, Gg ++ Rg, rfl, rfl, hD2⟩⟩)
            | exact Fin.result (O' := dkO d bm (syncD D).2 mx2 ((Gg ++ Rg) ++ R)) (.inr rfl) rfl rfl sub_ (by
                rw [hop]
                rw [if_neg (by rw [hT]; simp), hT]
                exact ⟨mx2, .inr ⟨hc4, Gg ++ Rg, rfl, rfl, hD2⟩⟩)
            | exact Fin.result (O' := (b47, ⟨0, false, [Ptr d 0, I file, .int .i64 ((recsP b).length : Nat), .bool false]⟩) :: dkO d bm (syncD D).2 mx2 (Gg ++ (Rg ++ R))) (.inr rfl) rfl rfl sub_ (by
                rw [hop]
                rw [if_neg (by rw [hT]; simp), hT]
                exact ⟨mx2, .inl ⟨by omega, b47, ao, co, vs, Gg, Rg, rfl, hGg, hRg, rfl, hD2⟩⟩)
            | exact Fin.result (O' := (b47, ⟨0, false, [Ptr d 0, I file, .int .i64 ((recsP b).length : Nat), .bool false]⟩) :: dkO d bm (syncD (openT D file).2).2 mx2 (Gg ++ (Rg ++ R))) (.inr rfl) rfl rfl sub_ (by
                rw [hop]
                rw [if_neg (by omega)]
                exact ⟨mx2, .inl ⟨by omega, b47, ao, co, vs, Gg, Rg, rfl, hGg, hRg, rfl, hD2⟩⟩)
          · try simp only [cnd] at hc4
            refine WX.skip ?_
            refine Fin.then_normal ?_
            refine WX.seq ?_
            refine WX.region rfl ?_
            refine WXL.move Met.none rfl ?_
            refine WXL.move Met.none rfl ?_
            refine WXL.move Met.none rfl ?_
            refine WXL.len Met.none rfl Try.underlying27 ?_
            refine WXL.build (c := [_, _, _, _]) Met.none rfl zero89 places89 rfl ?_
            refine WXL.box (c := [_, _, _, _]) Met.none rfl rfl rfl (fun b47 => ?_)
            refine WXL.move Met.none rfl ?_
            refine WXL.assign Met.none rfl ?_
            refine WXL.assign Met.none rfl ?_
            refine WXL.assign Met.none rfl ?_
            refine WXL.nil ?_
            refine Fin.then_normal ?_
            refine WX.ret ?_
            first
            | (exfalso; omega)
            | (exfalso; simp at hc3; done)
            | exact Fin.result (O' := dkO d bm D mx ([] ++ R)) (.inr rfl) rfl rfl sub_ (by
                have hop : openD D file = ((readD D file).2, D) := by unfold openD; rw [if_pos hc1]
                rw [hop]
                exact ⟨mx, .inr ⟨hc1, [], rfl, rfl, hD⟩⟩)
            | exact Fin.result (O' := dkO d bm (openT D file).2 mx1 ((Gg ++ Rg) ++ R)) (.inr rfl) rfl rfl sub_ (by
                rw [hop]
                rw [if_pos hc3]
                exact ⟨mx1, .inr ⟨hc4, Gg ++ Rg, rfl, rfl, hD1⟩⟩)
            | exact Fin.result (O' := dkO d bm (syncD (openT D file).2).2 mx2 ((Gg ++ Rg) ++ R)) (.inr rfl) rfl rfl sub_ (by
                rw [hop]
                rw [if_neg (by omega)]
                exact ⟨mx2, .inr ⟨hc4, Gg ++ Rg, rfl, rfl, hD2⟩⟩)
            | exact Fin.result (O' := dkO d bm (syncD D).2 mx2 ((Gg ++ Rg) ++ R)) (.inr rfl) rfl rfl sub_ (by
                rw [hop]
                rw [if_neg (by rw [hT]; simp), hT]
                exact ⟨mx2, .inr ⟨hc4, Gg ++ Rg, rfl, rfl, hD2⟩⟩)
            | exact Fin.result (O' := (b47, ⟨0, false, [Ptr d 0, I file, .int .i64 ((recsP b).length : Nat), .bool false]⟩) :: dkO d bm (syncD D).2 mx2 (Gg ++ (Rg ++ R))) (.inr rfl) rfl rfl sub_ (by
                rw [hop]
                rw [if_neg (by rw [hT]; simp), hT]
                exact ⟨mx2, .inl ⟨by omega, b47, ao, co, vs, Gg, Rg, rfl, hGg, hRg, rfl, hD2⟩⟩)
            | exact Fin.result (O' := (b47, ⟨0, false, [Ptr d 0, I file, .int .i64 ((recsP b).length : Nat), .bool false]⟩) :: dkO d bm (syncD (openT D file).2).2 mx2 (Gg ++ (Rg ++ R))) (.inr rfl) rfl rfl sub_ (by
                rw [hop]
                rw [if_neg (by omega)]
                exact ⟨mx2, .inl ⟨by omega, b47, ao, co, vs, Gg, Rg, rfl, hGg, hRg, rfl, hD2⟩⟩)
        · try simp only [cnd] at hc3
          refine WX.skip ?_
          refine Fin.then_normal ?_
          refine WX.seq ?_
          refine WX.seq ?_
          refine WX.region rfl ?_
          refine WXL.move Met.none rfl ?_
          refine WXL.bin Met.none rfl rfl rfl ?_
          refine WXL.nil ?_
          refine Fin.then_normal ?_
          refine WX.cond rfl (fun hc4 => ?_) (fun hc4 => ?_)
          · try simp only [cnd] at hc4
            refine WX.seq ?_
            refine WX.region rfl ?_
            refine WXL.move Met.none rfl ?_
            refine WXL.assign Met.none rfl ?_
            refine WXL.assign Met.none rfl ?_
            refine WXL.assign Met.none rfl ?_
            refine WXL.nil ?_
            refine Fin.then_normal ?_
            refine WX.ret ?_
            refine Fin.then_ret ?_
            first
            | (exfalso; omega)
            | (exfalso; simp at hc3; done)
            | exact Fin.result (O' := dkO d bm D mx ([] ++ R)) (.inr rfl) rfl rfl sub_ (by
                have hop : openD D file = ((readD D file).2, D) := by unfold openD; rw [if_pos hc1]
                rw [hop]
                exact ⟨mx, .inr ⟨hc1, [], rfl, rfl, hD⟩⟩)
            | exact Fin.result (O' := dkO d bm (openT D file).2 mx1 ((Gg ++ Rg) ++ R)) (.inr rfl) rfl rfl sub_ (by
                rw [hop]
                rw [if_pos hc3]
                exact ⟨mx1, .inr ⟨hc4, Gg ++ Rg, rfl, rfl, hD1⟩⟩)
            | exact Fin.result (O' := dkO d bm (syncD (openT D file).2).2 mx2 ((Gg ++ Rg) ++ R)) (.inr rfl) rfl rfl sub_ (by
                rw [hop]
                rw [if_neg (by omega)]
                exact ⟨mx2, .inr ⟨hc4, Gg ++ Rg, rfl, rfl, hD2⟩⟩)
            | exact Fin.result (O' := dkO d bm (syncD D).2 mx2 ((Gg ++ Rg) ++ R)) (.inr rfl) rfl rfl sub_ (by
                rw [hop]
                rw [if_neg (by rw [hT]; simp), hT]
                exact ⟨mx2, .inr ⟨hc4, Gg ++ Rg, rfl, rfl, hD2⟩⟩)
            | exact Fin.result (O' := (b47, ⟨0, false, [Ptr d 0, I file, .int .i64 ((recsP b).length : Nat), .bool false]⟩) :: dkO d bm (syncD D).2 mx2 (Gg ++ (Rg ++ R))) (.inr rfl) rfl rfl sub_ (by
                rw [hop]
                rw [if_neg (by rw [hT]; simp), hT]
                exact ⟨mx2, .inl ⟨by omega, b47, ao, co, vs, Gg, Rg, rfl, hGg, hRg, rfl, hD2⟩⟩)
            | exact Fin.result (O' := (b47, ⟨0, false, [Ptr d 0, I file, .int .i64 ((recsP b).length : Nat), .bool false]⟩) :: dkO d bm (syncD (openT D file).2).2 mx2 (Gg ++ (Rg ++ R))) (.inr rfl) rfl rfl sub_ (by
                rw [hop]
                rw [if_neg (by omega)]
                exact ⟨mx2, .inl ⟨by omega, b47, ao, co, vs, Gg, Rg, rfl, hGg, hRg, rfl, hD2⟩⟩)
          · try simp only [cnd] at hc4
            refine WX.skip ?_
            refine Fin.then_normal ?_
            refine WX.seq ?_
            refine WX.region rfl ?_
            refine WXL.move Met.none rfl ?_
            refine WXL.move Met.none rfl ?_
            refine WXL.move Met.none rfl ?_
            refine WXL.len Met.none rfl Try.underlying27 ?_
            refine WXL.build (c := [_, _, _, _]) Met.none rfl zero89 places89 rfl ?_
            refine WXL.box (c := [_, _, _, _]) Met.none rfl rfl rfl (fun b47 => ?_)
            refine WXL.move Met.none rfl ?_
            refine WXL.assign Met.none rfl ?_
            refine WXL.assign Met.none rfl ?_
            refine WXL.assign Met.none rfl ?_
            refine WXL.nil ?_
            refine Fin.then_normal ?_
            refine WX.ret ?_
            first
            | (exfalso; omega)
            | (exfalso; simp at hc3; done)
            | exact Fin.result (O' := dkO d bm D mx ([] ++ R)) (.inr rfl) rfl rfl sub_ (by
                have hop : openD D file = ((readD D file).2, D) := by unfold openD; rw [if_pos hc1]
                rw [hop]
                exact ⟨mx, .inr ⟨hc1, [], rfl, rfl, hD⟩⟩)
            | exact Fin.result (O' := dkO d bm (openT D file).2 mx1 ((Gg ++ Rg) ++ R)) (.inr rfl) rfl rfl sub_ (by
                rw [hop]
                rw [if_pos hc3]
                exact ⟨mx1, .inr ⟨hc4, Gg ++ Rg, rfl, rfl, hD1⟩⟩)
            | exact Fin.result (O' := dkO d bm (syncD (openT D file).2).2 mx2 ((Gg ++ Rg) ++ R)) (.inr rfl) rfl rfl sub_ (by
                rw [hop]
                rw [if_neg (by omega)]
                exact ⟨mx2, .inr ⟨hc4, Gg ++ Rg, rfl, rfl, hD2⟩⟩)
            | exact Fin.result (O' := dkO d bm (syncD D).2 mx2 ((Gg ++ Rg) ++ R)) (.inr rfl) rfl rfl sub_ (by
                rw [hop]
                rw [if_neg (by rw [hT]; simp), hT]
                exact ⟨mx2, .inr ⟨hc4, Gg ++ Rg, rfl, rfl, hD2⟩⟩)
            | exact Fin.result (O' := (b47, ⟨0, false, [Ptr d 0, I file, .int .i64 ((recsP b).length : Nat), .bool false]⟩) :: dkO d bm (syncD D).2 mx2 (Gg ++ (Rg ++ R))) (.inr rfl) rfl rfl sub_ (by
                rw [hop]
                rw [if_neg (by rw [hT]; simp), hT]
                exact ⟨mx2, .inl ⟨by omega, b47, ao, co, vs, Gg, Rg, rfl, hGg, hRg, rfl, hD2⟩⟩)
            | exact Fin.result (O' := (b47, ⟨0, false, [Ptr d 0, I file, .int .i64 ((recsP b).length : Nat), .bool false]⟩) :: dkO d bm (syncD (openT D file).2).2 mx2 (Gg ++ (Rg ++ R))) (.inr rfl) rfl rfl sub_ (by
                rw [hop]
                rw [if_neg (by omega)]
                exact ⟨mx2, .inl ⟨by omega, b47, ao, co, vs, Gg, Rg, rfl, hGg, hRg, rfl, hD2⟩⟩)
      · try simp only [cnd] at hc2
        have hT := hT2 (by omega)
        refine WX.skip ?_
        refine Fin.then_normal ?_
        refine WX.seq ?_
        refine WX.seq ?_
        refine WX.region rfl ?_
        refine WXL.move Met.none rfl ?_
        refine WXL.bin Met.none rfl rfl rfl ?_
        refine WXL.nil ?_
        refine Fin.then_normal ?_
        refine WX.cond rfl (fun hc3 => ?_) (fun hc3 => ?_)
        · try simp only [cnd] at hc3
          refine WX.region rfl ?_
          refine WXL.move Met.none rfl ?_
          refine WXL.cl (O1 := _) Met.none rfl (fnOk_of Try.func55 (by decide +kernel)) rfl (fun _ h => h) ((by first | exact sync_ok (Gg ++ (Rg ++ R)) d bm (openT D file).2 mx1 hD1 | exact sync_ok (Gg ++ (Rg ++ R)) d bm D mx hD)) (fun v O' hp => ?_)
          obtain ⟨mx2, rfl, rfl, hD2⟩ := hp
          refine WXL.assign Met.none rfl ?_
          refine WXL.nil ?_
          refine Fin.then_normal ?_
          refine WX.seq ?_
          refine WX.seq ?_
          refine WX.region rfl ?_
          refine WXL.move Met.none rfl ?_
          refine WXL.bin Met.none rfl rfl rfl ?_
          refine WXL.nil ?_
          refine Fin.then_normal ?_
          refine WX.cond rfl (fun hc4 => ?_) (fun hc4 => ?_)
          · try simp only [cnd] at hc4
            refine WX.seq ?_
            refine WX.region rfl ?_
            refine WXL.move Met.none rfl ?_
            refine WXL.assign Met.none rfl ?_
            refine WXL.assign Met.none rfl ?_
            refine WXL.assign Met.none rfl ?_
            refine WXL.nil ?_
            refine Fin.then_normal ?_
            refine WX.ret ?_
            refine Fin.then_ret ?_
            first
            | (exfalso; omega)
            | (exfalso; simp at hc3; done)
            | exact Fin.result (O' := dkO d bm D mx ([] ++ R)) (.inr rfl) rfl rfl sub_ (by
                have hop : openD D file = ((readD D file).2, D) := by unfold openD; rw [if_pos hc1]
                rw [hop]
                exact ⟨mx, .inr ⟨hc1, [], rfl, rfl, hD⟩⟩)
            | exact Fin.result (O' := dkO d bm (openT D file).2 mx1 ((Gg ++ Rg) ++ R)) (.inr rfl) rfl rfl sub_ (by
                rw [hop]
                rw [if_pos hc3]
                exact ⟨mx1, .inr ⟨hc4, Gg ++ Rg, rfl, rfl, hD1⟩⟩)
            | exact Fin.result (O' := dkO d bm (syncD (openT D file).2).2 mx2 ((Gg ++ Rg) ++ R)) (.inr rfl) rfl rfl sub_ (by
                rw [hop]
                rw [if_neg (by omega)]
                exact ⟨mx2, .inr ⟨hc4, Gg ++ Rg, rfl, rfl, hD2⟩⟩)
            | exact Fin.result (O' := dkO d bm (syncD D).2 mx2 ((Gg ++ Rg) ++ R)) (.inr rfl) rfl rfl sub_ (by
                rw [hop]
                rw [if_neg (by rw [hT]; simp), hT]
                exact ⟨mx2, .inr ⟨hc4, Gg ++ Rg, rfl, rfl, hD2⟩⟩)
            | exact Fin.result (O' := (b47, ⟨0, false, [Ptr d 0, I file, .int .i64 ((recsP b).length : Nat), .bool false]⟩) :: dkO d bm (syncD D).2 mx2 (Gg ++ (Rg ++ R))) (.inr rfl) rfl rfl sub_ (by
                rw [hop]
                rw [if_neg (by rw [hT]; simp), hT]
                exact ⟨mx2, .inl ⟨by omega, b47, ao, co, vs, Gg, Rg, rfl, hGg, hRg, rfl, hD2⟩⟩)
            | exact Fin.result (O' := (b47, ⟨0, false, [Ptr d 0, I file, .int .i64 ((recsP b).length : Nat), .bool false]⟩) :: dkO d bm (syncD (openT D file).2).2 mx2 (Gg ++ (Rg ++ R))) (.inr rfl) rfl rfl sub_ (by
                rw [hop]
                rw [if_neg (by omega)]
                exact ⟨mx2, .inl ⟨by omega, b47, ao, co, vs, Gg, Rg, rfl, hGg, hRg, rfl, hD2⟩⟩)
          · try simp only [cnd] at hc4
            refine WX.skip ?_
            refine Fin.then_normal ?_
            refine WX.seq ?_
            refine WX.region rfl ?_
            refine WXL.move Met.none rfl ?_
            refine WXL.move Met.none rfl ?_
            refine WXL.move Met.none rfl ?_
            refine WXL.len Met.none rfl Try.underlying27 ?_
            refine WXL.build (c := [_, _, _, _]) Met.none rfl zero89 places89 rfl ?_
            refine WXL.box (c := [_, _, _, _]) Met.none rfl rfl rfl (fun b47 => ?_)
            refine WXL.move Met.none rfl ?_
            refine WXL.assign Met.none rfl ?_
            refine WXL.assign Met.none rfl ?_
            refine WXL.assign Met.none rfl ?_
            refine WXL.nil ?_
            refine Fin.then_normal ?_
            refine WX.ret ?_
            first
            | (exfalso; omega)
            | (exfalso; simp at hc3; done)
            | exact Fin.result (O' := dkO d bm D mx ([] ++ R)) (.inr rfl) rfl rfl sub_ (by
                have hop : openD D file = ((readD D file).2, D) := by unfold openD; rw [if_pos hc1]
                rw [hop]
                exact ⟨mx, .inr ⟨hc1, [], rfl, rfl, hD⟩⟩)
            | exact Fin.result (O' := dkO d bm (openT D file).2 mx1 ((Gg ++ Rg) ++ R)) (.inr rfl) rfl rfl sub_ (by
                rw [hop]
                rw [if_pos hc3]
                exact ⟨mx1, .inr ⟨hc4, Gg ++ Rg, rfl, rfl, hD1⟩⟩)
            | exact Fin.result (O' := dkO d bm (syncD (openT D file).2).2 mx2 ((Gg ++ Rg) ++ R)) (.inr rfl) rfl rfl sub_ (by
                rw [hop]
                rw [if_neg (by omega)]
                exact ⟨mx2, .inr ⟨hc4, Gg ++ Rg, rfl, rfl, hD2⟩⟩)
            | exact Fin.result (O' := dkO d bm (syncD D).2 mx2 ((Gg ++ Rg) ++ R)) (.inr rfl) rfl rfl sub_ (by
                rw [hop]
                rw [if_neg (by rw [hT]; simp), hT]
                exact ⟨mx2, .inr ⟨hc4, Gg ++ Rg, rfl, rfl, hD2⟩⟩)
            | exact Fin.result (O' := (b47, ⟨0, false, [Ptr d 0, I file, .int .i64 ((recsP b).length : Nat), .bool false]⟩) :: dkO d bm (syncD D).2 mx2 (Gg ++ (Rg ++ R))) (.inr rfl) rfl rfl sub_ (by
                rw [hop]
                rw [if_neg (by rw [hT]; simp), hT]
                exact ⟨mx2, .inl ⟨by omega, b47, ao, co, vs, Gg, Rg, rfl, hGg, hRg, rfl, hD2⟩⟩)
            | exact Fin.result (O' := (b47, ⟨0, false, [Ptr d 0, I file, .int .i64 ((recsP b).length : Nat), .bool false]⟩) :: dkO d bm (syncD (openT D file).2).2 mx2 (Gg ++ (Rg ++ R))) (.inr rfl) rfl rfl sub_ (by
                rw [hop]
                rw [if_neg (by omega)]
                exact ⟨mx2, .inl ⟨by omega, b47, ao, co, vs, Gg, Rg, rfl, hGg, hRg, rfl, hD2⟩⟩)
        · try simp only [cnd] at hc3
          refine WX.skip ?_
          refine Fin.then_normal ?_
          refine WX.seq ?_
          refine WX.seq ?_
          refine WX.region rfl ?_
          refine WXL.move Met.none rfl ?_
          refine WXL.bin Met.none rfl rfl rfl ?_
          refine WXL.nil ?_
          refine Fin.then_normal ?_
          refine WX.cond rfl (fun hc4 => ?_) (fun hc4 => ?_)
          · try simp only [cnd] at hc4
            refine WX.seq ?_
            refine WX.region rfl ?_
            refine WXL.move Met.none rfl ?_
            refine WXL.assign Met.none rfl ?_
            refine WXL.assign Met.none rfl ?_
            refine WXL.assign Met.none rfl ?_
            refine WXL.nil ?_
            refine Fin.then_normal ?_
            refine WX.ret ?_
            refine Fin.then_ret ?_
            first
            | (exfalso; omega)
            | (exfalso; simp at hc3; done)
            | exact Fin.result (O' := dkO d bm D mx ([] ++ R)) (.inr rfl) rfl rfl sub_ (by
                have hop : openD D file = ((readD D file).2, D) := by unfold openD; rw [if_pos hc1]
                rw [hop]
                exact ⟨mx, .inr ⟨hc1, [], rfl, rfl, hD⟩⟩)
            | exact Fin.result (O' := dkO d bm (openT D file).2 mx1 ((Gg ++ Rg) ++ R)) (.inr rfl) rfl rfl sub_ (by
                rw [hop]
                rw [if_pos hc3]
                exact ⟨mx1, .inr ⟨hc4, Gg ++ Rg, rfl, rfl, hD1⟩⟩)
            | exact Fin.result (O' := dkO d bm (syncD (openT D file).2).2 mx2 ((Gg ++ Rg) ++ R)) (.inr rfl) rfl rfl sub_ (by
                rw [hop]
                rw [if_neg (by omega)]
                exact ⟨mx2, .inr ⟨hc4, Gg ++ Rg, rfl, rfl, hD2⟩⟩)
            | exact Fin.result (O' := dkO d bm (syncD D).2 mx2 ((Gg ++ Rg) ++ R)) (.inr rfl) rfl rfl sub_ (by
                rw [hop]
                rw [if_neg (by rw [hT]; simp), hT]
                exact ⟨mx2, .inr ⟨hc4, Gg ++ Rg, rfl, rfl, hD2⟩⟩)
            | exact Fin.result (O' := (b47, ⟨0, false, [Ptr d 0, I file, .int .i64 ((recsP b).length : Nat), .bool false]⟩) :: dkO d bm (syncD D).2 mx2 (Gg ++ (Rg ++ R))) (.inr rfl) rfl rfl sub_ (by
                rw [hop]
                rw [if_neg (by rw [hT]; simp), hT]
                exact ⟨mx2, .inl ⟨by omega, b47, ao, co, vs, Gg, Rg, rfl, hGg, hRg, rfl, hD2⟩⟩)
            | exact Fin.result (O' := (b47, ⟨0, false, [Ptr d 0, I file, .int .i64 ((recsP b).length : Nat), .bool false]⟩) :: dkO d bm (syncD (openT D file).2).2 mx2 (Gg ++ (Rg ++ R))) (.inr rfl) rfl rfl sub_ (by
                rw [hop]
                rw [if_neg (by omega)]
                exact ⟨mx2, .inl ⟨by omega, b47, ao, co, vs, Gg, Rg, rfl, hGg, hRg, rfl, hD2⟩⟩)
          · try simp only [cnd] at hc4
            refine WX.skip ?_
            refine Fin.then_normal ?_
            refine WX.seq ?_
            refine WX.region rfl ?_
            refine WXL.move Met.none rfl ?_
            refine WXL.move Met.none rfl ?_
            refine WXL.move Met.none rfl ?_
            refine WXL.len Met.none rfl Try.underlying27 ?_
            refine WXL.build (c := [_, _, _, _]) Met.none rfl zero89 places89 rfl ?_
            refine WXL.box (c := [_, _, _, _]) Met.none rfl rfl rfl (fun b47 => ?_)
            refine WXL.move Met.none rfl ?_
            refine WXL.assign Met.none rfl ?_
            refine WXL.assign Met.none rfl ?_
            refine WXL.assign Met.none rfl ?_
            refine WXL.nil ?_
            refine Fin.then_normal ?_
            refine WX.ret ?_
            first
            | (exfalso; omega)
            | (exfalso; simp at hc3; done)
            | exact Fin.result (O' := dkO d bm D mx ([] ++ R)) (.inr rfl) rfl rfl sub_ (by
                have hop : openD D file = ((readD D file).2, D) := by unfold openD; rw [if_pos hc1]
                rw [hop]
                exact ⟨mx, .inr ⟨hc1, [], rfl, rfl, hD⟩⟩)
            | exact Fin.result (O' := dkO d bm (openT D file).2 mx1 ((Gg ++ Rg) ++ R)) (.inr rfl) rfl rfl sub_ (by
                rw [hop]
                rw [if_pos hc3]
                exact ⟨mx1, .inr ⟨hc4, Gg ++ Rg, rfl, rfl, hD1⟩⟩)
            | exact Fin.result (O' := dkO d bm (syncD (openT D file).2).2 mx2 ((Gg ++ Rg) ++ R)) (.inr rfl) rfl rfl sub_ (by
                rw [hop]
                rw [if_neg (by omega)]
                exact ⟨mx2, .inr ⟨hc4, Gg ++ Rg, rfl, rfl, hD2⟩⟩)
            | exact Fin.result (O' := dkO d bm (syncD D).2 mx2 ((Gg ++ Rg) ++ R)) (.inr rfl) rfl rfl sub_ (by
                rw [hop]
                rw [if_neg (by rw [hT]; simp), hT]
                exact ⟨mx2, .inr ⟨hc4, Gg ++ Rg, rfl, rfl, hD2⟩⟩)
            | exact Fin.result (O' := (b47, ⟨0, false, [Ptr d 0, I file, .int .i64 ((recsP b).length : Nat), .bool false]⟩) :: dkO d bm (syncD D).2 mx2 (Gg ++ (Rg ++ R))) (.inr rfl) rfl rfl sub_ (by
                rw [hop]
                rw [if_neg (by rw [hT]; simp), hT]
                exact ⟨mx2, .inl ⟨by omega, b47, ao, co, vs, Gg, Rg, rfl, hGg, hRg, rfl, hD2⟩⟩)
            | exact Fin.result (O' := (b47, ⟨0, false, [Ptr d 0, I file, .int .i64 ((recsP b).length : Nat), .bool false]⟩) :: dkO d bm (syncD (openT D file).2).2 mx2 (Gg ++ (Rg ++ R))) (.inr rfl) rfl rfl sub_ (by
                rw [hop]
                rw [if_neg (by omega)]
                exact ⟨mx2, .inl ⟨by omega, b47, ao, co, vs, Gg, Rg, rfl, hGg, hRg, rfl, hD2⟩⟩)

end Go.Proofs.Ythekokdpplobhaa.Eng

set_option linter.unusedVariables false
set_option linter.unusedSimpArgs false
namespace Go.Proofs.Ythekokdpplobhaa.Eng

theorem frame_q (O : Objs) (n : Int) (b : List Int) (a : Option Addr) (c : Nat) (hn : In64 n) (hb : Bytes b) (hlen : b.length ≤ 100000) (hl : Src O 1 (.slice a b.length c) b.length (b.map B8)) :
    Spec Try.prog true 12 #[I n, .slice a b.length c] O fun v O' => ∃ a' c' G, v = .slice a' (frameB n b).length c' ∧ Grow 1 a' (frameB n b).length c' ((frameB n b).map B8) G ∧ O' = G ++ O :=
  (Spec.frame (Post := fun v N => ∃ a' c', v = .slice a' (frameB n b).length c' ∧ Grow 1 a' (frameB n b).length c' ((frameB n b).map B8) N)
    ((frame_ok (roO O) n b a c hn hb hlen hl.roh).mono fun v O' ⟨a', c', G, h1, h2, h3⟩ => ⟨G, ⟨a', c', h1, h2⟩, h2.own, h3⟩)).mono fun v O' ⟨N, ⟨a', c', h1, h2⟩, h3⟩ => ⟨a', c', N, h1, h2, h3⟩

theorem late_ok (R : Objs) (be bl lg d : Nat) (file n e : Int) (down : Bool) (hn : 0 ≤ n ∧ n < 1000000) :
    SpecLate Try.prog 56 #[Ptr be 0, Ptr bl 0] ((be, ⟨0, false, [I e]⟩) :: (bl, ⟨0, false, [Ptr lg 0]⟩) :: lgO lg d file n down :: R) fun O' => O' = (be, ⟨0, false, [I e]⟩) :: (bl, ⟨0, false, [Ptr lg 0]⟩) :: lgO lg d file (if e = 0 then n + 1 else n) (decide (e = 23)) :: R := by
  refine SpecLate.enter (args := [_, _]) (m := 16) Try.func56 rfl rfl (by decide +kernel) (by decide +kernel) fun h0 => ?_
  refine WX.seq ?_
  refine WX.region rfl ?_
  first | refine WXL.ld Met.none rfl agg53 ?_ | refine WXL.ldS Met.none rfl agg53 ?_
  first | refine WXL.ld Met.none rfl agg47 ?_ | refine WXL.ldS Met.none rfl agg47 ?_
  refine WXL.bin Met.none rfl rfl rfl ?_
  refine WXL.nilCheck Met.none rfl ?_
  first | refine WXL.fieldAddr Met.none rfl Try.underlying89 rfl sz4 rfl ?_ | refine WXL.faS Met.none rfl Try.underlying89 rfl sz4 ?_
  refine WXL.st (vs := [_]) (j := 2) Met.none rfl rfl rfl sz4 ?_ (hj := rfl)
  refine WXL.nil ?_
  refine Fin.then_normal ?_
  refine WX.seq ?_
  refine WX.region rfl ?_
  first | refine WXL.ld Met.none rfl agg47 ?_ | refine WXL.ldS Met.none rfl agg47 ?_
  refine WXL.bin Met.none rfl rfl rfl ?_
  refine WXL.nil ?_
  refine Fin.then_normal ?_
  refine WX.cond rfl (fun hc0 => ?_) (fun hc0 => ?_)
  · try simp only [cnd] at hc0
    refine WX.region rfl ?_
    first | refine WXL.ld Met.none rfl agg53 ?_ | refine WXL.ldS Met.none rfl agg53 ?_
    refine WXL.nilCheck Met.none rfl ?_
    first | refine WXL.fieldAddr Met.none rfl Try.underlying89 rfl sz3 rfl ?_ | refine WXL.faS Met.none rfl Try.underlying89 rfl sz3 ?_
    first | refine WXL.ld Met.none rfl agg3 ?_ | refine WXL.ldS Met.none rfl agg3 ?_
    refine WXL.bin Met.none rfl rfl bvA ?_
    refine WXL.nilCheck Met.none rfl ?_
    first | refine WXL.fieldAddr Met.none rfl Try.underlying89 rfl sz3 rfl ?_ | refine WXL.faS Met.none rfl Try.underlying89 rfl sz3 ?_
    refine WXL.st (vs := [_]) (j := 2) Met.none rfl rfl rfl sz3 ?_ (hj := rfl)
    refine WXL.nil ?_
    first
    | exact Fin.result (O' := (be, ⟨0, false, [I e]⟩) :: (bl, ⟨0, false, [Ptr lg 0]⟩) :: (lg, ⟨0, false, [Ptr d 0, I file, I (n + 1), .bool (decide (e = 23))]⟩) :: R) (.inl rfl) rfl rfl drop_ (by rw [if_pos hc0])
    | exact Fin.result (O' := (be, ⟨0, false, [I e]⟩) :: (bl, ⟨0, false, [Ptr lg 0]⟩) :: (lg, ⟨0, false, [Ptr d 0, I file, I n, .bool (decide (e = 23))]⟩) :: R) (.inl rfl) rfl rfl drop_ (by rw [if_neg hc0])
  · try simp only [cnd] at hc0
    refine WX.skip ?_
    first
    | exact Fin.result (O' := (be, ⟨0, false, [I e]⟩) :: (bl, ⟨0, false, [Ptr lg 0]⟩) :: (lg, ⟨0, false, [Ptr d 0, I file, I (n + 1), .bool (decide (e = 23))]⟩) :: R) (.inl rfl) rfl rfl drop_ (by rw [if_pos hc0])
    | exact Fin.result (O' := (be, ⟨0, false, [I e]⟩) :: (bl, ⟨0, false, [Ptr lg 0]⟩) :: (lg, ⟨0, false, [Ptr d 0, I file, I n, .bool (decide (e = 23))]⟩) :: R) (.inl rfl) rfl rfl drop_ (by rw [if_neg hc0])

theorem len_ok (R : Objs) (lg d : Nat) (file n : Int) (down : Bool) : Spec Try.prog false 33 #[Ptr lg 0] (lgO lg d file n down :: R) fun v O' => v = I n ∧ O' = lgO lg d file n down :: R := by
  refine Spec.enter (args := [_]) (m := 7) Try.func33 rfl rfl (by decide +kernel) fun h0 => ?_
  refine WX.seq ?_
  refine WX.region rfl ?_
  refine WXL.assign Met.none rfl ?_
  refine WXL.nil ?_
  refine Fin.then_normal ?_
  refine WX.seq ?_
  refine WX.region rfl ?_
  refine WXL.move Met.none rfl ?_
  refine WXL.nilCheck Met.none rfl ?_
  first | refine WXL.fieldAddr Met.none rfl Try.underlying89 rfl sz3 rfl ?_ | refine WXL.faS Met.none rfl Try.underlying89 rfl sz3 ?_
  first | refine WXL.ld Met.none rfl agg3 ?_ | refine WXL.ldS Met.none rfl agg3 ?_
  refine WXL.assign Met.none rfl ?_
  refine WXL.nil ?_
  refine Fin.then_normal ?_
  refine WX.ret ?_
  exact Fin.result (.inr rfl) rfl rfl drop_ ⟨rfl, rfl⟩

theorem up_ok (R : Objs) (lg d : Nat) (file n : Int) (down : Bool) : Spec Try.prog false 34 #[Ptr lg 0] (lgO lg d file n down :: R) fun v O' => v = .bool (!down) ∧ O' = lgO lg d file n down :: R := by
  refine Spec.enter (args := [_]) (m := 8) Try.func34 rfl rfl (by decide +kernel) fun h0 => ?_
  refine WX.seq ?_
  refine WX.region rfl ?_
  refine WXL.assign Met.none rfl ?_
  refine WXL.nil ?_
  refine Fin.then_normal ?_
  refine WX.seq ?_
  refine WX.region rfl ?_
  refine WXL.move Met.none rfl ?_
  refine WXL.nilCheck Met.none rfl ?_
  first | refine WXL.fieldAddr Met.none rfl Try.underlying89 rfl sz4 rfl ?_ | refine WXL.faS Met.none rfl Try.underlying89 rfl sz4 ?_
  first | refine WXL.ld Met.none rfl agg4 ?_ | refine WXL.ldS Met.none rfl agg4 ?_
  refine WXL.not Met.none rfl ?_
  refine WXL.assign Met.none rfl ?_
  refine WXL.nil ?_
  refine Fin.then_normal ?_
  refine WX.ret ?_
  exact Fin.result (.inr rfl) rfl rfl drop_ ⟨rfl, rfl⟩

theorem fresh_ok (O : Objs) (room : Int) (hr : 0 ≤ room ∧ room ≤ 16777216) : Spec Try.prog false 29 #[I room] O fun v O' => ∃ d bm, v = Ptr d 0 ∧ O' = dkO d bm ⟨room, false, false, 0, []⟩ .new O := by
  refine Spec.enter (args := [_]) (m := 13) Try.func29 rfl rfl (by decide +kernel) fun h0 => ?_
  refine WX.seq ?_
  refine WX.region rfl ?_
  refine WXL.assign Met.none rfl ?_
  refine WXL.nil ?_
  refine Fin.then_normal ?_
  refine WX.seq ?_
  refine WX.region rfl ?_
  refine WXL.move Met.none rfl ?_
  refine WXL.cl (O1 := _) Met.none rfl (fnOk_of Try.func52 (by decide +kernel)) rfl (fun _ h => h) ((diskNew_ok O room).mono (Post' := fun v O' => ∃ d bm, v = .tuple #[Ptr d 0, I 0] ∧ O' = dkO d bm ⟨room, false, false, 0, []⟩ .new O) fun v O' h => by
  rcases h with ⟨_, _, h⟩ | ⟨h, _⟩
  · exact h
  · exact absurd hr h) (fun v O' hp => ?_)
  obtain ⟨d, bm, rfl, rfl⟩ := hp
  refine WXL.move Met.none rfl ?_
  refine WXL.extract Met.none rfl rfl ?_
  refine WXL.extract Met.none rfl rfl ?_
  refine WXL.assign Met.none rfl ?_
  refine WXL.assign Met.none rfl ?_
  refine WXL.nil ?_
  refine Fin.then_normal ?_
  refine WX.seq ?_
  refine WX.seq ?_
  refine WX.region rfl ?_
  refine WXL.move Met.none rfl ?_
  refine WXL.bin Met.none rfl rfl rfl ?_
  refine WXL.nil ?_
  refine Fin.then_normal ?_
  refine WX.cond rfl (fun hc0 => ?_) (fun hc0 => ?_)
  · try simp only [cnd] at hc0
    exact (by simp at hc0) --end
  · try simp only [cnd] at hc0
    refine WX.skip ?_
    refine Fin.then_normal ?_
    refine WX.seq ?_
    refine WX.region rfl ?_
    refine WXL.move Met.none rfl ?_
    refine WXL.assign Met.none rfl ?_
    refine WXL.nil ?_
    refine Fin.then_normal ?_
    refine WX.ret ?_
    exact Fin.result (.inr rfl) rfl rfl drop_ ⟨d, bm, rfl, rfl⟩

end Go.Proofs.Ythekokdpplobhaa.Eng

set_option linter.unusedVariables false
set_option linter.unusedSimpArgs false
namespace Go.Proofs.Ythekokdpplobhaa.Eng

theorem Spec.sub {P : Program} {q : Bool} {f : FuncId} {args : Array Value} {O : Objs} {Post Post' : Value → Objs → Prop} (h : Spec P q f args O Post) (hp : ∀ v O', Post v O' → ∃ O2, Post' v O2 ∧ ∀ g, Sat g O' → Sat g O2) : Spec P q f args O Post' := fun g hg => by
  obtain ⟨v, h', O', h1, h2, h3, h4⟩ := h g hg
  obtain ⟨O2, h5, h6⟩ := hp v O' h2
  exact ⟨v, h', O2, h1, h5, h6 _ h3, h4⟩

/-- What a log's Append comes to: the error, the disk then. -/
def lappD (D : Dk) (file n : Int) (down : Bool) (b : List Int) : Int × Dk :=
  if down = true then (23, D)
  else if (appendD D file (frameB n b)).1 ≠ 0 then appendD D file (frameB n b)
  else syncD (appendD D file (frameB n b)).2

theorem logLong_ok (O : Objs) (lg m c : Nat) (a : Option Addr) (hm : 65536 < m) : Spec Try.prog false 32 #[Ptr lg 0, .slice a m c] O fun v O' => v = I 4 ∧ O' = O := by
  refine Spec.enter (args := [_, _]) (m := 37) Try.func32 rfl rfl (by decide +kernel) fun h0 => ?_
  refine WX.seq ?_
  refine WX.region rfl ?_
  refine WXL.box (c := [_]) Met.none rfl rfl rfl (fun b2 => ?_)
  refine WXL.alloc (c := [_]) Met.none zero47 rfl (fun b4 => ?_)
  refine WXL.nil ?_
  refine Fin.then_normal ?_
  refine WX.seq ?_
  refine WX.seq ?_
  refine WX.region rfl ?_
  refine WXL.move Met.none rfl ?_
  refine WXL.len Met.none rfl Try.underlying23 ?_
  refine WXL.bin Met.none rfl rfl rfl ?_
  refine WXL.nil ?_
  refine Fin.then_normal ?_
  refine WX.cond rfl (fun hc0 => ?_) (fun hc0 => ?_)
  · try simp only [cnd] at hc0
    refine WX.seq ?_
    refine WX.region rfl ?_
    refine WXL.st (vs := [_]) (c' := [_]) (j := 0) Met.none rfl rfl rfl sz47 ?_ (hj := rfl)
    refine WXL.nil ?_
    refine Fin.then_normal ?_
    refine WX.ret ?_
    refine Fin.then_ret ?_
    exact Fin.results (O' := O) (.inr rfl) rfl (vs := [I 4]) ⟨⟨b4, 0, rfl, load_one at_ agg47 rfl⟩, trivial⟩ drop_ ⟨rfl, rfl⟩
  · try simp only [cnd] at hc0
    exact (by exfalso; omega) --end

theorem logAppend1 (R : Objs) {R0 : Objs} (lg d bm : Nat) (D : Dk) (mx : MapX) (file n : Int) (down : Bool) (b : List Int) (ab : Option Addr) (cb : Nat) (hD : DkI R0 D mx) (hi : ∀ g, Sat g R → Sat g R0) (hn : 0 ≤ n ∧ n < 1000000) (hB : Bytes b) (hl : b.length ≤ 65536) (hb : Src R 1 (.slice ab b.length cb) b.length (b.map B8)) :
    Spec Try.prog false 32 #[Ptr lg 0, .slice ab b.length cb] (lgO lg d file n down :: dkO d bm D mx R) fun v O' => ∃ b2 b4 mx' N, v = I (lappD D file n down b).1 ∧
      O' = (b4, ⟨0, false, [I (lappD D file n down b).1]⟩) :: (b2, ⟨0, false, [Ptr lg 0]⟩) :: lgO lg d file (if (lappD D file n down b).1 = 0 then n + 1 else n) (decide ((lappD D file n down b).1 = 23)) :: dkO d bm (lappD D file n down b).2 mx' (N ++ R) ∧ DkI (N ++ R0) (lappD D file n down b).2 mx' := by
  have key : ∀ (e : Int) (D' : Dk) (mx' : MapX) (N : Objs) (b2 b4 : Nat) (x : Cx) (L : Tmps) (O : Objs), lappD D file n down b = (e, D') → DkI (N ++ R0) D' mx' → getT L 4 = some (Ptr b4 0) → (∀ h, Sat h O → Sat h ((b4, ⟨0, false, [I e]⟩) :: (b2, ⟨0, false, [Ptr lg 0]⟩) :: lgO lg d file n down :: dkO d bm D' mx' (N ++ R))) →
      Fin x L O .ret (endD (lateW Try.prog Try.f32 fun v O' => ∃ b2 b4 mx' N, v = I (lappD D file n down b).1 ∧
      O' = (b4, ⟨0, false, [I (lappD D file n down b).1]⟩) :: (b2, ⟨0, false, [Ptr lg 0]⟩) :: lgO lg d file (if (lappD D file n down b).1 = 0 then n + 1 else n) (decide ((lappD D file n down b).1 = 23)) :: dkO d bm (lappD D file n down b).2 mx' (N ++ R) ∧ DkI (N ++ R0) (lappD D file n down b).2 mx') 56 #[Ptr b4 0, Ptr b2 0]) := by
    intro e D' mx' N b2 b4 x L O h1 h2 h3 h4
    refine Fin.late (.inr rfl) rfl h4 (late_ok (dkO d bm D' mx' (N ++ R)) b4 b2 lg d file n e down hn) (fun O2 h5 => ⟨[I e], ⟨⟨b4, 0, h3, by subst h5; exact load_one (Knows.at 0 rfl) agg47 rfl⟩, trivial⟩, ?_⟩)
    subst h5
    rw [h1]
    exact ⟨b2, b4, mx', N, rfl, rfl, h2⟩
  refine Spec.enterD (args := [_, _]) (m := 37) Try.func32 rfl rfl (by decide +kernel) fun h0 => ?_
  refine WXD.seq ?_
  refine WX.region rfl ?_
  refine WXL.box (c := [_]) Met.none rfl rfl rfl (fun b2 => ?_)
  refine WXL.alloc (c := [_]) Met.none zero47 rfl (fun b4 => ?_)
  refine WXL.nil ?_
  refine Fin.thenD ?_
  refine WXD.seq ?_
  refine WX.seq ?_
  refine WX.region rfl ?_
  refine WXL.move Met.none rfl ?_
  refine WXL.len Met.none rfl Try.underlying23 ?_
  refine WXL.bin Met.none rfl rfl rfl ?_
  refine WXL.nil ?_
  refine Fin.then_normal ?_
  refine WX.cond rfl (fun hc0 => ?_) (fun hc0 => ?_)
  · try simp only [cnd] at hc0
    exact (by exfalso; omega) --end
  · try simp only [cnd] at hc0
    refine WX.skip ?_
    refine Fin.thenD ?_
    refine WXD.here rfl ?_
    refine WX.seq ?_
    refine WX.seq ?_
    refine WX.region rfl ?_
    first | refine WXL.ld Met.none rfl agg53 ?_ | refine WXL.ldS Met.none rfl agg53 ?_
    refine WXL.nilCheck Met.none rfl ?_
    first | refine WXL.fieldAddr Met.none rfl Try.underlying89 rfl sz4 rfl ?_ | refine WXL.faS Met.none rfl Try.underlying89 rfl sz4 ?_
    first | refine WXL.ld Met.none rfl agg4 ?_ | refine WXL.ldS Met.none rfl agg4 ?_
    refine WXL.nil ?_
    refine Fin.then_normal ?_
    refine WX.cond rfl (fun hc1 => ?_) (fun hc1 => ?_)
    · try simp only [cnd] at hc1
      refine WX.seq ?_
      refine WX.region rfl ?_
      refine WXL.st (vs := [_]) (c' := [_]) (j := 0) Met.none rfl rfl rfl sz47 ?_ (hj := rfl)
      refine WXL.nil ?_
      refine Fin.then_normal ?_
      refine WX.ret ?_
      refine Fin.then_ret ?_
      first
      | exact key 23 D mx [] _ _ _ _ _ (by unfold lappD; rw [if_pos (by assumption)]) hD rfl (fun _ hs => hs)
      | exact key _ _ mx1 N1 _ _ _ _ _ (by unfold lappD; rw [if_neg (by simp [hc1]), if_pos hc2]) hD1 rfl (fun _ hs => hs)
      | exact key _ _ mx2 N1 _ _ _ _ _ (by unfold lappD; rw [if_neg (by simp [hc1]), if_neg (by omega)]) hD2 rfl (fun _ hs => hs)
    · try simp only [cnd] at hc1
      refine WX.skip ?_
      refine Fin.then_normal ?_
      refine WX.seq ?_
      refine WX.seq ?_
      refine WX.draw rfl ?_
      first | refine WXL.ld Met.none rfl agg53 ?_ | refine WXL.ldS Met.none rfl agg53 ?_
      refine WXL.nilCheck Met.none rfl ?_
      first | refine WXL.fieldAddr Met.none rfl Try.underlying89 rfl sz51 rfl ?_ | refine WXL.faS Met.none rfl Try.underlying89 rfl sz51 ?_
      first | refine WXL.ld Met.none rfl agg51 ?_ | refine WXL.ldS Met.none rfl agg51 ?_
      first | refine WXL.ld Met.none rfl agg53 ?_ | refine WXL.ldS Met.none rfl agg53 ?_
      refine WXL.nilCheck Met.none rfl ?_
      first | refine WXL.fieldAddr Met.none rfl Try.underlying89 rfl sz3 rfl ?_ | refine WXL.faS Met.none rfl Try.underlying89 rfl sz3 ?_
      first | refine WXL.ld Met.none rfl agg3 ?_ | refine WXL.ldS Met.none rfl agg3 ?_
      first | refine WXL.ld Met.none rfl agg53 ?_ | refine WXL.ldS Met.none rfl agg53 ?_
      refine WXL.nilCheck Met.none rfl ?_
      first | refine WXL.fieldAddr Met.none rfl Try.underlying89 rfl sz3 rfl ?_ | refine WXL.faS Met.none rfl Try.underlying89 rfl sz3 ?_
      first | refine WXL.ld Met.none rfl agg3 ?_ | refine WXL.ldS Met.none rfl agg3 ?_
      refine WXL.move Met.none rfl ?_
      refine WXL.cl (O1 := _) Met.none rfl (fnOk_of Try.func12 (by decide +kernel)) rfl (fun _ h => h) (frame_q _ n b ab cb (by unfold In64; omega) hB (by omega) (Src.cons (Src.cons (Src.cons (Src.cons (Src.cons hb)))))) (fun v O' hp => ?_)
      obtain ⟨a27, c27, G27, rfl, hG27, rfl⟩ := hp
      refine WXL.cl (O1 := dkO d bm D mx (G27 ++ ((b4, ⟨0, false, [.int .i64 0]⟩) :: (b2, ⟨0, false, [Ptr lg 0]⟩) :: lgO lg d file n down :: R))) Met.none rfl (fnOk_of Try.func35 (by decide +kernel)) rfl sub_ (diskAppend_ok (G27 ++ ((b4, ⟨0, false, [.int .i64 0]⟩) :: (b2, ⟨0, false, [Ptr lg 0]⟩) :: lgO lg d file n down :: R)) d bm D mx file (frameB n b) a27 c27 hD (fun g hg => hi g hg.app_right.tail.tail.tail) hG27.src (frameB_bytes hB)) (fun v O' hp => ?_)
      obtain ⟨mx1, N1, rfl, rfl, hD1⟩ := hp
      refine WXL.assign Met.none rfl ?_
      refine WXL.nil ?_
      refine Fin.then_normal ?_
      refine WX.seq ?_
      refine WX.re (O' := (b4, ⟨0, false, [.int .i64 0]⟩) :: (b2, ⟨0, false, [Ptr lg 0]⟩) :: lgO lg d file n down :: dkO d bm (appendD D file (frameB n b)).2 mx1 (N1 ++ R)) ?_
      refine WX.region rfl ?_
      refine WXL.move Met.none rfl ?_
      refine WXL.bin Met.none rfl rfl rfl ?_
      refine WXL.nil ?_
      refine Fin.then_normal ?_
      refine WX.cond rfl (fun hc2 => ?_) (fun hc2 => ?_)
      · try simp only [cnd] at hc2
        refine WX.seq ?_
        refine WX.region rfl ?_
        refine WXL.move Met.none rfl ?_
        refine WXL.st (vs := [_]) (c' := [_]) (j := 0) Met.none rfl rfl rfl sz47 ?_ (hj := rfl)
        refine WXL.nil ?_
        refine Fin.then_normal ?_
        refine WX.ret ?_
        refine Fin.then_ret ?_
        first
        | exact key 23 D mx [] _ _ _ _ _ (by unfold lappD; rw [if_pos (by assumption)]) hD rfl (fun _ hs => hs)
        | exact key _ _ mx1 N1 _ _ _ _ _ (by unfold lappD; rw [if_neg (by simp [hc1]), if_pos hc2]) hD1 rfl (fun _ hs => hs)
        | exact key _ _ mx2 N1 _ _ _ _ _ (by unfold lappD; rw [if_neg (by simp [hc1]), if_neg (by omega)]) hD2 rfl (fun _ hs => hs)
      · try simp only [cnd] at hc2
        refine WX.skip ?_
        refine Fin.then_normal ?_
        refine WX.seq ?_
        refine WX.region rfl ?_
        first | refine WXL.ld Met.none rfl agg53 ?_ | refine WXL.ldS Met.none rfl agg53 ?_
        refine WXL.nilCheck Met.none rfl ?_
        first | refine WXL.fieldAddr Met.none rfl Try.underlying89 rfl sz51 rfl ?_ | refine WXL.faS Met.none rfl Try.underlying89 rfl sz51 ?_
        first | refine WXL.ld Met.none rfl agg51 ?_ | refine WXL.ldS Met.none rfl agg51 ?_
        refine WXL.cl (O1 := dkO d bm (appendD D file (frameB n b)).2 mx1 ((b4, ⟨0, false, [.int .i64 0]⟩) :: (b2, ⟨0, false, [Ptr lg 0]⟩) :: lgO lg d file n down :: (N1 ++ R))) Met.none rfl (fnOk_of Try.func55 (by decide +kernel)) rfl sub_ (sync_ok _ d bm (appendD D file (frameB n b)).2 mx1 hD1) (fun v O' hp => ?_)
        obtain ⟨mx2, rfl, rfl, hD2⟩ := hp
        refine WXL.re (O' := (b4, ⟨0, false, [.int .i64 0]⟩) :: (b2, ⟨0, false, [Ptr lg 0]⟩) :: lgO lg d file n down :: dkO d bm (syncD (appendD D file (frameB n b)).2).2 mx2 (N1 ++ R)) ?_
        refine WXL.st (vs := [_]) (c' := [_]) (j := 0) Met.none rfl rfl rfl sz47 ?_ (hj := rfl)
        refine WXL.nil ?_
        refine Fin.then_normal ?_
        refine WX.ret ?_
        first
        | exact key 23 D mx [] _ _ _ _ _ (by unfold lappD; rw [if_pos (by assumption)]) hD rfl (fun _ hs => hs)
        | exact key _ _ mx1 N1 _ _ _ _ _ (by unfold lappD; rw [if_neg (by simp [hc1]), if_pos hc2]) hD1 rfl (fun _ hs => hs)
        | exact key _ _ mx2 N1 _ _ _ _ _ (by unfold lappD; rw [if_neg (by simp [hc1]), if_neg (by omega)]) hD2 rfl (fun _ hs => hs)

theorem logAppend_ok (R : Objs) {R0 : Objs} (lg d bm : Nat) (D : Dk) (mx : MapX) (file n : Int) (down : Bool) (b : List Int) (ab : Option Addr) (cb : Nat) (hD : DkI R0 D mx) (hi : ∀ g, Sat g R → Sat g R0) (hn : 0 ≤ n ∧ n < 1000000) (hB : Bytes b) (hl : b.length ≤ 65536) (hb : Src R 1 (.slice ab b.length cb) b.length (b.map B8)) :
    Spec Try.prog false 32 #[Ptr lg 0, .slice ab b.length cb] (lgO lg d file n down :: dkO d bm D mx R) fun v O' => ∃ mx' N, v = I (lappD D file n down b).1 ∧
      O' = lgO lg d file (if (lappD D file n down b).1 = 0 then n + 1 else n) (decide ((lappD D file n down b).1 = 23)) :: dkO d bm (lappD D file n down b).2 mx' (N ++ R) ∧ DkI (N ++ R0) (lappD D file n down b).2 mx' :=
  (logAppend1 R lg d bm D mx file n down b ab cb hD hi hn hB hl hb).sub fun v O' ⟨b2, b4, mx', N, h1, h2, h3⟩ => ⟨_, ⟨mx', N, h1, rfl, h3⟩, fun g hg => by rw [h2] at hg; exact hg.tail.tail⟩

end Go.Proofs.Ythekokdpplobhaa.Eng

set_option linter.unusedVariables false
set_option linter.unusedSimpArgs false
namespace Go.Proofs.Ythekokdpplobhaa.Eng

theorem scan_nil (i : Nat) : scanP i [] = ([], 0) := scan_short i (by decide)

theorem recs_frames {l : List (List Int)} (h : l.length ≤ 1000000) (hx : ∀ x ∈ l, x.length ≤ 1000000) : recsP (framesB 0 l) = l ∧ endP (framesB 0 l) l.length = (framesB 0 l).length := by
  have h1 := scanP_frames [] l 0 (by omega) (fun x hx' => by have := hx x hx'; omega)
  rw [List.append_nil, scan_nil] at h1
  have h2 : recsP (framesB 0 l) = l := by unfold recsP; rw [h1]; simp
  refine ⟨h2, ?_⟩
  unfold endP
  rw [h2, List.take_length]

/-- The power is on and stays on. -/
structure Still (D : Dk) : Prop where
  off : D.off = false
  armed : D.armed = false

theorem calm_step {D : Dk} (h : Still D) : stepD D = (true, D) := by
  unfold stepD
  rw [if_pos h.armed]

theorem get_hard (fs : List (Int × Fi)) (k : Int) : getF (hardAll fs) k = (getF fs k).hard ∨ (getF (hardAll fs) k = ⟨[], 0⟩ ∧ getF fs k = ⟨[], 0⟩) := by
  induction fs with
  | nil => exact .inr ⟨rfl, rfl⟩
  | cons e l ih =>
    obtain ⟨n, f⟩ := e
    unfold getF hardAll at ih ⊢
    simp only [List.map_cons, mget]
    by_cases q : k = n
    · rw [if_pos q, if_pos q]; exact .inl rfl
    · rw [if_neg q, if_neg q]; exact ih

theorem get_hard_bs (fs : List (Int × Fi)) (k : Int) : (getF (hardAll fs) k).bs = (getF fs k).bs := by
  rcases get_hard fs k with h | ⟨h1, h2⟩
  · rw [h]; rfl
  · rw [h1, h2]

theorem get_set {fs : List (Int × Fi)} {k : Int} {f : Fi} (h : f.bs ≠ []) : getF (setF fs k f) k = f := by
  unfold setF
  rw [if_neg h]
  exact get_put

theorem get_put_ne {fs : List (Int × Fi)} {k j : Int} {f : Fi} (h : j ≠ k) : getF (mput k f fs) j = getF fs j := by
  unfold getF
  induction fs with
  | nil => simp [mput, mget, h]
  | cons e l ih =>
    obtain ⟨n, v⟩ := e
    simp only [mput]
    by_cases q : k = n
    · rw [if_pos q]; subst q; simp only [mget]; rw [if_neg h, if_neg h]
    · rw [if_neg q]
      simp only [mget]
      split
      · rfl
      · exact ih

theorem get_set_ne {fs : List (Int × Fi)} {k j : Int} {f : Fi} (h : j ≠ k) (hb : f.bs ≠ []) : getF (setF fs k f) j = getF fs j := by
  unfold setF
  rw [if_neg hb]
  exact get_put_ne h

theorem sync_calm {D : Dk} (h : Still D) : ∃ D', syncD D = (0, D') ∧ Still D' ∧ D'.room = D.room ∧ used D'.fs = used D.fs ∧ ∀ k, (getF D'.fs k).bs = (getF D.fs k).bs := by
  unfold syncD
  rw [if_neg (by rw [h.off]; simp), calm_step h, if_neg (by simp)]
  exact ⟨_, rfl, ⟨h.off, h.armed⟩, rfl, used_hard _, fun k => get_hard_bs _ k⟩

/-- An append that fits. -/
theorem append_calm {D : Dk} (h : Still D) {file : Int} (hf : 0 ≤ file ∧ file < 64) {b : List Int} (hb : b ≠ []) (hfit : (b.length : Int) ≤ D.room - used D.fs) : ∃ D', appendD D file b = (0, D') ∧ Still D' ∧ D'.room = D.room ∧ used D'.fs = used D.fs + b.length ∧ (getF D'.fs file).bs = (getF D.fs file).bs ++ b ∧ ∀ k, k ≠ file → (getF D'.fs k).bs = (getF D.fs k).bs := by
  have hc : Still (appD1 D file b) := ⟨h.off, h.armed⟩
  have hne : (getF D.fs file).bs ++ b ≠ [] := fun q => hb (List.append_eq_nil_iff.1 q).2
  unfold appendD
  rw [if_neg (by omega), if_neg (by rw [h.off]; simp), if_neg (by omega), calm_step hc, if_pos rfl]
  refine ⟨_, rfl, hc, rfl, ?_, ?_, fun k hk => ?_⟩
  · show used (setF D.fs file _) = _
    rw [used_set, List.length_append]
    omega
  · show (getF (setF D.fs file _) file).bs = _
    rw [get_set hne]
  · show (getF (setF D.fs file _) k).bs = _
    rw [get_set_ne hk hne]

theorem append_full {D : Dk} (h : Still D) {file : Int} (hf : 0 ≤ file ∧ file < 64) {b : List Int} (hfit : (b.length : Int) > D.room - used D.fs) : appendD D file b = (22, D) := by
  unfold appendD
  rw [if_neg (by omega), if_neg (by rw [h.off]; simp), if_pos hfit]

theorem frameB_ne (i : Int) (x : List Int) : frameB i x ≠ [] := fun q => by
  have := frameB_four i x
  rw [q] at this
  simp at this

theorem lapp_calm {D : Dk} (h : Still D) {file n : Int} (hf : 0 ≤ file ∧ file < 64) {b : List Int} (hfit : used D.fs + (frameB n b).length ≤ D.room) : ∃ D', lappD D file n false b = (0, D') ∧ Still D' ∧ D'.room = D.room ∧ used D'.fs = used D.fs + (frameB n b).length ∧ (getF D'.fs file).bs = (getF D.fs file).bs ++ frameB n b ∧ ∀ k, k ≠ file → (getF D'.fs k).bs = (getF D.fs k).bs := by
  obtain ⟨D1, e1, c1, r1, u1, g1, o1⟩ := append_calm h hf (frameB_ne n b) (by omega)
  obtain ⟨D2, e2, c2, r2, u2, g2⟩ := sync_calm c1
  unfold lappD
  rw [if_neg (by simp), e1, if_neg (by simp), e2]
  exact ⟨D2, rfl, c2, by rw [r2, r1], by rw [u2, u1], by rw [g2, g1], fun k hk => by rw [g2, o1 k hk]⟩

theorem lapp_full {D : Dk} (h : Still D) {file n : Int} (hf : 0 ≤ file ∧ file < 64) {b : List Int} (hfit : used D.fs + (frameB n b).length > D.room) : lappD D file n false b = (22, D) := by
  unfold lappD
  rw [if_neg (by simp), append_full h hf (by omega), if_pos (by simp)]

/-- A file that is a sequence of frames is opened as it is. -/
theorem open_calm {D : Dk} (h : Still D) {file : Int} (hf : 0 ≤ file ∧ file < 64) {l : List (List Int)} (hl : l.length ≤ 1000000) (hx : ∀ x ∈ l, x.length ≤ 1000000) (hb : (getF D.fs file).bs = framesB 0 l) : ∃ D', openD D file = (0, D') ∧ Still D' ∧ D'.room = D.room ∧ used D'.fs = used D.fs ∧ ∀ k, (getF D'.fs k).bs = (getF D.fs k).bs := by
  obtain ⟨r1, r2⟩ := recs_frames hl hx
  have e1 : readD D file = (framesB 0 l, 0) := by
    unfold readD
    rw [if_neg (by omega), if_neg (by rw [h.off]; simp), hb]
  have e2 : openT D file = (0, D) := by
    unfold openT
    rw [hb, r1, r2, if_neg (by omega)]
  unfold openD
  rw [e1, if_neg (by simp), e2, if_neg (by simp)]
  exact sync_calm h

theorem open_far {D : Dk} {file : Int} (hf : ¬ (0 ≤ file ∧ file < 64)) : openD D file = (1, D) := by
  have e1 : readD D file = ([], 1) := by unfold readD; rw [if_pos hf]
  unfold openD
  rw [e1, if_pos (by simp)]

theorem open_good (R : Objs) {R0 : Objs} (d bm : Nat) (D D' : Dk) (mx : MapX) (file : Int) (l : List (List Int)) (hD : DkI R0 D mx) (hi : ∀ g, Sat g R → Sat g R0) (hl : (getF D.fs file).bs.length ≤ 100000) (h0 : openD D file = (0, D')) (hr : recsP (getF D.fs file).bs = l) :
    Spec Try.prog false 30 #[Ptr d 0, I file] (dkO d bm D mx R) fun v O' => ∃ mx' lg ao co vs Gg Rg, v = .tuple #[Ptr lg 0, .slice ao l.length co, I 0] ∧ Grow 1 ao l.length co vs Gg ∧ AreB Rg vs l ∧
          O' = lgO lg d file l.length false :: dkO d bm D' mx' (Gg ++ (Rg ++ R)) ∧ DkI R0 D' mx' :=
  (open_ok R d bm D mx file hD hi hl).mono fun v O' ⟨mx', h⟩ => by
    rw [h0, hr] at h
    rcases h with ⟨_, lg, ao, co, vs, Gg, Rg, h1, h2, h3, h4, h5⟩ | ⟨h, _⟩
    · exact ⟨mx', lg, ao, co, vs, Gg, Rg, h1, h2, h3, h4, h5⟩
    · exact absurd rfl h

theorem open_bad (R : Objs) {R0 : Objs} (d bm : Nat) (D D' : Dk) (mx : MapX) (file e : Int) (hD : DkI R0 D mx) (hi : ∀ g, Sat g R → Sat g R0) (hl : (getF D.fs file).bs.length ≤ 100000) (h0 : openD D file = (e, D')) (he : e ≠ 0) :
    Spec Try.prog false 30 #[Ptr d 0, I file] (dkO d bm D mx R) fun v O' => ∃ mx' N, v = .tuple #[.pointer none, .slice none 0 0, I e] ∧ O' = dkO d bm D' mx' (N ++ R) ∧ DkI R0 D' mx' :=
  (open_ok R d bm D mx file hD hi hl).mono fun v O' ⟨mx', h⟩ => by
    rw [h0] at h
    rcases h with ⟨h, _⟩ | ⟨_, N, h1, h2, h3⟩
    · exact absurd h he
    · exact ⟨mx', N, h1, h2, h3⟩

end Go.Proofs.Ythekokdpplobhaa.Eng

set_option linter.unusedVariables false
set_option linter.unusedSimpArgs false
namespace Go.Proofs.Ythekokdpplobhaa.Eng

/-- All bytes are durable. -/
def Firm (D : Dk) : Prop := ∀ k, getF D.fs k = (getF D.fs k).hard

theorem hard_hard (f : Fi) : f.hard.hard = f.hard := rfl

theorem sync_firm {D : Dk} (h : Still D) : ∃ D', syncD D = (0, D') ∧ Still D' ∧ D'.room = D.room ∧ used D'.fs = used D.fs ∧ Firm D' ∧ ∀ k, (getF D'.fs k).bs = (getF D.fs k).bs := by
  unfold syncD
  rw [if_neg (by rw [h.off]; simp), calm_step h, if_neg (by simp)]
  exact ⟨_, rfl, ⟨h.off, h.armed⟩, rfl, used_hard _, (fun k => by rw [get_hardE, hard_hard]), fun k => by rw [get_hardE]; rfl⟩

theorem append_still {D : Dk} (h : Still D) (hnd : (D.fs.map (·.1)).Nodup) {file : Int} (hf : 0 ≤ file ∧ file < 64) {b : List Int} (hfit : (b.length : Int) ≤ D.room - used D.fs) : ∃ D', appendD D file b = (0, D') ∧ Still D' ∧ D'.room = D.room ∧ used D'.fs = used D.fs + b.length ∧ ∀ k, (getF D'.fs k).bs = if k = file then (getF D.fs file).bs ++ b else (getF D.fs k).bs := by
  have hc : Still (appD1 D file b) := ⟨h.off, h.armed⟩
  unfold appendD
  rw [if_neg (by omega), if_neg (by rw [h.off]; simp), if_neg (by omega), calm_step hc, if_pos rfl]
  refine ⟨_, rfl, hc, rfl, ?_, fun k => ?_⟩
  · show used (setF D.fs file _) = _
    rw [used_set, List.length_append]
    omega
  · show (getF (setF D.fs file _) k).bs = _
    rw [get_set' hnd]
    by_cases hk : k = file
    · rw [if_pos hk, if_pos hk]
      split
      · rename_i q; exact q.symm
      · rfl
    · rw [if_neg hk, if_neg hk]

theorem trunc_still {D : Dk} (h : Still D) (hnd : (D.fs.map (·.1)).Nodup) {file : Int} (hf : 0 ≤ file ∧ file < 64) {n : Nat} (hn : n ≤ (getF D.fs file).bs.length) : ∃ D', truncD D file (n : Nat) = (0, D') ∧ Still D' ∧ D'.room = D.room ∧ used D'.fs = used D.fs - (getF D.fs file).bs.length + n ∧ ∀ k, (getF D'.fs k).bs = if k = file then (getF D.fs file).bs.take n else (getF D.fs k).bs := by
  unfold truncD
  rw [if_neg (by omega), if_neg (by rw [h.off]; simp), calm_step h, if_neg (by simp)]
  refine ⟨_, rfl, ⟨h.off, h.armed⟩, rfl, ?_, fun k => ?_⟩
  · show used (setF D.fs file _) = _
    rw [used_set]
    simp only [List.length_take, Int.toNat_natCast]
    omega
  · show (getF (setF D.fs file _) k).bs = _
    rw [get_set' hnd]
    by_cases hk : k = file
    · rw [if_pos hk, if_pos hk]
      split
      · rename_i q
        simp only [Int.toNat_natCast] at q
        exact q.symm
      · rfl
    · rw [if_neg hk, if_neg hk]

/-- What Open comes to on a disk that stays on: the file keeps its frames. -/
theorem open_still {D : Dk} (h : Still D) (hnd : (D.fs.map (·.1)).Nodup) {file : Int} (hf : 0 ≤ file ∧ file < 64) {n : Nat} (hn : endP (getF D.fs file).bs (recsP (getF D.fs file).bs).length = n) :
    ∃ D', openD D file = (0, D') ∧ Still D' ∧ D'.room = D.room ∧ used D'.fs = used D.fs - (getF D.fs file).bs.length + n ∧ Firm D' ∧ ∀ k, (getF D'.fs k).bs = if k = file then (getF D.fs file).bs.take n else (getF D.fs k).bs := by
  have hle := endP_le (getF D.fs file).bs (recsP (getF D.fs file).bs).length
  rw [hn] at hle
  have e1 : readD D file = ((getF D.fs file).bs, 0) := by
    unfold readD
    rw [if_neg (by omega), if_neg (by rw [h.off]; simp)]
  unfold openD
  rw [e1, if_neg (by simp)]
  unfold openT
  rw [hn]
  by_cases hq : n < (getF D.fs file).bs.length
  · obtain ⟨D1, t1, t2, t3, t4, t5⟩ := trunc_still h hnd hf hle
    obtain ⟨D2, s1, s2, s3, s4, s5, s6⟩ := sync_firm t2
    rw [if_pos hq, t1, if_neg (by simp), s1]
    exact ⟨D2, rfl, s2, by rw [s3, t3], by rw [s4, t4], s5, fun k => by rw [s6, t5]⟩
  · obtain ⟨D2, s1, s2, s3, s4, s5, s6⟩ := sync_firm h
    rw [if_neg hq, if_neg (by simp), s1]
    refine ⟨D2, rfl, s2, s3, by rw [s4]; omega, s5, fun k => ?_⟩
    rw [s6]
    by_cases hk : k = file
    · rw [if_pos hk, hk, List.take_of_length_le (by omega)]
    · rw [if_neg hk]

theorem recs_short {b : List Int} (h : b.length < 4) : recsP b = [] ∧ endP b (recsP b).length = 0 := by
  have h1 : recsP b = [] := by unfold recsP; rw [scan_short _ h]
  refine ⟨h1, ?_⟩
  rw [h1]
  rfl

theorem recs_end {l : List (List Int)} (h : l.length ≤ 1000000) (hx : ∀ x ∈ l, x.length ≤ 1000000) : endP (framesB 0 l) (recsP (framesB 0 l)).length = (framesB 0 l).length := by
  obtain ⟨h1, h2⟩ := recs_frames h hx
  rw [h1, h2]

theorem lapp_still {D : Dk} (h : Still D) (hnd : (D.fs.map (·.1)).Nodup) {file n : Int} (hf : 0 ≤ file ∧ file < 64) {b : List Int} (hfit : used D.fs + (frameB n b).length ≤ D.room) : ∃ D', lappD D file n false b = (0, D') ∧ Still D' ∧ D'.room = D.room ∧ used D'.fs = used D.fs + (frameB n b).length ∧ Firm D' ∧ ∀ k, (getF D'.fs k).bs = if k = file then (getF D.fs file).bs ++ frameB n b else (getF D.fs k).bs := by
  obtain ⟨D1, e1, c1, r1, u1, g1⟩ := append_still h hnd hf (b := frameB n b) (by omega)
  obtain ⟨D2, e2, c2, r2, u2, f2, g2⟩ := sync_firm c1
  unfold lappD
  rw [if_neg (by simp), e1, if_neg (by simp), e2]
  exact ⟨D2, rfl, c2, by rw [r2, r1], by rw [u2, u1], f2, fun k => by rw [g2, g1]⟩

/-- A crash leaves durable bytes alone. -/
theorem crash_firm {D : Dk} {R0 : Objs} {mx : MapX} (hD : DkI R0 D mx) (h : Firm D) (keep : List Int) {flip : Int} (hf : flip < 0) (m : Int) : ((mget m (crashC D keep flip)).getD ⟨[], 0⟩).hard = getF D.fs m := by
  have hcc : crashC D keep flip = cuts D keep (fnos D).length := by
    unfold crashC
    simp only
    rw [if_neg (by omega)]
  rw [hcc]
  by_cases hm : m ∈ fnos D
  · obtain ⟨i, hi, he⟩ := List.getElem_of_mem hm
    have hnd : ((cuts D keep (fnos D).length).map (·.1)).Nodup := by rw [cuts_keys D keep _ (Nat.le_refl _), List.take_length]; exact fnos_nd hD
    have hn : nth (fnos D) i = m := by rw [nth_get hi, he]
    rw [mget_some hnd (v := cutF keep i (getF D.fs m)) (by
      unfold cuts
      refine List.mem_map.2 ⟨i, List.mem_range.2 hi, ?_⟩
      unfold cutAt
      rw [hn])]
    have hd := hD.get_d m
    have hk := keepN_range keep i hd
    have hfd : (getF D.fs m).d = (getF D.fs m).bs.length := congrArg Fi.d (h m)
    have h0 : keepN keep i (getF D.fs m) = 0 := by omega
    show (cutF keep i (getF D.fs m)).hard = _
    unfold cutF
    rw [h0, hfd, Int.add_zero, Int.toNat_natCast, List.take_length, h m]
    rfl
  · have h1 : getF D.fs m = ⟨[], 0⟩ := by
      unfold getF
      rw [mget_none (fun e => hm (fnos_mem.2 e))]
      rfl
    rw [mget_none (by rw [cuts_keys D keep _ (Nat.le_refl _), List.take_length]; exact hm), h1]
    rfl

/-- Two logs on one disk: their records. -/
structure Two (A C : List (List Int)) (D : Dk) (mx : MapX) (N : Objs) : Prop where
  still : Still D
  room : D.room = 5000
  firm : Firm D
  used : used D.fs = (framesB 0 A).length + (framesB 0 C).length
  a : (getF D.fs 3).bs = framesB 0 A
  c : (getF D.fs 4).bs = framesB 0 C
  dk : DkI N D mx

theorem framesB_one' (kept : List (List Int)) (x : List Int) : framesB 0 (kept ++ [x]) = framesB 0 kept ++ frameB (kept.length : Nat) x := by
  rw [framesB_snoc, Nat.zero_add]

theorem two_a {A C : List (List Int)} {D : Dk} {mx : MapX} {N : Objs} (h : Two A C D mx N) {x : List Int} (hfit : (framesB 0 A).length + (framesB 0 C).length + (frameB (A.length : Nat) x).length ≤ 5000) :
    ∃ D', lappD D 3 (A.length : Nat) false x = (0, D') ∧ ∀ N' mx', DkI N' D' mx' → Two (A ++ [x]) C D' mx' N' := by
  obtain ⟨D', e1, s1, r1, u1, f1, g1⟩ := lapp_still h.still h.dk.di.nd (file := 3) (n := ((A.length : Nat) : Int)) (b := x) (by decide) (by rw [h.used, h.room]; omega)
  refine ⟨D', e1, fun N' mx' hD => ⟨s1, by rw [r1, h.room], f1, ?_, ?_, ?_, hD⟩⟩
  · rw [u1, h.used, framesB_one', List.length_append]; omega
  · rw [g1, if_pos rfl, h.a, framesB_one']
  · rw [g1, if_neg (by decide), h.c]

theorem two_c {A C : List (List Int)} {D : Dk} {mx : MapX} {N : Objs} (h : Two A C D mx N) {x : List Int} (hfit : (framesB 0 A).length + (framesB 0 C).length + (frameB (C.length : Nat) x).length ≤ 5000) :
    ∃ D', lappD D 4 (C.length : Nat) false x = (0, D') ∧ ∀ N' mx', DkI N' D' mx' → Two A (C ++ [x]) D' mx' N' := by
  obtain ⟨D', e1, s1, r1, u1, f1, g1⟩ := lapp_still h.still h.dk.di.nd (file := 4) (n := ((C.length : Nat) : Int)) (b := x) (by decide) (by rw [h.used, h.room]; omega)
  refine ⟨D', e1, fun N' mx' hD => ⟨s1, by rw [r1, h.room], f1, ?_, ?_, ?_, hD⟩⟩
  · rw [u1, h.used, framesB_one', List.length_append]; omega
  · rw [g1, if_neg (by decide), h.a]
  · rw [g1, if_pos rfl, h.c, framesB_one']

end Go.Proofs.Ythekokdpplobhaa.Eng

set_option linter.unusedVariables false
set_option linter.unusedSimpArgs false
namespace Go.Proofs.Ythekokdpplobhaa.Eng

structure ApS where
  i : Nat
  D : Dk
  mx : MapX
  N : Objs

structure ApI (A C : List (List Int)) (q : ApS) : Prop where
  i : q.i ≤ 2
  still : Still q.D
  a : (getF q.D.fs 3).bs = framesB 0 A
  c : (getF q.D.fs 4).bs = framesB 0 C
  dk : DkI q.N q.D q.mx

theorem take_more {α : Type} {l : List α} {i : Nat} (h : l.length ≤ i) : l.take (i + 1) = l.take i := by
  rw [List.take_of_length_le (by omega), List.take_of_length_le h]

theorem journalApart_ok (O : Objs) (l m rest : List Int) (al am ar : Option Addr) (cl cm cr : Nat) (h64l : ∀ n ∈ l, In64 n) (h64m : ∀ n ∈ m, In64 n) (hll : Short l) (hlm : Short m) (hBr : Bytes rest) (hrl : Short rest) (hl : Src O 1 (.slice al l.length cl) l.length (l.map I)) (hm : Src O 1 (.slice am m.length cm) m.length (m.map I)) (hr : Rowy O 1 ar rest.length (rest.map B8)) (kr : ar = none → cr = 0) :
    Spec Try.prog false 7 #[.slice al l.length cl, .slice am m.length cm, .slice ar rest.length cr] O fun v _ => v = .bool true := by
  refine Spec.enter (args := [_, _, _]) (m := 140) Try.func7 rfl rfl (by decide +kernel) fun h0 => ?_
  refine WX.seq ?_
  refine WX.region rfl ?_
  refine WXL.assign Met.none rfl ?_
  refine WXL.nil ?_
  refine Fin.then_normal ?_
  refine WX.seq ?_
  refine WX.region rfl ?_
  refine WXL.cl (O1 := _) Met.none rfl (fnOk_of Try.func29 (by decide +kernel)) rfl (fun _ h => h) (fresh_ok O 5000 (by decide)) (fun v O' hp => ?_)
  obtain ⟨d, bm, rfl, rfl⟩ := hp
  refine WXL.assign Met.none rfl ?_
  refine WXL.nil ?_
  refine Fin.then_normal ?_
  refine WX.seq ?_
  refine WX.seq ?_
  refine WX.region rfl ?_
  refine WXL.move Met.none rfl ?_
  refine WXL.eqNilP Met.none rfl rfl Try.underlying51 ?_
  refine WXL.nil ?_
  refine Fin.then_normal ?_
  refine WX.cond rfl (fun hc0 => ?_) (fun hc0 => ?_)
  · try simp only [cnd] at hc0
    exact (by simp at hc0) --end
  · try simp only [cnd] at hc0
    refine WX.skip ?_
    refine Fin.then_normal ?_
    refine WX.seq ?_
    refine WX.region rfl ?_
    refine WXL.move Met.none rfl ?_
    refine WXL.move Met.none rfl ?_
    refine WXL.cl (O1 := _) Met.none rfl (fnOk_of Try.func10 (by decide +kernel)) rfl (fun _ h => h) (few_ok _ rest ar cr 3 (by decide) hrl (by decide) (Rowy.cons (Rowy.cons hr)) kr) (fun v O' hp => ?_)
    obtain ⟨a1, c1, G1, rfl, hG1, rfl⟩ := hp
    obtain ⟨r, hr3⟩ : ∃ r, r = rest.take (3 : Int).toNat := ⟨_, rfl⟩
    have hrlen : r.length ≤ 3 := by rw [hr3, List.length_take]; show min 3 _ ≤ 3; omega
    have hrB : Bytes r := hr3 ▸ take_bytes hBr
    rw [← hr3] at hG1 ⊢
    have hD0 : DkI [] ⟨5000, false, false, 0, []⟩ .new := ⟨.new, (fun e he => by simp at he), by decide, (fun q => by cases q), by decide⟩
    obtain ⟨D1, e1, s1, r1, u1, g1⟩ := append_still (D := ⟨5000, false, false, 0, []⟩) ⟨rfl, rfl⟩ (by simp) (file := 4) (by decide) (b := r) (by show (r.length : Int) ≤ 5000 - 0; omega)
    refine WXL.cl (O1 := dkO d bm ⟨5000, false, false, 0, []⟩ .new (G1 ++ O)) Met.none rfl (fnOk_of Try.func35 (by decide +kernel)) rfl sub_ (diskAppend_ok (G1 ++ O) d bm ⟨5000, false, false, 0, []⟩ .new 4 r a1 c1 hD0 (fun g hg => Sat.nil hg.wf) hG1.src hrB) (fun v O' hp => ?_)
    obtain ⟨mx1, N1, rfl, rfl, hD1⟩ := hp
    rw [e1] at hD1 ⊢
    dsimp only at hD1 ⊢
    rw [List.append_nil] at hD1
    refine WXL.nil ?_
    refine Fin.then_normal ?_
    refine WX.seq ?_
    have hb3 : (getF D1.fs 3).bs = [] := by rw [g1, if_neg (by decide)]; rfl
    have hb4 : (getF D1.fs 4).bs = r := by rw [g1, if_pos rfl]; rfl
    obtain ⟨rs1, rs2⟩ := recs_short (b := (getF D1.fs 3).bs) (by rw [hb3]; decide)
    obtain ⟨D2, e2, s2, r2, u2, f2, g2⟩ := open_still s1 hD1.di.nd (file := 3) (by decide) rs2
    have hc4 : (getF D2.fs 4).bs = r := by rw [g2, if_neg (by decide), hb4]
    refine WX.region rfl ?_
    refine WXL.move Met.none rfl ?_
    refine WXL.cl (O1 := dkO d bm D1 mx1 (N1 ++ O)) Met.none rfl (fnOk_of Try.func30 (by decide +kernel)) rfl sub_ (open_good _ d bm D1 D2 mx1 3 [] hD1 (fun g hg => hg.app_left) (by rw [hb3]; decide) e2 rs1) (fun v O' hp => ?_)
    obtain ⟨mx2, lga, a2, c2, v2, G2, R2, rfl, hG2, hR2, rfl, hD2⟩ := hp
    refine WXL.move Met.none rfl ?_
    refine WXL.extract Met.none rfl rfl ?_
    refine WXL.extract Met.none rfl rfl ?_
    refine WXL.extract Met.none rfl rfl ?_
    refine WXL.assign Met.none rfl ?_
    refine WXL.assign Met.none rfl ?_
    refine WXL.assign Met.none rfl ?_
    refine WXL.nil ?_
    refine Fin.then_normal ?_
    refine WX.seq ?_
    obtain ⟨rt1, rt2⟩ := recs_short (b := (getF D2.fs 4).bs) (by rw [hc4]; omega)
    obtain ⟨D3, e3, s3, r3, u3, f3, g3⟩ := open_still s2 hD2.di.nd (file := 4) (by decide) rt2
    refine WX.region rfl ?_
    refine WXL.move Met.none rfl ?_
    refine WXL.cl (O1 := dkO d bm D2 mx2 (lgO lga d 3 (([] : List (List Int)).length : Nat) false :: (N1 ++ O))) Met.none rfl (fnOk_of Try.func30 (by decide +kernel)) rfl sub_ (open_good _ d bm D2 D3 mx2 4 [] hD2 (fun g hg => hg.tail.app_left) (by rw [hc4]; omega) e3 rt1) (fun v O' hp => ?_)
    obtain ⟨mx3, lgb, a3, c3, v3, G3, R3, rfl, hG3, hR3, rfl, hD3⟩ := hp
    refine WXL.move Met.none rfl ?_
    refine WXL.extract Met.none rfl rfl ?_
    refine WXL.extract Met.none rfl rfl ?_
    refine WXL.extract Met.none rfl rfl ?_
    refine WXL.assign Met.none rfl ?_
    refine WXL.assign Met.none rfl ?_
    refine WXL.assign Met.none rfl ?_
    refine WXL.nil ?_
    refine Fin.then_normal ?_
    refine WX.seq ?_
    refine WX.seq ?_
    refine WX.region rfl ?_
    refine WXL.move Met.none rfl ?_
    refine WXL.eqNilP Met.none rfl rfl Try.underlying53 ?_
    refine WXL.move Met.none rfl ?_
    refine WXL.split (d := 45) rfl (fun hg45 => ?_) (fun hg45 => ?_)
    · try simp only [cnd] at hg45
      exact (by simp at hg45) --end
    · try simp only [cnd] at hg45
      refine WXL.move (Met.some rfl rfl rfl) rfl ?_
      refine WXL.eqNilP (Met.some rfl rfl rfl) rfl rfl Try.underlying53 ?_
      refine WXL.pick_f Met.none rfl rfl ?_
      refine WXL.move Met.none rfl ?_
      refine WXL.split (d := 49) rfl (fun hg49 => ?_) (fun hg49 => ?_)
      · try simp only [cnd] at hg49
        exact (by simp at hg49) --end
      · try simp only [cnd] at hg49
        refine WXL.move (Met.some rfl rfl rfl) rfl ?_
        refine WXL.bin (Met.some rfl rfl rfl) rfl rfl rfl ?_
        refine WXL.pick_f Met.none rfl rfl ?_
        refine WXL.move Met.none rfl ?_
        refine WXL.split (d := 53) rfl (fun hg53 => ?_) (fun hg53 => ?_)
        · try simp only [cnd] at hg53
          exact (by simp at hg53) --end
        · try simp only [cnd] at hg53
          refine WXL.move (Met.some rfl rfl rfl) rfl ?_
          refine WXL.bin (Met.some rfl rfl rfl) rfl rfl rfl ?_
          refine WXL.pick_f Met.none rfl rfl ?_
          refine WXL.move Met.none rfl ?_
          refine WXL.split (d := 57) rfl (fun hg57 => ?_) (fun hg57 => ?_)
          · try simp only [cnd] at hg57
            exact (by simp at hg57) --end
          · try simp only [cnd] at hg57
            refine WXL.move (Met.some rfl rfl rfl) rfl ?_
            refine WXL.len (Met.some rfl rfl rfl) rfl Try.underlying27 ?_
            refine WXL.bin (Met.some rfl rfl rfl) rfl rfl rfl ?_
            refine WXL.pick_f Met.none rfl rfl ?_
            refine WXL.move Met.none rfl ?_
            refine WXL.split (d := 62) rfl (fun hg62 => ?_) (fun hg62 => ?_)
            · try simp only [cnd] at hg62
              exact (by simp at hg62) --end
            · try simp only [cnd] at hg62
              refine WXL.move (Met.some rfl rfl rfl) rfl ?_
              refine WXL.len (Met.some rfl rfl rfl) rfl Try.underlying27 ?_
              refine WXL.bin (Met.some rfl rfl rfl) rfl rfl rfl ?_
              refine WXL.pick_f Met.none rfl rfl ?_
              refine WXL.nil ?_
              refine Fin.then_normal ?_
              refine WX.cond rfl (fun hc1 => ?_) (fun hc1 => ?_)
              · try simp only [cnd] at hc1
                exact (by simp at hc1) --end
              · try simp only [cnd] at hc1
                refine WX.skip ?_
                refine Fin.then_normal ?_
                refine WX.seq ?_
                refine WX.re (O' := lgO lga d 3 (([] : List (List Int)).length : Nat) false :: lgO lgb d 4 (([] : List (List Int)).length : Nat) false :: dkO d bm D3 mx3 (N1 ++ O)) ?_
                refine WX.region rfl ?_
                refine WXL.move Met.none rfl ?_
                refine WXL.cl (O1 := _) Met.none rfl (fnOk_of Try.func14 (by decide +kernel)) rfl (fun _ h => h) (mkRecords_own _ l al cl h64l hll (Src.cons (Src.cons (Src.cons (Src.cons (Src.app hl)))))) (fun v O' hp => ?_)
                obtain ⟨xs, ax, cx, vx, Gx, Rx, rfl, hGx, hvx, ⟨hx1, hx2⟩, rfl⟩ := hp
                refine WXL.assign Met.none rfl ?_
                refine WXL.nil ?_
                refine Fin.then_normal ?_
                refine WX.seq ?_
                refine WX.region rfl ?_
                refine WXL.move Met.none rfl ?_
                refine WXL.cl (O1 := _) Met.none rfl (fnOk_of Try.func14 (by decide +kernel)) rfl (fun _ h => h) (mkRecords_own _ m am cm h64m hlm (Src.app (Src.app (Src.cons (Src.cons (Src.cons (Src.cons (Src.app hm)))))))) (fun v O' hp => ?_)
                obtain ⟨ys, ay, cy, vy, Gy, Ry, rfl, hGy, hvy, ⟨hy1, hy2⟩, rfl⟩ := hp
                refine WXL.assign Met.none rfl ?_
                refine WXL.nil ?_
                refine Fin.then_normal ?_
                refine WX.seq ?_
                refine WX.seq ?_
                refine WX.re (O' := lgO lga d 3 (([] : List (List Int)).length : Nat) false :: lgO lgb d 4 (([] : List (List Int)).length : Nat) false :: dkO d bm D3 mx3 (N1 ++ (Gx ++ (Rx ++ (Gy ++ (Ry ++ O)))))) ?_
                obtain ⟨B, hB⟩ : ∃ B, B = Gx ++ (Rx ++ (Gy ++ (Ry ++ O))) := ⟨_, rfl⟩
                have hsx : Src B 1 (.slice ax xs.length cx) xs.length vx := hB ▸ hGx.src
                have hbx : AreB B vx xs := hB ▸ hvx.right.app
                have hsy : Src B 1 (.slice ay ys.length cy) ys.length vy := hB ▸ Src.app (Src.app hGy.src)
                have hby : AreB B vy ys := hB ▸ hvy.right.app.app.app
                have hTwo0 : Two [] [] D3 mx3 N1 := ⟨s3, by rw [r3, r2, r1], f3, by
                  rw [u3, u2, u1, hb3, hc4]
                  show (0 : Int) + r.length - (0 : Nat) + (0 : Nat) - r.length + (0 : Nat) = (0 : Nat) + (0 : Nat)
                  omega, by rw [g3, if_neg (by decide), g2, if_pos rfl]; rfl, by rw [g3, if_pos rfl]; rfl, hD3⟩
                have hxl : ∀ i, (framesB 0 (xs.take i)).length ≤ 1500 := fun i => by
                  have h1 : (xs.take i).length ≤ 6 := by rw [List.length_take]; omega
                  have := framesB_le (xs.take i) 0 (by omega) fun x hx => by have := (hx2 x (List.mem_of_mem_take hx)).2; omega
                  omega
                have hyl : ∀ i, (framesB 0 (ys.take i)).length ≤ 1500 := fun i => by
                  have h1 : (ys.take i).length ≤ 6 := by rw [List.length_take]; omega
                  have := framesB_le (ys.take i) 0 (by omega) fun x hx => by have := (hy2 x (List.mem_of_mem_take hx)).2; omega
                  omega
                rw [← hB]
                clear hB hGx hvx hGy hvy
                refine WX.region rfl ?_
                refine WXL.assign Met.none rfl ?_
                refine WXL.nil ?_
                refine Fin.then_normal ?_
                refine WX.block ?_
                refine WX.loop (fun q : ApS => [(7, Ptr d 0), (8, Ptr lga 0), (11, Ptr lgb 0), (14, .slice ax xs.length cx), (15, .slice ay ys.length cy), (16, I (q.i : Int))]) (fun q => lgO lga d 3 ((xs.take q.i).length : Nat) false :: lgO lgb d 4 ((ys.take q.i).length : Nat) false :: dkO d bm q.D q.mx (q.N ++ B)) (fun q => q.i ≤ 6 ∧ Two (xs.take q.i) (ys.take q.i) q.D q.mx q.N) (fun q => 6 - q.i) ⟨0, D3, mx3, N1⟩ ⟨Nat.zero_le _, hTwo0⟩ (fun s hs => hs.tl [] 0) (fun q hq => ?_)
                obtain ⟨i, D, mx, N⟩ := q
                obtain ⟨hi6, hT⟩ := hq
                simp only at hi6 hT
                dsimp only
                have hxl1 := hxl i
                have hyl1 := hyl i
                have hxl2 := hxl (i + 1)
                refine WX.seq ?_
                refine WX.seq ?_
                refine WX.region rfl ?_
                refine WXL.move Met.none rfl ?_
                refine WXL.bin Met.none rfl rfl rfl ?_
                refine WXL.nil ?_
                refine Fin.then_normal ?_
                refine WX.cond rfl (fun hc2 => ?_) (fun hc2 => ?_)
                · try simp only [cnd] at hc2
                  refine WX.skip ?_
                  refine Fin.then_normal ?_
                  refine WX.seq ?_
                  refine WX.block ?_
                  refine WX.seq ?_
                  refine WX.region rfl ?_
                  refine WXL.move Met.none rfl ?_
                  refine WXL.move Met.none rfl ?_
                  refine WXL.len Met.none rfl Try.underlying27 ?_
                  refine WXL.bin Met.none rfl rfl rfl ?_
                  refine WXL.move Met.none rfl ?_
                  refine WXL.split (d := 79) rfl (fun hg79 => ?_) (fun hg79 => ?_)
                  · try simp only [cnd] at hg79
                    have hk1 : i < xs.length := by omega
                    obtain ⟨ai, ci, ei, si⟩ := hbx.2 i hk1
                    rw [ei] at si
                    obtain ⟨x, hx⟩ : ∃ x, x = nth xs i := ⟨_, rfl⟩
                    have hxm : x ∈ xs := hx ▸ nth_mem hk1
                    obtain ⟨hxB, hxL⟩ := hx2 x hxm
                    rw [← hx] at si ei
                    have hvi : vx[i]? = some (.slice ai x.length ci) := by rw [← ei]; exact nth_eq (by rw [hbx.1]; exact hk1)
                    have htl : (xs.take i).length = i := by rw [List.length_take]; omega
                    have htk : xs.take (i + 1) = xs.take i ++ [x] := by rw [take_succ_nth hk1, hx]
                    have hfx := frameB_len (i := (((xs.take i).length : Nat) : Int)) (x := x) (by unfold In64; omega) (by omega)
                    obtain ⟨Da, ea, haT⟩ := two_a hT (x := x) (by omega)
                    refine WXL.move (Met.some rfl rfl rfl) rfl ?_
                    refine WXL.move (Met.some rfl rfl rfl) rfl ?_
                    refine WXL.move (Met.some rfl rfl rfl) rfl ?_
                    first | refine WXL.ix (Met.some rfl rfl rfl) rfl rfl elem27 sz23 ?_ | refine WXL.ixS (Met.some rfl rfl rfl) rfl rfl elem27 sz23 ?_
                    first | refine WXL.ld (Met.some rfl rfl rfl) rfl agg23 ?_ (hv := hvi) | refine WXL.ldS (Met.some rfl rfl rfl) rfl agg23 ?_ (hv := hvi)
                    refine WXL.cl (O1 := lgO lga d 3 ((xs.take i).length : Nat) false :: dkO d bm D mx (lgO lgb d 4 ((ys.take i).length : Nat) false :: (N ++ B))) (Met.some rfl rfl rfl) rfl (fnOk_of Try.func32 (by decide +kernel)) rfl sub_ (logAppend_ok (lgO lgb d 4 ((ys.take i).length : Nat) false :: (N ++ B)) lga d bm D mx 3 ((xs.take i).length : Nat) false x ai ci hT.dk (fun g hg => hg.tail.app_left) (by omega) hxB (by omega) (Src.cons (Src.app si))) (fun v O' hp => ?_)
                    obtain ⟨mxa, Na, rfl, rfl, hDa⟩ := hp
                    rw [ea] at hDa ⊢
                    dsimp only at hDa ⊢
                    have hTa := haT _ _ hDa
                    rw [← htk] at hTa
                    rw [show (if (0 : Int) = 0 then (((xs.take i).length : Nat) : Int) + 1 else (((xs.take i).length : Nat) : Int)) = (((xs.take (i + 1)).length : Nat) : Int) from by rw [htk, List.length_append]; simp, show decide ((0 : Int) = 23) = false from rfl]
                    obtain ⟨Nb, hNb⟩ : ∃ Nb, Nb = Na ++ N := ⟨_, rfl⟩
                    rw [← hNb] at hTa
                    refine WXL.re (O' := lgO lga d 3 ((xs.take (i + 1)).length : Nat) false :: lgO lgb d 4 ((ys.take i).length : Nat) false :: dkO d bm Da mxa (Nb ++ B)) ?_ (by rw [hNb]; exact sub_)
                    refine WXL.bin (Met.some rfl rfl rfl) rfl rfl rfl ?_
                    refine WXL.pick_t Met.none rfl rfl ?_
                    refine WXL.move Met.none rfl ?_
                    refine WXL.split (d := 88) rfl (fun hg88 => ?_) (fun hg88 => ?_)
                    · try simp only [cnd] at hg88
                      exact (by simp at hg88) --end
                    · try simp only [cnd] at hg88
                      refine WXL.move (Met.some rfl rfl rfl) rfl ?_
                      refine WXL.move (Met.some rfl rfl rfl) rfl ?_
                      refine WXL.len (Met.some rfl rfl rfl) rfl Try.underlying27 ?_
                      refine WXL.bin (Met.some rfl rfl rfl) rfl rfl rfl ?_
                      refine WXL.move (Met.some rfl rfl rfl) rfl ?_
                      refine WXL.split (d := 93) rfl (fun hg93 => ?_) (fun hg93 => ?_)
                      · try simp only [cnd] at hg93
                        have hk2 : i < ys.length := by omega
                        obtain ⟨aj, cj, ej, sj⟩ := hby.2 i hk2
                        rw [ej] at sj
                        obtain ⟨y, hy⟩ : ∃ y, y = nth ys i := ⟨_, rfl⟩
                        have hym : y ∈ ys := hy ▸ nth_mem hk2
                        obtain ⟨hyB, hyL⟩ := hy2 y hym
                        rw [← hy] at sj ej
                        have hvj : vy[i]? = some (.slice aj y.length cj) := by rw [← ej]; exact nth_eq (by rw [hby.1]; exact hk2)
                        have hul : (ys.take i).length = i := by rw [List.length_take]; omega
                        have huk : ys.take (i + 1) = ys.take i ++ [y] := by rw [take_succ_nth hk2, hy]
                        have hfy := frameB_len (i := (((ys.take i).length : Nat) : Int)) (x := y) (by unfold In64; omega) (by omega)
                        obtain ⟨Dc, ec, hcT⟩ := two_c hTa (x := y) (by omega)
                        refine WXL.move (Met.some rfl rfl rfl) rfl ?_
                        refine WXL.move (Met.some rfl rfl rfl) rfl ?_
                        refine WXL.move (Met.some rfl rfl rfl) rfl ?_
                        first | refine WXL.ix (Met.some rfl rfl rfl) rfl rfl elem27 sz23 ?_ | refine WXL.ixS (Met.some rfl rfl rfl) rfl rfl elem27 sz23 ?_
                        first | refine WXL.ld (Met.some rfl rfl rfl) rfl agg23 ?_ (hv := hvj) | refine WXL.ldS (Met.some rfl rfl rfl) rfl agg23 ?_ (hv := hvj)
                        refine WXL.cl (O1 := lgO lgb d 4 ((ys.take i).length : Nat) false :: dkO d bm Da mxa (lgO lga d 3 ((xs.take (i + 1)).length : Nat) false :: (Nb ++ B))) (Met.some rfl rfl rfl) rfl (fnOk_of Try.func32 (by decide +kernel)) rfl sub_ (logAppend_ok (lgO lga d 3 ((xs.take (i + 1)).length : Nat) false :: (Nb ++ B)) lgb d bm Da mxa 4 ((ys.take i).length : Nat) false y aj cj hTa.dk (fun g hg => hg.tail.app_left) (by omega) hyB (by omega) (Src.cons (Src.app sj))) (fun v O' hp => ?_)
                        obtain ⟨mxc, Nd, rfl, rfl, hDc⟩ := hp
                        rw [ec] at hDc ⊢
                        dsimp only at hDc ⊢
                        have hTc := hcT _ _ hDc
                        rw [← huk] at hTc
                        rw [show (if (0 : Int) = 0 then (((ys.take i).length : Nat) : Int) + 1 else (((ys.take i).length : Nat) : Int)) = (((ys.take (i + 1)).length : Nat) : Int) from by rw [huk, List.length_append]; simp, show decide ((0 : Int) = 23) = false from rfl]
                        obtain ⟨Nc, hNc⟩ : ∃ Nc, Nc = Nd ++ Nb := ⟨_, rfl⟩
                        rw [← hNc] at hTc
                        refine WXL.re (O' := lgO lga d 3 ((xs.take (i + 1)).length : Nat) false :: lgO lgb d 4 ((ys.take (i + 1)).length : Nat) false :: dkO d bm Dc mxc (Nc ++ B)) ?_ (by rw [hNc]; exact sub_)
                        refine WXL.bin (Met.some rfl rfl rfl) rfl rfl rfl ?_
                        refine WXL.pick_t (Met.some rfl rfl rfl) rfl rfl ?_
                        refine WXL.pick_f Met.none rfl rfl ?_
                        refine WXL.nil ?_
                        refine Fin.then_normal ?_
                        refine WX.cond rfl (fun hc3 => ?_) (fun hc3 => ?_)
                        · try simp only [cnd] at hc3
                          exact (by simp at hc3) --end
                        · try simp only [cnd] at hc3
                          refine WX.skip ?_
                          refine Fin.block_normal ?_
                          refine Fin.then_normal ?_
                          refine WX.region rfl ?_
                          refine WXL.move Met.none rfl ?_
                          refine WXL.bin Met.none rfl rfl bvA ?_
                          refine WXL.assign Met.none rfl ?_
                          refine WXL.nil ?_
                          exact Fin.loop_next (⟨i + 1, Dc, mxc, Nc⟩ : ApS) ⟨by simp only; omega, hTc⟩ (by simp only; omega) (fun s hs => hs.tl [] 0)
                      · try simp only [cnd] at hg93
                        obtain ⟨Dc, hDc⟩ : ∃ Dc, Dc = Da := ⟨_, rfl⟩
                        obtain ⟨mxc, hmxc⟩ : ∃ mxc, mxc = mxa := ⟨_, rfl⟩
                        obtain ⟨Nc, hNc⟩ : ∃ Nc, Nc = Nb := ⟨_, rfl⟩
                        have hTc : Two (xs.take (i + 1)) (ys.take (i + 1)) Dc mxc Nc := by rw [show ys.take (i + 1) = ys.take i from take_more (by omega), hDc, hmxc, hNc]; exact hTa
                        refine WXL.re (O' := lgO lga d 3 ((xs.take (i + 1)).length : Nat) false :: lgO lgb d 4 ((ys.take (i + 1)).length : Nat) false :: dkO d bm Dc mxc (Nc ++ B)) ?_ (by rw [show ys.take (i + 1) = ys.take i from take_more (by omega), hDc, hmxc, hNc]; exact sub_)
                        refine WXL.miss (j := 18) (d := 93) rfl rfl rfl ?_
                        refine WXL.miss (j := 18) (d := 93) rfl rfl rfl ?_
                        refine WXL.miss (j := 18) (d := 93) rfl rfl rfl ?_
                        refine WXL.miss (j := 18) (d := 93) rfl rfl rfl ?_
                        refine WXL.miss (j := 18) (d := 93) rfl rfl rfl ?_
                        refine WXL.miss (j := 18) (d := 93) rfl rfl rfl ?_
                        refine WXL.miss (j := 18) (d := 93) rfl rfl rfl ?_
                        refine WXL.pick_f (Met.some rfl rfl rfl) rfl rfl ?_
                        refine WXL.pick_f Met.none rfl rfl ?_
                        refine WXL.nil ?_
                        refine Fin.then_normal ?_
                        refine WX.cond rfl (fun hc3 => nomatch hc3) (fun hc3 => ?_)
                        refine WX.skip ?_
                        refine Fin.block_normal ?_
                        refine Fin.then_normal ?_
                        refine WX.region rfl ?_
                        refine WXL.move Met.none rfl ?_
                        refine WXL.bin Met.none rfl rfl bvA ?_
                        refine WXL.assign Met.none rfl ?_
                        refine WXL.nil ?_
                        exact Fin.loop_next (⟨i + 1, Dc, mxc, Nc⟩ : ApS) ⟨by simp only; omega, hTc⟩ (by simp only; omega) (fun s hs => hs.tl [] 0)
                  · try simp only [cnd] at hg79
                    obtain ⟨Da, hDa⟩ : ∃ Da, Da = D := ⟨_, rfl⟩
                    obtain ⟨mxa, hmxa⟩ : ∃ mxa, mxa = mx := ⟨_, rfl⟩
                    obtain ⟨Nb, hNb⟩ : ∃ Nb, Nb = N := ⟨_, rfl⟩
                    have hTa : Two (xs.take (i + 1)) (ys.take i) Da mxa Nb := by rw [take_more (by omega), hDa, hmxa, hNb]; exact hT
                    refine WXL.re (O' := lgO lga d 3 ((xs.take (i + 1)).length : Nat) false :: lgO lgb d 4 ((ys.take i).length : Nat) false :: dkO d bm Da mxa (Nb ++ B)) ?_ (by rw [take_more (by omega), hDa, hmxa, hNb]; exact sub_)
                    refine WXL.miss (j := 4) (d := 79) rfl rfl rfl ?_
                    refine WXL.miss (j := 4) (d := 79) rfl rfl rfl ?_
                    refine WXL.miss (j := 4) (d := 79) rfl rfl rfl ?_
                    refine WXL.miss (j := 4) (d := 79) rfl rfl rfl ?_
                    refine WXL.miss (j := 4) (d := 79) rfl rfl rfl ?_
                    refine WXL.miss (j := 4) (d := 79) rfl rfl rfl ?_
                    refine WXL.miss (j := 4) (d := 79) rfl rfl rfl ?_
                    refine WXL.pick_f Met.none rfl rfl ?_
                    refine WXL.move Met.none rfl ?_
                    refine WXL.move (Met.some rfl rfl rfl) rfl ?_
                    refine WXL.move (Met.some rfl rfl rfl) rfl ?_
                    refine WXL.len (Met.some rfl rfl rfl) rfl Try.underlying27 ?_
                    refine WXL.bin (Met.some rfl rfl rfl) rfl rfl rfl ?_
                    refine WXL.move (Met.some rfl rfl rfl) rfl ?_
                    refine WXL.split (d := 93) rfl (fun hg93 => ?_) (fun hg93 => ?_)
                    · try simp only [cnd] at hg93
                      have hk2 : i < ys.length := by omega
                      obtain ⟨aj, cj, ej, sj⟩ := hby.2 i hk2
                      rw [ej] at sj
                      obtain ⟨y, hy⟩ : ∃ y, y = nth ys i := ⟨_, rfl⟩
                      have hym : y ∈ ys := hy ▸ nth_mem hk2
                      obtain ⟨hyB, hyL⟩ := hy2 y hym
                      rw [← hy] at sj ej
                      have hvj : vy[i]? = some (.slice aj y.length cj) := by rw [← ej]; exact nth_eq (by rw [hby.1]; exact hk2)
                      have hul : (ys.take i).length = i := by rw [List.length_take]; omega
                      have huk : ys.take (i + 1) = ys.take i ++ [y] := by rw [take_succ_nth hk2, hy]
                      have hfy := frameB_len (i := (((ys.take i).length : Nat) : Int)) (x := y) (by unfold In64; omega) (by omega)
                      obtain ⟨Dc, ec, hcT⟩ := two_c hTa (x := y) (by omega)
                      refine WXL.move (Met.some rfl rfl rfl) rfl ?_
                      refine WXL.move (Met.some rfl rfl rfl) rfl ?_
                      refine WXL.move (Met.some rfl rfl rfl) rfl ?_
                      first | refine WXL.ix (Met.some rfl rfl rfl) rfl rfl elem27 sz23 ?_ | refine WXL.ixS (Met.some rfl rfl rfl) rfl rfl elem27 sz23 ?_
                      first | refine WXL.ld (Met.some rfl rfl rfl) rfl agg23 ?_ (hv := hvj) | refine WXL.ldS (Met.some rfl rfl rfl) rfl agg23 ?_ (hv := hvj)
                      refine WXL.cl (O1 := lgO lgb d 4 ((ys.take i).length : Nat) false :: dkO d bm Da mxa (lgO lga d 3 ((xs.take (i + 1)).length : Nat) false :: (Nb ++ B))) (Met.some rfl rfl rfl) rfl (fnOk_of Try.func32 (by decide +kernel)) rfl sub_ (logAppend_ok (lgO lga d 3 ((xs.take (i + 1)).length : Nat) false :: (Nb ++ B)) lgb d bm Da mxa 4 ((ys.take i).length : Nat) false y aj cj hTa.dk (fun g hg => hg.tail.app_left) (by omega) hyB (by omega) (Src.cons (Src.app sj))) (fun v O' hp => ?_)
                      obtain ⟨mxc, Nd, rfl, rfl, hDc⟩ := hp
                      rw [ec] at hDc ⊢
                      dsimp only at hDc ⊢
                      have hTc := hcT _ _ hDc
                      rw [← huk] at hTc
                      rw [show (if (0 : Int) = 0 then (((ys.take i).length : Nat) : Int) + 1 else (((ys.take i).length : Nat) : Int)) = (((ys.take (i + 1)).length : Nat) : Int) from by rw [huk, List.length_append]; simp, show decide ((0 : Int) = 23) = false from rfl]
                      obtain ⟨Nc, hNc⟩ : ∃ Nc, Nc = Nd ++ Nb := ⟨_, rfl⟩
                      rw [← hNc] at hTc
                      refine WXL.re (O' := lgO lga d 3 ((xs.take (i + 1)).length : Nat) false :: lgO lgb d 4 ((ys.take (i + 1)).length : Nat) false :: dkO d bm Dc mxc (Nc ++ B)) ?_ (by rw [hNc]; exact sub_)
                      refine WXL.bin (Met.some rfl rfl rfl) rfl rfl rfl ?_
                      refine WXL.pick_t (Met.some rfl rfl rfl) rfl rfl ?_
                      refine WXL.pick_f Met.none rfl rfl ?_
                      refine WXL.nil ?_
                      refine Fin.then_normal ?_
                      refine WX.cond rfl (fun hc3 => ?_) (fun hc3 => ?_)
                      · try simp only [cnd] at hc3
                        exact (by simp at hc3) --end
                      · try simp only [cnd] at hc3
                        refine WX.skip ?_
                        refine Fin.block_normal ?_
                        refine Fin.then_normal ?_
                        refine WX.region rfl ?_
                        refine WXL.move Met.none rfl ?_
                        refine WXL.bin Met.none rfl rfl bvA ?_
                        refine WXL.assign Met.none rfl ?_
                        refine WXL.nil ?_
                        exact Fin.loop_next (⟨i + 1, Dc, mxc, Nc⟩ : ApS) ⟨by simp only; omega, hTc⟩ (by simp only; omega) (fun s hs => hs.tl [] 0)
                    · try simp only [cnd] at hg93
                      obtain ⟨Dc, hDc⟩ : ∃ Dc, Dc = Da := ⟨_, rfl⟩
                      obtain ⟨mxc, hmxc⟩ : ∃ mxc, mxc = mxa := ⟨_, rfl⟩
                      obtain ⟨Nc, hNc⟩ : ∃ Nc, Nc = Nb := ⟨_, rfl⟩
                      have hTc : Two (xs.take (i + 1)) (ys.take (i + 1)) Dc mxc Nc := by rw [show ys.take (i + 1) = ys.take i from take_more (by omega), hDc, hmxc, hNc]; exact hTa
                      refine WXL.re (O' := lgO lga d 3 ((xs.take (i + 1)).length : Nat) false :: lgO lgb d 4 ((ys.take (i + 1)).length : Nat) false :: dkO d bm Dc mxc (Nc ++ B)) ?_ (by rw [show ys.take (i + 1) = ys.take i from take_more (by omega), hDc, hmxc, hNc]; exact sub_)
                      refine WXL.miss (j := 18) (d := 93) rfl rfl rfl ?_
                      refine WXL.miss (j := 18) (d := 93) rfl rfl rfl ?_
                      refine WXL.miss (j := 18) (d := 93) rfl rfl rfl ?_
                      refine WXL.miss (j := 18) (d := 93) rfl rfl rfl ?_
                      refine WXL.miss (j := 18) (d := 93) rfl rfl rfl ?_
                      refine WXL.miss (j := 18) (d := 93) rfl rfl rfl ?_
                      refine WXL.miss (j := 18) (d := 93) rfl rfl rfl ?_
                      refine WXL.pick_f (Met.some rfl rfl rfl) rfl rfl ?_
                      refine WXL.pick_f Met.none rfl rfl ?_
                      refine WXL.nil ?_
                      refine Fin.then_normal ?_
                      refine WX.cond rfl (fun hc3 => nomatch hc3) (fun hc3 => ?_)
                      refine WX.skip ?_
                      refine Fin.block_normal ?_
                      refine Fin.then_normal ?_
                      refine WX.region rfl ?_
                      refine WXL.move Met.none rfl ?_
                      refine WXL.bin Met.none rfl rfl bvA ?_
                      refine WXL.assign Met.none rfl ?_
                      refine WXL.nil ?_
                      exact Fin.loop_next (⟨i + 1, Dc, mxc, Nc⟩ : ApS) ⟨by simp only; omega, hTc⟩ (by simp only; omega) (fun s hs => hs.tl [] 0)
                · try simp only [cnd] at hc2
                  refine WX.exit ?_
                  refine Fin.then_exit ?_
                  refine Fin.loop_exit ?_
                  refine Fin.block_hit rfl ?_
                  refine Fin.then_normal ?_
                  refine WX.seq ?_
                  have hxe : xs.take i = xs := List.take_of_length_le (by omega)
                  have hye : ys.take i = ys := List.take_of_length_le (by omega)
                  rw [hxe, hye] at hT
                  rw [hxe] at hxl1
                  rw [hye] at hyl1
                  refine WX.region rfl ?_
                  refine WXL.move Met.none rfl ?_
                  refine WXL.cl (O1 := dkO d bm D mx (lgO lga d 3 ((xs.take i).length : Nat) false :: lgO lgb d 4 ((ys.take i).length : Nat) false :: (N ++ B))) Met.none rfl (fnOk_of Try.func36 (by decide +kernel)) rfl sub_ (crash_ok (lgO lga d 3 ((xs.take i).length : Nat) false :: lgO lgb d 4 ((ys.take i).length : Nat) false :: (N ++ B)) d bm D mx [] none 0 (-1) hT.dk (by intro Q; simp only [List.countP_append, List.countP_cons]; omega) (by rw [hT.room]; decide) (by unfold In64; decide) (fun n hn => by simp at hn) (by decide) Src.nil) (fun v O' hp => ?_)
                  obtain ⟨mx5, N5, D5, rfl, hD5, hr5, ho5, ha5, hg5⟩ := hp
                  refine WXL.nil ?_
                  refine Fin.then_normal ?_
                  refine WX.seq ?_
                  refine WX.seq ?_
                  obtain ⟨NN, hNN⟩ : ∃ NN, NN = N5 ++ N := ⟨_, rfl⟩
                  rw [← hNN] at hD5
                  refine WX.re (O' := dkO d bm D5 mx5 (NN ++ B)) ?_ (by rw [hNN]; exact sub_)
                  have hg5' : ∀ k, (getF D5.fs k).bs = (getF D.fs k).bs := fun k => by rw [hg5, crash_firm hT.dk hT.firm [] (by decide)]
                  have hxm : ∀ x ∈ xs, x.length ≤ 1000000 := fun x hx => by have := (hx2 x hx).2; omega
                  have hym : ∀ x ∈ ys, x.length ≤ 1000000 := fun x hx => by have := (hy2 x hx).2; omega
                  refine WX.region rfl ?_
                  refine WXL.assign Met.none rfl ?_
                  refine WXL.nil ?_
                  refine Fin.then_normal ?_
                  refine WX.block ?_
                  refine WX.loop (fun q : ApS => [(7, Ptr d 0), (14, .slice ax xs.length cx), (15, .slice ay ys.length cy), (17, I (q.i : Int))]) (fun q => dkO d bm q.D q.mx (NN ++ B)) (fun q => ApI xs ys q ∧ q.N = NN) (fun q => 2 - q.i) ⟨0, D5, mx5, NN⟩ ⟨⟨Nat.zero_le _, ⟨ho5, ha5⟩, by rw [hg5', hT.a], by rw [hg5', hT.c], hD5⟩, rfl⟩ (fun s hs => hs.tl [] 0) (fun q hq => ?_)
                  obtain ⟨k, D6, mx6, N6⟩ := q
                  obtain ⟨⟨hk2, s6, a6, c6, hD6⟩, hN6⟩ := hq
                  simp only at hk2 s6 a6 c6 hD6 hN6
                  subst hN6
                  dsimp only
                  refine WX.seq ?_
                  refine WX.seq ?_
                  refine WX.region rfl ?_
                  refine WXL.move Met.none rfl ?_
                  refine WXL.bin Met.none rfl rfl rfl ?_
                  refine WXL.nil ?_
                  refine Fin.then_normal ?_
                  refine WX.cond rfl (fun hc4 => ?_) (fun hc4 => ?_)
                  · try simp only [cnd] at hc4
                    refine WX.skip ?_
                    refine Fin.then_normal ?_
                    refine WX.seq ?_
                    refine WX.block ?_
                    refine WX.seq ?_
                    obtain ⟨ra1, ra2⟩ := recs_frames (l := xs) (by omega) hxm
                    have hra : endP (getF D6.fs 3).bs (recsP (getF D6.fs 3).bs).length = (framesB 0 xs).length := by rw [a6, ra1, ra2]
                    obtain ⟨D7, e7, s7, r7, u7, f7, g7⟩ := open_still s6 hD6.di.nd (file := 3) (by decide) hra
                    have a7 : (getF D7.fs 3).bs = framesB 0 xs := by rw [g7, if_pos rfl, a6, List.take_length]
                    have c7 : (getF D7.fs 4).bs = framesB 0 ys := by rw [g7, if_neg (by decide), c6]
                    obtain ⟨rb1, rb2⟩ := recs_frames (l := ys) (by omega) hym
                    have hrb : endP (getF D7.fs 4).bs (recsP (getF D7.fs 4).bs).length = (framesB 0 ys).length := by rw [c7, rb1, rb2]
                    refine WX.region rfl ?_
                    refine WXL.move Met.none rfl ?_
                    refine WXL.cl (O1 := dkO d bm D6 mx6 (N6 ++ B)) Met.none rfl (fnOk_of Try.func30 (by decide +kernel)) rfl sub_ (open_good _ d bm D6 D7 mx6 3 xs hD6 (fun g hg => hg.app_left) (by rw [a6]; omega) e7 (by rw [a6]; exact ra1)) (fun v O' hp => ?_)
                    obtain ⟨mx7, lg7, a7', c7', v7, G7, R7, rfl, hG7, hR7, rfl, hD7⟩ := hp
                    refine WXL.move Met.none rfl ?_
                    refine WXL.extract Met.none rfl rfl ?_
                    refine WXL.extract Met.none rfl rfl ?_
                    refine WXL.extract Met.none rfl rfl ?_
                    refine WXL.assign Met.none rfl ?_
                    refine WXL.assign Met.none rfl ?_
                    refine WXL.assign Met.none rfl ?_
                    refine WXL.nil ?_
                    refine Fin.then_normal ?_
                    refine WX.seq ?_
                    obtain ⟨D8, e8, s8, r8, u8, f8, g8⟩ := open_still s7 hD7.di.nd (file := 4) (by decide) hrb
                    refine WX.region rfl ?_
                    refine WXL.move Met.none rfl ?_
                    refine WXL.cl (O1 := dkO d bm D7 mx7 (lgO lg7 d 3 (xs.length : Nat) false :: (G7 ++ (R7 ++ (N6 ++ B))))) Met.none rfl (fnOk_of Try.func30 (by decide +kernel)) rfl sub_ (open_good _ d bm D7 D8 mx7 4 ys hD7 (fun g hg => hg.tail.app_right.app_right.app_left) (by rw [c7]; omega) e8 (by rw [c7]; exact rb1)) (fun v O' hp => ?_)
                    obtain ⟨mx8, lg8, a8, c8, v8, G8, R8, rfl, hG8, hR8, rfl, hD8⟩ := hp
                    refine WXL.move Met.none rfl ?_
                    refine WXL.extract Met.none rfl rfl ?_
                    refine WXL.extract Met.none rfl rfl ?_
                    refine WXL.extract Met.none rfl rfl ?_
                    refine WXL.assign Met.none rfl ?_
                    refine WXL.assign Met.none rfl ?_
                    refine WXL.assign Met.none rfl ?_
                    refine WXL.nil ?_
                    refine Fin.then_normal ?_
                    refine WX.seq ?_
                    refine WX.region rfl ?_
                    refine WXL.move Met.none rfl ?_
                    refine WXL.bin Met.none rfl rfl rfl ?_
                    refine WXL.move Met.none rfl ?_
                    refine WXL.split (d := 123) rfl (fun hg123 => ?_) (fun hg123 => ?_)
                    · try simp only [cnd] at hg123
                      exact (by simp at hg123) --end
                    · try simp only [cnd] at hg123
                      refine WXL.move (Met.some rfl rfl rfl) rfl ?_
                      refine WXL.bin (Met.some rfl rfl rfl) rfl rfl rfl ?_
                      refine WXL.pick_f Met.none rfl rfl ?_
                      refine WXL.move Met.none rfl ?_
                      refine WXL.split (d := 127) rfl (fun hg127 => ?_) (fun hg127 => ?_)
                      · try simp only [cnd] at hg127
                        exact (by simp at hg127) --end
                      · try simp only [cnd] at hg127
                        refine WXL.move (Met.some rfl rfl rfl) rfl ?_
                        refine WXL.move (Met.some rfl rfl rfl) rfl ?_
                        refine WXL.cl (O1 := _) (Met.some rfl rfl rfl) rfl (fnOk_of Try.func17 (by decide +kernel)) rfl (fun _ h => h) (sameLists_ok _ xs xs v7 vx a7' ax c7' cx (by omega) (fun y hy => by have := hxm y hy; omega) (Src.cons (Src.cons (Src.cons (Src.app (Src.app (Src.cons hG7.src)))))) (Src.cons (Src.cons (Src.cons (Src.app (Src.app (Src.cons (Src.app (Src.app (Src.app hsx))))))))) hR7.right.app.cons.app.app.cons.cons.cons hbx.app.app.app.cons.app.app.cons.cons.cons) (fun v O' hp => ?_)
                        obtain ⟨b1, rfl, hb1, rfl⟩ := hp
                        refine WXL.not (Met.some rfl rfl rfl) rfl ?_
                        refine WXL.pick_f Met.none rfl rfl ?_
                        refine WXL.move Met.none rfl ?_
                        refine WXL.split (d := 133) rfl (fun hg133 => ?_) (fun hg133 => ?_)
                        · try simp only [cnd] at hg133
                          exact (by rw [hg133] at hb1; simp at hb1) --end
                        · try simp only [cnd] at hg133
                          refine WXL.move (Met.some rfl rfl rfl) rfl ?_
                          refine WXL.move (Met.some rfl rfl rfl) rfl ?_
                          refine WXL.cl (O1 := _) (Met.some rfl rfl rfl) rfl (fnOk_of Try.func17 (by decide +kernel)) rfl (fun _ h => h) (sameLists_ok _ ys ys v8 vy a8 ay c8 cy (by omega) (fun y hy => by have := hym y hy; omega) (Src.cons (Src.cons (Src.cons hG8.src))) (Src.cons (Src.cons (Src.cons (Src.app (Src.app (Src.cons (Src.app (Src.app (Src.app hsy))))))))) hR8.right.app.cons.cons.cons hby.app.app.app.cons.app.app.cons.cons.cons) (fun v O' hp => ?_)
                          obtain ⟨b2, rfl, hb2, rfl⟩ := hp
                          refine WXL.not (Met.some rfl rfl rfl) rfl ?_
                          refine WXL.pick_f Met.none rfl rfl ?_
                          refine WXL.nil ?_
                          refine Fin.then_normal ?_
                          refine WX.cond rfl (fun hc5 => ?_) (fun hc5 => ?_)
                          · try simp only [cnd] at hc5
                            exact (by rw [hc5] at hb2; simp at hb2) --end
                          · try simp only [cnd] at hc5
                            refine WX.skip ?_
                            refine Fin.block_normal ?_
                            refine Fin.then_normal ?_
                            refine WX.re (O' := dkO d bm D8 mx8 (N6 ++ B)) ?_
                            refine WX.region rfl ?_
                            refine WXL.move Met.none rfl ?_
                            refine WXL.bin Met.none rfl rfl bvA ?_
                            refine WXL.assign Met.none rfl ?_
                            refine WXL.nil ?_
                            exact Fin.loop_next (⟨k + 1, D8, mx8, N6⟩ : ApS) ⟨⟨by simp only; omega, s8, by rw [g8, if_neg (by decide), a7], by rw [g8, if_pos rfl, c7, List.take_length], hD8⟩, rfl⟩ (by simp only; omega) (fun s hs => hs.tl [] 0)
                  · try simp only [cnd] at hc4
                    refine WX.exit ?_
                    refine Fin.then_exit ?_
                    refine Fin.loop_exit ?_
                    refine Fin.block_hit rfl ?_
                    refine Fin.then_normal ?_
                    refine WX.seq ?_
                    refine WX.region rfl ?_
                    refine WXL.cl (O1 := _) Met.none rfl (fnOk_of Try.func18 (by decide +kernel)) rfl (fun _ h => h) (lives_ok _) (fun v O' hp => ?_)
                    obtain ⟨rfl, hO⟩ := hp
                    subst O'
                    refine WXL.assign Met.none rfl ?_
                    refine WXL.nil ?_
                    refine Fin.then_normal ?_
                    refine WX.ret ?_
                    exact Fin.result (O' := []) (.inr rfl) rfl rfl (fun _ hs => ⟨by simp, fun p hp => by simp at hp, hs.wf⟩) rfl

end Go.Proofs.Ythekokdpplobhaa.Eng

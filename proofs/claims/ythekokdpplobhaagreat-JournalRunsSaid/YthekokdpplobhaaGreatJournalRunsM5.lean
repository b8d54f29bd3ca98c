/- The reference's crash, walked. | Both disks made new. | The reference's hash. | The reference's hash and frames. | The reference's frames. | The reference's reader: numbers. | The reference's reader: byte slices. | The reference's first record. | The reference's Scan. | Append to a file of a disk. | Open a log. | A log's Append, Len, Up; a fresh disk. | A log's Append. | The reference's log. | Open, whether it fails or not, on either disk. Own work; no condition. -/
import Derived.Test.YthekokdpplobhaaGreatJournalRunsM1
import Derived.Test.YthekokdpplobhaaGreatJournalRunsM2
import Derived.Test.YthekokdpplobhaaGreatJournalRunsM3
import Derived.Test.YthekokdpplobhaaGreatJournalRunsM4
set_option linter.unusedVariables false
set_option linter.unusedSimpArgs false
set_option maxRecDepth 8000
namespace Go.Proofs.YthekokdpplobhaaGreat.Eng
theorem sw (M : Rd) : (aL M).length ≤ 64 := oB M 64
theorem pv (M : Rd) : (aL M).Nodup := (List.nodup_range.filter _)
theorem eQ (M : Rd) (aq : List Int) (i : Nat) : aV M aq (i + 1) = aV M aq i ++ [gk M aq i] := by
 unfold aV
 rw [List.range_succ, List.map_append]
 rfl
theorem gY (M : Rd) (aq : List Int) {i : Nat} (hi : i ≤ (aL M).length) : (aV M aq i).map (·.1) = ((aL M).take i).map fun n => ((n : Nat) : Int) := by
 unfold aV
 rw [List.map_map]
 apply List.ext_getElem
 · rw [List.length_map, List.length_range, List.length_map, List.length_take]; omega
 · intro j h1 h2
   rw [List.length_map, List.length_range] at h1
   simp only [List.getElem_map, List.getElem_range, Function.comp, gk, List.getElem_take]
   rw [dx (by omega)]
theorem iT {M : Rd} {vs : List Value} {R : an} (h : fJ R M vs) (aq : List Int) {f : Nat} (hf : f < 64) (i : Nat) : ((jJ aq i (rm M f)).bs.length : Int) = nth M.F f + lf aq i (rm M f) ∧ 0 ≤ lf aq i (rm M f) ∧ nth M.F f + lf aq i (rm M f) ≤ ((nth M.B f).length : Nat) := by
 have hd := h.jX f hf
 have h1 := rz aq i (f := rm M f) hd
 have h2 := jU aq i (f := rm M f) hd
 exact ⟨h1, h2.1, h2.2⟩
theorem iZ {M : Rd} {vs : List Value} {R : an} (h : fJ R M vs) (aq : List Int) : ∀ i, i ≤ (aL M).length → av (aV M aq i) ≤ i * 16777216
 | 0, _ => Nat.zero_le _
 | i + 1, hi => by
  have h1 := iZ h aq i (by omega)
  have hm := (dS.1 (dK (show i < (aL M).length by omega))).1
  have h2 := h.len hm
  have h3 := iT h aq hm i
  rw [eQ, dM, Nat.succ_mul]
  have h4 : av [gk M aq i] ≤ 16777216 := by
   show bp (jJ aq i (rm M (nth (aL M) i))) + 0 ≤ 16777216
   unfold bp
   omega
  omega
def gr (at0 : Int) (ow : List bM) (q : Nat) : List bM := if 0 ≤ at0 ∧ at0.toNat / 8 < q then fA (at0.toNat / 8) (7 - at0.toNat % 8) ow else ow
theorem nY (k : Nat) : ∀ (p : Nat) (l : List (Int × Fi)), (fU p k l).map (·.1) = l.map (·.1)
 | _, [] => rfl
 | p, x :: l => by
  unfold fU
  split
  · rfl
  · rw [List.map_cons, List.map_cons, nY k _ l]
theorem lQ (M : Rd) (aq : List Int) (flip : Int) : (ca M aq flip).map (·.1) = (aL M).map fun n => ((n : Nat) : Int) := by
 have h := gY M aq (Nat.le_refl _)
 rw [List.take_length] at h
 unfold ca
 simp only
 split
 · rw [nY, h]
 · exact h
theorem rM (M : Rd) (aq : List Int) (flip : Int) : ((ca M aq flip).map (·.1)).Nodup := by
 rw [lQ]
 exact List.pairwise_map.2 ((pv M).imp fun q e => q (by omega))
theorem pX {M : Rd} {aq : List Int} {flip : Int} {n : Nat} (hn : n < 64) (h : ((n : Nat) : Int) ∉ (ca M aq flip).map (·.1)) : nth M.B n = [] := by
 rw [lQ] at h
 by_cases hz : nth M.B n = []
 · exact hz
 · exact absurd (List.mem_map.2 ⟨n, dS.2 ⟨hn, hz⟩, rfl⟩) h
theorem qC {M : Rd} {vs : List Value} {R : an} (h : fJ R M vs) (aq : List Int) (flip : Int) (n : Nat) : (((bH ((n : Nat) : Int) (ca M aq flip)).getD ⟨[], 0⟩).bs.length : Int) ≤ bS M n := by
 have hcut : ∀ f, bH ((n : Nat) : Int) (aV M aq (aL M).length) = some f → (f.bs.length : Int) ≤ bS M n := fun f hf => by
  obtain ⟨i, hi, he⟩ := List.mem_map.1 (fK hf)
  have hi := List.mem_range.1 hi
  unfold gk at he
  injection he with h1 h2
  have hm := (dS.1 (dK hi)).1
  have h3 := iT h aq hm i
  have hnn : nth (aL M) i = n := by omega
  rw [hnn] at h3 h2
  rw [← h2]
  unfold bS
  omega
 have key : ∀ f, bH ((n : Nat) : Int) (ca M aq flip) = some f → (f.bs.length : Int) ≤ bS M n := fun f hf => by
  unfold ca at hf
  simp only at hf
  split at hf
  · rcases oZ (flip.toNat % (8 * av (aV M aq (aL M).length)) / 8) (7 - flip.toNat % (8 * av (aV M aq (aL M).length)) % 8) (aV M aq (aL M).length) ((n : Nat) : Int) with ⟨h1, _⟩ | ⟨g, g', h1, h2, h3, h4, h5⟩
    · rw [hf] at h1; cases h1
    · rw [hf] at h2
      injection h2 with h2
      subst h2
      rw [h4]
      exact hcut g h1
  · exact hcut f hf
 cases hm : bH ((n : Nat) : Int) (ca M aq flip) with
 | none => exact jG M n
 | some f => exact key f hm
theorem pd {g h : Nat → Int} (hh : ∀ i, g i ≤ h i) : ∀ n, fj g n ≤ fj h n
 | 0 => Int.le_refl _
 | n + 1 => by
  have h1 := pd hh n
  have h2 := hh n
  show fj g n + g n ≤ fj h n + h n
  omega
theorem ov {M : Rd} {vs ws : List Value} {R0 : an} {ow : List bM} (h : fJ R0 M vs) {aq : List Int} {flip : Int} (hV : we M vs (ca M aq flip) ow ws) : fJ (aH ow ++ R0) (bV M aq flip) ws := by
 have hB : (bV M aq flip).B = nC M (ca M aq flip) := rfl
 have hlen : ∀ n, n < 64 → bS (bV M aq flip) n = (((bH ((n : Nat) : Int) (ca M aq flip)).getD ⟨[], 0⟩).bs.length : Nat) := fun n hn => by
  unfold bS
  rw [hB]
  unfold nC
  rw [cO _ hn]
 refine ⟨hV.len, by rw [hB]; unfold nC; simp, by unfold bV; simp, fun n hn => ?_, h.room, ?_, ⟨by show (-2 : Int) ≤ -1; decide, by show (-1 : Int) < _; decide⟩, fun n hn => ?_⟩
 · rw [hB]
   exact hV.file h (rM M aq flip) (fun n hn hk => pX hn hk) hn
 · have h1 : fC (bV M aq flip) = fj (fun n => (((bH ((n : Nat) : Int) (ca M aq flip)).getD ⟨[], 0⟩).bs.length : Nat)) 64 := gb hlen
   have h2 := pd (qC h aq flip) 64
   have h3 := h.used
   rw [h1]
   unfold fC at h3
   exact Int.le_trans h2 h3
 · have h1 : nth (bV M aq flip).F n = bS (bV M aq flip) n := by
     rw [hlen n hn]
     show nth ((List.range 64).map fun n => ((((bH ((n : Nat) : Int) (ca M aq flip)).getD ⟨[], 0⟩).bs.length : Nat) : Int)) n = _
     rw [cO _ hn]
   rw [h1]
   exact ⟨jG _ _, Int.le_refl _⟩
theorem fM {at0 : Int} {ow : List bM} {q : Nat} (h : ¬ (0 ≤ at0 ∧ at0.toNat / 8 = q)) : gr at0 ow (q + 1) = gr at0 ow q := by
 unfold gr
 by_cases h1 : 0 ≤ at0 ∧ at0.toNat / 8 < q
 · rw [if_pos h1, if_pos (by omega)]
 · rw [if_neg h1, if_neg (by omega)]
theorem nX {at0 : Int} {ow : List bM} {q : Nat} (h : 0 ≤ at0) (hq : at0.toNat / 8 = q) : gr at0 ow q = ow ∧ gr at0 ow (q + 1) = fA q (7 - at0.toNat % 8) ow := by
 unfold gr
 rw [if_neg (by omega), if_pos (by omega), hq]
 exact ⟨rfl, rfl⟩
set_option maxHeartbeats 2000000 in
theorem pc (R : an) {R0 : an} (r rb rf : Nat) (M : Rd) (vs : List Value) (aq : List Int) (ak : Option Addr) (ck : Nat) (flip : Int) (h : fJ R0 M vs) (hi : ∀ Q : Nat × gl → Bool, R0.countP Q ≤ R.countP Q) (hf64 : dG flip) (hkl : hJ aq) (hk : Src R 1 (.slice ak aq.length ck) aq.length (aq.map I)) :
  Spec Tryz.prog false 12 #[Ptr r 0, .slice ak aq.length ck, I flip] (aW r rb rf M vs R) fun v O' => ∃ vs' N, O' = aW r rb rf (bV M aq flip) vs' (N ++ R) ∧ fJ (N ++ R0) (bV M aq flip) vs' := by
 have hfl := sw M
 refine Spec.enter (args := [_, _, _]) (m := 178) Tryz.func12 rfl rfl (by decide +kernel) fun h0 => ?_
 refine WX.seq (WX.region rfl (zm rfl ?_))
 refine ae.cl (O1 := _) Met.none rfl (ah Tryz.func33 (by decide +kernel)) rfl (fun _ h => h) (tw R r rb rf M vs h) (fun v O' hp => ?_)
 obtain ⟨a6, c6, Gf, rfl, hGf, rfl⟩ := hp
 refine za rfl (zR rfl (za rfl (ae.nil (Fin.aa (WX.seq (WX.seq (WX.region rfl (za rfl (ae.nil (Fin.aa (WX.block ?_)))))))))))
 obtain ⟨B, hB⟩ : ∃ B, B = Gf ++ R := ⟨_, rfl⟩
 have hsF : Src B 1 (.slice a6 (aL M).length c6) (aL M).length (fg (aL M)) := hB ▸ hGf.src
 have hsK : Src B 1 (.slice ak aq.length ck) aq.length (aq.map I) := hB ▸ Src.app hk
 have hiB : ∀ Q : Nat × gl → Bool, R0.countP Q ≤ B.countP Q := fun Q => by
  have := hi Q
  rw [hB, List.countP_append]
  omega
 refine WX.re (O' := aW r rb rf M vs ([] ++ B)) ?_ (by rw [hB]; exact aC)
 refine WX.loop (fun q : Nat × List bM × List Value => [(0, Ptr r 0), (1, .slice ak aq.length ck), (2, I flip), (6, .slice a6 (aL M).length c6), (7, I ((av (aV M aq q.1) : Nat) : Int)), (8, I (q.1 : Int))]) (fun q => aW r rb rf M q.2.2 (aH q.2.1 ++ B)) (fun q => q.1 ≤ (aL M).length ∧ we M vs (aV M aq q.1) q.2.1 q.2.2) (fun q => (aL M).length - q.1) (0, [], vs) ⟨Nat.zero_le _, rfl, h.ik, (fun o ho => by simp at ho), fun n _ _ => rfl⟩ (fun s hs => hs.tl [] 0) (fun q hq => ?_)
 obtain ⟨i, ow, ws⟩ := q
 obtain ⟨hin, hV⟩ := hq
 simp only at hin hV
 dsimp only
 have hlo := iZ h aq i hin
 refine WX.seq (WX.seq (WX.region rfl (zm rfl (zm rfl (ae.len Met.none rfl Tryz.underlying22 (zb rfl rfl rfl (ae.nil (Fin.aa ?_))))))))
 refine WX.cond rfl (fun hc0 => ?_) (fun hc0 => ?_)
 · try simp only [aB] at hc0
   refine WX.skip (Fin.aa (WX.seq (WX.block (WX.seq ?_))))
   have hik : i < (aL M).length := by omega
   obtain ⟨f, hf⟩ : ∃ f, f = nth (aL M) i := ⟨_, rfl⟩
   have hfm : f ∈ aL M := hf ▸ dK hik
   have hf64' := (dS.1 hfm).1
   have hnot : ((f : Nat) : Int) ∉ ow.map (·.n) := by
    have e1 : ow.map (·.n) = (aV M aq i).map (·.1) := by rw [← hV.nf, List.map_map]; rfl
    rw [e1, gY M aq hin, List.mem_map]
    rintro ⟨g, hg, he⟩
    have : g = f := by omega
    subst this
    rw [List.mem_take_iff_getElem] at hg
    obtain ⟨j, hj, hje⟩ := hg
    rw [hf, dx hik] at hje
    have := (List.getElem_inj (pv M)).1 hje
    omega
   obtain ⟨fa, fc, hfv, hrow0, hnil, hfB⟩ := h.file f hf64'
   have hflen := h.len hf64'
   have hrow := hrow0.inc (R := aH ow ++ B) (fun g hg => hg.sub (by intro Q; have := hiB Q; simp only [List.countP_append]; omega))
   have hw : ws[f]? = some (.slice fa (nth M.B f).length fc) := by rw [← hfv, ← hV.other f hf64' hnot]; exact dq (by rw [hV.len]; exact hf64')
   have hFf : f < M.F.length := by rw [h.eD]; exact hf64'
   have hfd := h.jX f hf64'
   obtain ⟨cb, hcb⟩ : ∃ cb, cb = (jJ aq i (rm M f)).bs := ⟨_, rfl⟩
   obtain ⟨hcl, hk0, hk1⟩ := iT h aq hf64' i
   rw [← hcb] at hcl
   obtain ⟨kk, hkk⟩ : ∃ kk, kk = lf aq i (rm M f) := ⟨_, rfl⟩
   rw [← hkk] at hcl hk0 hk1
   have htk : (nth M.B f).take cb.length = cb := by
    rw [hcb]
    show (nth M.B f).take ((nth M.B f).take _).length = (nth M.B f).take _
    rw [List.length_take, ← List.take_take, List.take_length]
   have hkk2 : kk = if i < aq.length then max 0 (min (nth aq i) (((nth M.B f).length : Nat) - nth M.F f)) else 0 := hkk
   refine WX.region rfl (zm rfl (zm rfl ?_))
   first | refine ae.ix Met.none rfl rfl bh cj ?_ | refine ae.eH Met.none rfl rfl bh cj ?_
   first | refine ae.ld Met.none rfl bY ?_ (hv := (show (fg (aL M))[i]? = some (I ((f : Nat) : Int)) from by unfold fg; rw [hf]; exact bB _ _ _ hik)) | refine ae.ba Met.none rfl bY ?_ (hv := (show (fg (aL M))[i]? = some (I ((f : Nat) : Int)) from by unfold fg; rw [hf]; exact bB _ _ _ hik))
   refine za rfl (zR rfl (za rfl (ae.nil (Fin.aa (WX.seq (WX.seq (WX.region rfl (zm rfl (zm rfl (ae.len Met.none rfl Tryz.underlying22 (zb rfl rfl rfl (ae.nil (Fin.aa ?_)))))))))))))
   refine WX.cond rfl (fun hc1 => ?_) (fun hc1 => ?_)
   · try simp only [aB] at hc1
     rw [if_pos (by omega)] at hkk2
     refine WX.draw rfl ?_
     refine zm rfl (zm rfl ?_)
     first | refine ae.ix Met.none rfl rfl bh cj ?_ | refine ae.eH Met.none rfl rfl bh cj ?_
     first | refine ae.ld Met.none rfl bY ?_ (hv := (bB I _ i (by omega))) | refine ae.ba Met.none rfl bY ?_ (hv := (bB I _ i (by omega)))
     refine zm rfl (zn rfl ?_)
     first | refine ae.fieldAddr Met.none rfl Tryz.underlying50 rfl cH rfl ?_ | refine ae.bQ Met.none rfl Tryz.underlying50 rfl cH ?_
     first | refine ae.ld Met.none rfl bJ ?_ | refine ae.ba Met.none rfl bJ ?_
     refine zm rfl ?_
     first | refine ae.ix Met.none rfl rfl aR aO ?_ | refine ae.eH Met.none rfl rfl aR aO ?_
     first | refine ae.ld Met.none rfl aD ?_ (hv := hw) | refine ae.ba Met.none rfl aD ?_ (hv := hw)
     refine ae.len Met.none rfl Tryz.underlying39 (zm rfl (zn rfl ?_))
     first | refine ae.fieldAddr Met.none rfl Tryz.underlying50 rfl gF rfl ?_ | refine ae.bQ Met.none rfl Tryz.underlying50 rfl gF ?_
     first | refine ae.ld Met.none rfl dW ?_ | refine ae.ba Met.none rfl dW ?_
     refine zm rfl ?_
     first | refine ae.ix Met.none rfl rfl bh cj ?_ | refine ae.eH Met.none rfl rfl bh cj ?_
     first | refine ae.ld Met.none rfl bY ?_ (hv := (bB I _ f hFf)) | refine ae.ba Met.none rfl bY ?_ (hv := (bB I _ f hFf))
     refine zb rfl rfl nj ?_
     refine ae.min Met.none rfl rfl ?_
     refine ae.max Met.none rfl rfl ?_
     refine za rfl (zR rfl (za rfl (ae.nil (Fin.aa (WX.seq ?_)))))
     refine WX.draw rfl ?_
     refine zm rfl (zn rfl ?_)
     first | refine ae.fieldAddr Met.none rfl Tryz.underlying50 rfl cH rfl ?_ | refine ae.bQ Met.none rfl Tryz.underlying50 rfl cH ?_
     first | refine ae.ld Met.none rfl bJ ?_ | refine ae.ba Met.none rfl bJ ?_
     refine zm rfl (zm rfl (zm rfl (zn rfl ?_)))
     first | refine ae.fieldAddr Met.none rfl Tryz.underlying50 rfl cH rfl ?_ | refine ae.bQ Met.none rfl Tryz.underlying50 rfl cH ?_
     first | refine ae.ld Met.none rfl bJ ?_ | refine ae.ba Met.none rfl bJ ?_
     refine zm rfl ?_
     first | refine ae.ix Met.none rfl rfl aR aO ?_ | refine ae.eH Met.none rfl rfl aR aO ?_
     first | refine ae.ld Met.none rfl aD ?_ (hv := hw) | refine ae.ba Met.none rfl aD ?_ (hv := hw)
     refine zm rfl (zn rfl ?_)
     first | refine ae.fieldAddr Met.none rfl Tryz.underlying50 rfl gF rfl ?_ | refine ae.bQ Met.none rfl Tryz.underlying50 rfl gF ?_
     first | refine ae.ld Met.none rfl dW ?_ | refine ae.ba Met.none rfl dW ?_
     refine zm rfl ?_
     first | refine ae.ix Met.none rfl rfl bh cj ?_ | refine ae.eH Met.none rfl rfl bh cj ?_
     first | refine ae.ld Met.none rfl bY ?_ (hv := (bB I _ f hFf)) | refine ae.ba Met.none rfl bY ?_ (hv := (bB I _ f hFf))
     refine zm rfl (zb rfl rfl dH ?_)
     refine ae.pre (m := cb.length) Met.none rfl rfl aQ ea (bK.cons (bK.cons (bK.cons hrow))) hnil ?_
     have hpre := hrow.pre (m := cb.length) (by omega)
     rw [Nat.mul_one, ← List.map_take, htk] at hpre
     refine ae.mS [_, _, _] Met.none rfl rfl dQ aQ ea qt dA (Src.cons (Src.cons (Src.cons (hpre.src hpre.eh)))) (fun a78 c78 G78 hG78 => ?_) (hm := (by rw [List.length_map]; omega)) (hO := (show _ = [_, _, _] ++ ([] ++ (aH ow ++ B)) from rfl)) (hg := (Grow.nil (sz := 1)))
     first | refine ae.ix Met.none rfl rfl aR aO ?_ | refine ae.eH Met.none rfl rfl aR aO ?_
     refine ae.st (vs := [_]) (j := 1) Met.none rfl rfl rfl aO ?_ (hj := rfl) (hl := (by show f + 1 ≤ ws.length; rw [hV.len]; omega)) (hc := (jA (by rw [hV.len]; exact hf64')))
     refine ae.nil (Fin.aa (WX.region rfl (zm rfl (zm rfl (zb rfl rfl dH (za rfl (ae.nil (Fin.ag (Fin.aa ?_)))))))))
     refine WX.re (O' := aW r rb rf M (ws.set f (.slice a78 (0 + cb.length) c78)) ((aH ow ++ G78) ++ B)) ?_
     refine WX.region rfl (zm rfl (zb rfl rfl dH (za rfl (ae.nil ?_))))
     obtain ⟨o, ho⟩ : ∃ o : bM, o = ⟨((f : Nat) : Int), jJ aq i (rm M f), a78, c78, G78⟩ := ⟨_, rfl⟩
     have hcut : gk M aq i = bM.nf o := by unfold gk bM.nf; rw [← hf, ho]
     have hro : aH (ow ++ [o]) = aH ow ++ G78 := by
      rw [eb]
      show aH ow ++ (o.G ++ []) = _
      rw [List.append_nil, ho]
     have hlsn : av (aV M aq (i + 1)) = av (aV M aq i) + (cb.length - (nth M.F f).toNat) := by
      rw [eQ, dM, hcut]
      show _ + (bp o.f + 0) = _
      rw [ho]
      show _ + ((jJ aq i (rm M f)).bs.length - (nth M.F f).toNat + 0) = _
      rw [← hcb]
      omega
     have hG : Grow 1 a78 cb.length c78 (cb.map B8) G78 := by
      have := hG78
      rw [List.nil_append, Nat.zero_add] at this
      exact this
     refine Fin.aj (i + 1, ow ++ [o], ws.set f (.slice a78 (0 + cb.length) c78)) ⟨by simp only; omega, by simp only; rw [List.map_append, hV.nf, eQ, hcut]; rfl, by simp only [List.length_set]; exact hV.len, fun o' h' => ?_, fun m hm hmn => ?_⟩ (by simp only; omega) ?_
     · simp only
       rcases List.mem_append.1 h' with q | q
       · obtain ⟨q1, q2, q3, q4⟩ := hV.row o' q
         refine ⟨q1, q2, q3, ?_⟩
         rw [bZ (by rw [hV.len]; exact hf64'), if_neg (fun e => hnot (List.mem_map.2 ⟨o', q, by omega⟩))]
         exact q4
       · rw [List.mem_singleton] at q
         subst q
         rw [ho]
         simp only
         rw [← hcb]
         refine ⟨hG, by rw [← htk]; exact gm hfB, ⟨by omega, by omega⟩, ?_⟩
         rw [Int.toNat_natCast, bZ (by rw [hV.len]; exact hf64'), if_pos rfl, Nat.zero_add]
     · simp only at hmn ⊢
       rw [List.map_append, List.mem_append, not_or] at hmn
       rw [bZ (by rw [hV.len]; exact hf64'), if_neg (fun e => hmn.2 (by rw [ho, e]; simp))]
       exact hV.other m hm hmn.1
     · dsimp only
       rw [hro, hlsn]
       exact (fun s hs => hs.tl [] 0)
   · try simp only [aB] at hc1
     rw [if_neg (by omega)] at hkk2
     refine WX.skip (Fin.aa (WX.seq (WX.region rfl (za rfl (ae.nil (Fin.aa (WX.seq ?_)))))))
     refine WX.draw rfl ?_
     refine zm rfl (zn rfl ?_)
     first | refine ae.fieldAddr Met.none rfl Tryz.underlying50 rfl cH rfl ?_ | refine ae.bQ Met.none rfl Tryz.underlying50 rfl cH ?_
     first | refine ae.ld Met.none rfl bJ ?_ | refine ae.ba Met.none rfl bJ ?_
     refine zm rfl (zm rfl (zm rfl (zn rfl ?_)))
     first | refine ae.fieldAddr Met.none rfl Tryz.underlying50 rfl cH rfl ?_ | refine ae.bQ Met.none rfl Tryz.underlying50 rfl cH ?_
     first | refine ae.ld Met.none rfl bJ ?_ | refine ae.ba Met.none rfl bJ ?_
     refine zm rfl ?_
     first | refine ae.ix Met.none rfl rfl aR aO ?_ | refine ae.eH Met.none rfl rfl aR aO ?_
     first | refine ae.ld Met.none rfl aD ?_ (hv := hw) | refine ae.ba Met.none rfl aD ?_ (hv := hw)
     refine zm rfl (zn rfl ?_)
     first | refine ae.fieldAddr Met.none rfl Tryz.underlying50 rfl gF rfl ?_ | refine ae.bQ Met.none rfl Tryz.underlying50 rfl gF ?_
     first | refine ae.ld Met.none rfl dW ?_ | refine ae.ba Met.none rfl dW ?_
     refine zm rfl ?_
     first | refine ae.ix Met.none rfl rfl bh cj ?_ | refine ae.eH Met.none rfl rfl bh cj ?_
     first | refine ae.ld Met.none rfl bY ?_ (hv := (bB I _ f hFf)) | refine ae.ba Met.none rfl bY ?_ (hv := (bB I _ f hFf))
     refine zm rfl (zb rfl rfl dH ?_)
     refine ae.pre (m := cb.length) Met.none rfl rfl aQ ea (bK.cons (bK.cons (bK.cons hrow))) hnil ?_
     have hpre := hrow.pre (m := cb.length) (by omega)
     rw [Nat.mul_one, ← List.map_take, htk] at hpre
     refine ae.mS [_, _, _] Met.none rfl rfl dQ aQ ea qt dA (Src.cons (Src.cons (Src.cons (hpre.src hpre.eh)))) (fun a78 c78 G78 hG78 => ?_) (hm := (by rw [List.length_map]; omega)) (hO := (show _ = [_, _, _] ++ ([] ++ (aH ow ++ B)) from rfl)) (hg := (Grow.nil (sz := 1)))
     first | refine ae.ix Met.none rfl rfl aR aO ?_ | refine ae.eH Met.none rfl rfl aR aO ?_
     refine ae.st (vs := [_]) (j := 1) Met.none rfl rfl rfl aO ?_ (hj := rfl) (hl := (by show f + 1 ≤ ws.length; rw [hV.len]; omega)) (hc := (jA (by rw [hV.len]; exact hf64')))
     refine ae.nil (Fin.aa (WX.region rfl (zm rfl (zm rfl (zb rfl rfl dH (za rfl (ae.nil (Fin.ag (Fin.aa ?_)))))))))
     refine WX.re (O' := aW r rb rf M (ws.set f (.slice a78 (0 + cb.length) c78)) ((aH ow ++ G78) ++ B)) ?_
     refine WX.region rfl (zm rfl (zb rfl rfl dH (za rfl (ae.nil ?_))))
     obtain ⟨o, ho⟩ : ∃ o : bM, o = ⟨((f : Nat) : Int), jJ aq i (rm M f), a78, c78, G78⟩ := ⟨_, rfl⟩
     have hcut : gk M aq i = bM.nf o := by unfold gk bM.nf; rw [← hf, ho]
     have hro : aH (ow ++ [o]) = aH ow ++ G78 := by
      rw [eb]
      show aH ow ++ (o.G ++ []) = _
      rw [List.append_nil, ho]
     have hlsn : av (aV M aq (i + 1)) = av (aV M aq i) + (cb.length - (nth M.F f).toNat) := by
      rw [eQ, dM, hcut]
      show _ + (bp o.f + 0) = _
      rw [ho]
      show _ + ((jJ aq i (rm M f)).bs.length - (nth M.F f).toNat + 0) = _
      rw [← hcb]
      omega
     have hG : Grow 1 a78 cb.length c78 (cb.map B8) G78 := by
      have := hG78
      rw [List.nil_append, Nat.zero_add] at this
      exact this
     refine Fin.aj (i + 1, ow ++ [o], ws.set f (.slice a78 (0 + cb.length) c78)) ⟨by simp only; omega, by simp only; rw [List.map_append, hV.nf, eQ, hcut]; rfl, by simp only [List.length_set]; exact hV.len, fun o' h' => ?_, fun m hm hmn => ?_⟩ (by simp only; omega) ?_
     · simp only
       rcases List.mem_append.1 h' with q | q
       · obtain ⟨q1, q2, q3, q4⟩ := hV.row o' q
         refine ⟨q1, q2, q3, ?_⟩
         rw [bZ (by rw [hV.len]; exact hf64'), if_neg (fun e => hnot (List.mem_map.2 ⟨o', q, by omega⟩))]
         exact q4
       · rw [List.mem_singleton] at q
         subst q
         rw [ho]
         simp only
         rw [← hcb]
         refine ⟨hG, by rw [← htk]; exact gm hfB, ⟨by omega, by omega⟩, ?_⟩
         rw [Int.toNat_natCast, bZ (by rw [hV.len]; exact hf64'), if_pos rfl, Nat.zero_add]
     · simp only at hmn ⊢
       rw [List.map_append, List.mem_append, not_or] at hmn
       rw [bZ (by rw [hV.len]; exact hf64'), if_neg (fun e => hmn.2 (by rw [ho, e]; simp))]
       exact hV.other m hm hmn.1
     · dsimp only
       rw [hro, hlsn]
       exact (fun s hs => hs.tl [] 0)
 · try simp only [aB] at hc0
   refine WX.exit (Fin.aF (Fin.aN (Fin.aK rfl (Fin.aa (WX.seq ?_)))))
   have hie : i = (aL M).length := by omega
   obtain ⟨S, hS⟩ : ∃ S, S = av (aV M aq (aL M).length) := ⟨_, rfl⟩
   rw [hie, ← hS]
   rw [hie] at hV hlo
   rw [← hS] at hlo
   have hSb : S ≤ 1073741824 := by
    have : (aL M).length * 16777216 ≤ 64 * 16777216 := Nat.mul_le_mul_right _ hfl
    omega
   refine WX.region rfl (za rfl (ae.nil (Fin.aa (WX.seq (WX.seq (WX.region rfl (zm rfl (zb rfl rfl rfl (zm rfl ?_)))))))))
   refine ae.split (d := 85) rfl (fun hg85 => ?_) (fun hg85 => ?_)
   · try simp only [aB] at hg85
     refine ae.move (Met.some rfl rfl rfl) rfl (ae.bin (Met.some rfl rfl rfl) rfl rfl rfl (ae.bC Met.none rfl rfl (ae.nil (Fin.aa ?_))))
     refine WX.cond rfl (fun hc2 => ?_) (fun hc2 => ?_)
     · try simp only [aB] at hc2
       obtain ⟨A, hA⟩ : ∃ A, A = flip.toNat % (8 * S) := ⟨_, rfl⟩
       have hAm : flip.tmod (8 * (S : Int)) = ((A : Nat) : Int) := by
        rw [Int.tmod_eq_emod_of_nonneg (by omega), hA, Int.natCast_emod, Int.natCast_mul, Int.toNat_of_nonneg (by omega)]
        rfl
       have hAlt : A < 8 * S := by rw [hA]; exact Nat.mod_lt _ (by omega)
       refine WX.region rfl (zm rfl (zm rfl (zb rfl rfl ug ?_)))
       refine ae.rem Met.none rfl rfl (by omega) ?_
       rw [hAm]
       obtain ⟨at0, hat, hat2, hcr⟩ : ∃ at0 : Int, at0 = ((A : Nat) : Int) ∧ (at0 = -1 ∨ (0 ≤ at0 ∧ at0 < 8 * (S : Int))) ∧ ca M aq flip = (if 0 ≤ at0 then fU (at0.toNat / 8) (7 - at0.toNat % 8) (aV M aq (aL M).length) else aV M aq (aL M).length) := ⟨(A : Nat), rfl, .inr ⟨by omega, by omega⟩, by
        unfold ca
        simp only
        rw [← hS, if_pos (show 0 ≤ flip ∧ 0 < 8 * S by omega), if_pos (show (0 : Int) ≤ ((A : Nat) : Int) by omega), Int.toNat_natCast, hA]⟩
       refine za rfl (ae.nil (Fin.aa (WX.seq (WX.seq ?_))))
       have hkeys : ow.map (·.n) = (aL M).map fun n => ((n : Nat) : Int) := by
        have e1 : ow.map (·.n) = (aV M aq (aL M).length).map (·.1) := by rw [← hV.nf, List.map_map]; rfl
        rw [e1, gY M aq (Nat.le_refl _), List.take_length]
       have howl : ow.length = (aL M).length := by
        have := congrArg List.length hkeys
        simpa using this
       refine WX.region rfl (za rfl (ae.nil (Fin.aa (WX.block ?_))))
       refine WX.re (O' := aW r rb rf M ws (aH (gr at0 ow (av (aV M aq 0))) ++ B)) ?_ (by rw [show gr at0 ow (av (aV M aq 0)) = ow from by unfold gr; rw [if_neg (by show ¬ (0 ≤ at0 ∧ at0.toNat / 8 < 0); omega)]]; exact fun _ hs => hs)
       refine WX.loop (fun j : Nat => [(0, Ptr r 0), (6, .slice a6 (aL M).length c6), (12, I (at0 - 8 * ((av (aV M aq j) : Nat) : Int))), (13, I (j : Int))]) (fun j => aW r rb rf M ws (aH (gr at0 ow (av (aV M aq j))) ++ B)) (fun j => j ≤ (aL M).length) (fun j => (aL M).length - j) 0 (Nat.zero_le _) (fun s hs => by rw [show ((av (aV M aq 0) : Nat) : Int) = 0 from rfl]; exact hs.tl [] 0) (fun j hj => ?_)
       have hlj := iZ h aq j hj
       refine WX.seq (WX.seq (WX.region rfl (zm rfl (zm rfl (ae.len Met.none rfl Tryz.underlying22 (zb rfl rfl rfl (ae.nil (Fin.aa ?_))))))))
       refine WX.cond rfl (fun hc3 => ?_) (fun hc3 => ?_)
       · try simp only [aB] at hc3
         refine WX.skip (Fin.aa (WX.seq (WX.block (WX.seq ?_))))
         have hjk : j < (aL M).length := by omega
         obtain ⟨f, hf⟩ : ∃ f, f = nth (aL M) j := ⟨_, rfl⟩
         have hfm : f ∈ aL M := hf ▸ dK hjk
         have hf64' := (dS.1 hfm).1
         have hFf : f < M.F.length := by rw [h.eD]; exact hf64'
         have hfd := h.jX f hf64'
         obtain ⟨dn, hdn⟩ : ∃ dn : Nat, nth M.F f = ((dn : Nat) : Int) := ⟨(nth M.F f).toNat, by omega⟩
         obtain ⟨o, ho⟩ : ∃ o : bM, o = ow[j]'(by omega) := ⟨_, rfl⟩
         have hom : o ∈ ow := ho ▸ List.getElem_mem _
         have honf : bM.nf o = gk M aq j := by
          have h1 : (ow.map bM.nf)[j]'(by rw [List.length_map]; omega) = bM.nf o := by rw [List.getElem_map, ho]
          rw [← h1]
          simp only [hV.nf, aV, List.getElem_map, List.getElem_range]
         have hon : o.n = ((f : Nat) : Int) := by
          have := congrArg Prod.fst honf
          rw [hf]
          exact this
         have hof : o.f = jJ aq j (rm M f) := by
          have := congrArg Prod.snd honf
          rw [hf]
          exact this
         have hod : o.f.d = ((dn : Nat) : Int) := by rw [hof, ← hdn]; rfl
         obtain ⟨hoG, hoB, _, hov⟩ := hV.row o hom
         rw [hon, Int.toNat_natCast] at hov
         have hwf : ws[f]? = some (.slice o.a o.f.bs.length o.c) := by rw [← hov]; exact dq (by rw [hV.len]; exact hf64')
         have hocl := iT h aq hf64' j
         rw [← hof] at hocl
         have hflen := h.len hf64'
         have hln : bp o.f = o.f.bs.length - dn := by unfold bp; rw [hod, Int.toNat_natCast]
         have hsj : av (aV M aq (j + 1)) = av (aV M aq j) + bp o.f := by
          rw [eQ, dM, ← honf]
          rfl
         have hsplit : ow = ow.take j ++ o :: ow.drop (j + 1) := by rw [ho, List.getElem_cons_drop, List.take_append_drop]
         have hst : av ((ow.take j).map bM.nf) = av (aV M aq j) := by
          rw [List.map_take, hV.nf]
          unfold aV
          rw [← List.map_take, List.take_range, Nat.min_eq_left (by omega)]
         refine WX.region rfl (zm rfl (zm rfl ?_))
         first | refine ae.ix Met.none rfl rfl bh cj ?_ | refine ae.eH Met.none rfl rfl bh cj ?_
         first | refine ae.ld Met.none rfl bY ?_ (hv := (show (fg (aL M))[j]? = some (I ((f : Nat) : Int)) from by unfold fg; rw [hf]; exact bB _ _ _ hjk)) | refine ae.ba Met.none rfl bY ?_ (hv := (show (fg (aL M))[j]? = some (I ((f : Nat) : Int)) from by unfold fg; rw [hf]; exact bB _ _ _ hjk))
         refine za rfl (zR rfl (zm rfl (zn rfl ?_)))
         first | refine ae.fieldAddr Met.none rfl Tryz.underlying50 rfl gF rfl ?_ | refine ae.bQ Met.none rfl Tryz.underlying50 rfl gF ?_
         first | refine ae.ld Met.none rfl dW ?_ | refine ae.ba Met.none rfl dW ?_
         refine zm rfl ?_
         first | refine ae.ix Met.none rfl rfl bh cj ?_ | refine ae.eH Met.none rfl rfl bh cj ?_
         first | refine ae.ld Met.none rfl bY ?_ (hv := (bB I _ f hFf)) | refine ae.ba Met.none rfl bY ?_ (hv := (bB I _ f hFf))
         refine za rfl (ae.nil (Fin.aa (WX.block ?_)))
         refine WX.loop (fun rr : Nat => [(0, Ptr r 0), (6, .slice a6 (aL M).length c6), (12, I (at0 - 8 * (((av (aV M aq j) + rr : Nat)) : Int))), (13, I (j : Int)), (14, I (f : Int)), (15, I ((dn + rr : Nat) : Int))]) (fun rr => aW r rb rf M ws (aH (gr at0 ow (av (aV M aq j) + rr)) ++ B)) (fun rr => rr ≤ bp o.f) (fun rr => bp o.f - rr) 0 (Nat.zero_le _) (fun s hs => hs.tl [] 0) (fun rr hrr => ?_)
         refine WX.seq (WX.seq (WX.region rfl (zm rfl (zm rfl (zn rfl ?_)))))
         first | refine ae.fieldAddr Met.none rfl Tryz.underlying50 rfl cH rfl ?_ | refine ae.bQ Met.none rfl Tryz.underlying50 rfl cH ?_
         first | refine ae.ld Met.none rfl bJ ?_ | refine ae.ba Met.none rfl bJ ?_
         refine zm rfl ?_
         first | refine ae.ix Met.none rfl rfl aR aO ?_ | refine ae.eH Met.none rfl rfl aR aO ?_
         first | refine ae.ld Met.none rfl aD ?_ (hv := hwf) | refine ae.ba Met.none rfl aD ?_ (hv := hwf)
         refine ae.len Met.none rfl Tryz.underlying39 (zb rfl rfl rfl (ae.nil (Fin.aa ?_)))
         refine WX.cond rfl (fun hc4 => ?_) (fun hc4 => ?_)
         · try simp only [aB] at hc4
           refine WX.skip (Fin.aa (WX.seq (WX.block (WX.seq (WX.seq (WX.region rfl (zm rfl (zb rfl rfl rfl (zm rfl ?_)))))))))
           refine ae.split (d := 124) rfl (fun hg124 => ?_) (fun hg124 => ?_)
           · try simp only [aB] at hg124
             refine ae.move (Met.some rfl rfl rfl) rfl (ae.bin (Met.some rfl rfl rfl) rfl rfl rfl (ae.bC Met.none rfl rfl (ae.nil (Fin.aa ?_))))
             refine WX.cond rfl (fun hc5 => ?_) (fun hc5 => ?_)
             · try simp only [aB] at hc5
               have hrl : rr < bp o.f := by omega
               have ha0 : 0 ≤ at0 := by omega
               have hp : at0.toNat / 8 = av (aV M aq j) + rr := by omega
               obtain ⟨q1, q2⟩ := nX (ow := ow) ha0 hp
               obtain ⟨b, hoa, hoGe⟩ : ∃ b, o.a = some ⟨b, 0, none⟩ ∧ o.G = [(b, ⟨1, false, o.f.bs.map B8⟩)] := by
                rcases hoG with ⟨_, h0, _⟩ | ⟨b, h1, h2, _⟩
                · omega
                · exact ⟨b, h1, h2⟩
               have hrs : aH (gr at0 ow (av (aV M aq j) + rr)) = aH (ow.take j) ++ ([(b, ⟨1, false, o.f.bs.map B8⟩)] ++ aH (ow.drop (j + 1))) := by
                rw [q1]
                conv => lhs; rw [hsplit]
                rw [eb, eU, hoGe]
               have hzl : dn + rr < o.f.bs.length := by omega
               have hwf2 : ws[f]? = some (.slice (some ⟨b, 0, none⟩) o.f.bs.length o.c) := by rw [← hoa]; exact hwf
               have hk7 : (7 : Int) - (at0 - 8 * (((av (aV M aq j) + rr : Nat)) : Int)) = ((7 - at0.toNat % 8 : Nat) : Int) := by omega
               have hrs2 : aH (gr at0 ow (av (aV M aq j) + (rr + 1))) = aH (ow.take j) ++ ([(b, ⟨1, false, (o.f.bs.set (dn + rr) (gO (nth o.f.bs (dn + rr)) (7 - at0.toNat % 8))).map B8⟩)] ++ aH (ow.drop (j + 1))) := by
                rw [← Nat.add_assoc, q2]
                conv => lhs; rw [hsplit, ← hst]
                rw [kr _ rr hrl, eb, eU]
                congr 1
                unfold fe
                simp only [hoa, hod, Int.toNat_natCast]
               rw [hrs]
               refine WX.re (O' := (b, ⟨1, false, o.f.bs.map B8⟩) :: aW r rb rf M ws ((aH (ow.take j) ++ aH (ow.drop (j + 1))) ++ B)) ?_
               refine WX.draw rfl ?_
               refine zm rfl (zn rfl ?_)
               first | refine ae.fieldAddr Met.none rfl Tryz.underlying50 rfl cH rfl ?_ | refine ae.bQ Met.none rfl Tryz.underlying50 rfl cH ?_
               first | refine ae.ld Met.none rfl bJ ?_ | refine ae.ba Met.none rfl bJ ?_
               refine zm rfl ?_
               first | refine ae.ix Met.none rfl rfl aR aO ?_ | refine ae.eH Met.none rfl rfl aR aO ?_
               first | refine ae.ld Met.none rfl aD ?_ (hv := hwf2) | refine ae.ba Met.none rfl aD ?_ (hv := hwf2)
               refine zm rfl (zm rfl (zn rfl ?_))
               first | refine ae.fieldAddr Met.none rfl Tryz.underlying50 rfl cH rfl ?_ | refine ae.bQ Met.none rfl Tryz.underlying50 rfl cH ?_
               first | refine ae.ld Met.none rfl bJ ?_ | refine ae.ba Met.none rfl bJ ?_
               refine zm rfl ?_
               first | refine ae.ix Met.none rfl rfl aR aO ?_ | refine ae.eH Met.none rfl rfl aR aO ?_
               first | refine ae.ld Met.none rfl aD ?_ (hv := hwf2) | refine ae.ba Met.none rfl aD ?_ (hv := hwf2)
               refine zm rfl ?_
               first | refine ae.ix Met.none rfl rfl aQ ea ?_ | refine ae.eH Met.none rfl rfl aQ ea ?_
               first | refine ae.ld Met.none rfl iU ?_ (hv := (bB _ _ _ hzl)) | refine ae.ba Met.none rfl iU ?_ (hv := (bB _ _ _ hzl))
               refine zm rfl (zb rfl rfl nj ?_)
               rw [hk7]
               refine ae.conv Met.none rfl Tryz.underlying3 Tryz.underlying70 (wrap_u64 (by omega) (by omega)) ?_
               refine ae.shl Met.none rfl rfl (by omega) ?_
               refine ae.bin Met.none rfl rfl (show _ = some (B8 (gO (nth o.f.bs (dn + rr)) (7 - at0.toNat % 8))) from rfl) ?_
               first | refine ae.ix Met.none rfl rfl aQ ea ?_ | refine ae.eH Met.none rfl rfl aQ ea ?_
               refine ae.st (vs := [_]) (j := 0) Met.none rfl rfl rfl ea ?_ (hj := rfl)
               refine ae.nil (Fin.aa ?_)
               first
               | refine WX.re (O' := aW r rb rf M ws (aH (gr at0 ow (av (aV M aq j) + (rr + 1))) ++ B)) ?_ (by rw [hrs2]; exact aC)
               | refine WX.re (O' := aW r rb rf M ws (aH (gr at0 ow (av (aV M aq j) + (rr + 1))) ++ B)) ?_ (by rw [← Nat.add_assoc, fM (by omega)]; exact fun _ hs => hs)
               refine WX.region rfl (zm rfl (zb rfl rfl nj (za rfl (ae.nil (Fin.ag (Fin.aa (WX.region rfl (zm rfl (zb rfl rfl dH (za rfl (ae.nil ?_)))))))))))
               exact Fin.aj (rr + 1) (by omega) (by omega) (fun s hs => hs.tl [] 0)
             · try simp only [aB] at hc5
               refine WX.skip (Fin.aa ?_)
               first
               | refine WX.re (O' := aW r rb rf M ws (aH (gr at0 ow (av (aV M aq j) + (rr + 1))) ++ B)) ?_ (by rw [hrs2]; exact aC)
               | refine WX.re (O' := aW r rb rf M ws (aH (gr at0 ow (av (aV M aq j) + (rr + 1))) ++ B)) ?_ (by rw [← Nat.add_assoc, fM (by omega)]; exact fun _ hs => hs)
               refine WX.region rfl (zm rfl (zb rfl rfl nj (za rfl (ae.nil (Fin.ag (Fin.aa (WX.region rfl (zm rfl (zb rfl rfl dH (za rfl (ae.nil ?_)))))))))))
               exact Fin.aj (rr + 1) (by omega) (by omega) (fun s hs => hs.tl [] 0)
           · try simp only [aB] at hg124
             refine zs 2 124 rfl rfl rfl (zs 2 124 rfl rfl rfl (ae.bd Met.none rfl rfl (ae.nil (Fin.aa ?_))))
             refine WX.cond rfl (fun hc5 => nomatch hc5) (fun hc5 => ?_)
             refine WX.skip (Fin.aa ?_)
             first
             | refine WX.re (O' := aW r rb rf M ws (aH (gr at0 ow (av (aV M aq j) + (rr + 1))) ++ B)) ?_ (by rw [hrs2]; exact aC)
             | refine WX.re (O' := aW r rb rf M ws (aH (gr at0 ow (av (aV M aq j) + (rr + 1))) ++ B)) ?_ (by rw [← Nat.add_assoc, fM (by omega)]; exact fun _ hs => hs)
             refine WX.region rfl (zm rfl (zb rfl rfl nj (za rfl (ae.nil (Fin.ag (Fin.aa (WX.region rfl (zm rfl (zb rfl rfl dH (za rfl (ae.nil ?_)))))))))))
             exact Fin.aj (rr + 1) (by omega) (by omega) (fun s hs => hs.tl [] 0)
         · try simp only [aB] at hc4
           refine WX.exit (Fin.aF (Fin.aN (Fin.aK rfl (Fin.ag (Fin.aa ?_)))))
           have hre : rr = bp o.f := by omega
           subst hre
           rw [← hsj]
           refine WX.region rfl (zm rfl (zb rfl rfl dH (za rfl (ae.nil ?_))))
           exact Fin.aj (j + 1) (by omega) (by omega) (fun s hs => hs.tl [] 0)
       · try simp only [aB] at hc3
         refine WX.exit (Fin.aF (Fin.aN (Fin.aK rfl (Fin.aa (WX.seq (WX.seq ?_))))))
         have hje : j = (aL M).length := by omega
         rw [hje, ← hS]
         have hVF : we M vs (ca M aq flip) (gr at0 ow S) ws := by
          rw [hcr]
          unfold gr
          rcases hat2 with h1 | ⟨h1, h2⟩
          · rw [if_neg (by omega), if_neg (by omega)]; exact hV
          · rw [if_pos h1, if_pos (by omega)]; exact hV.flip _ _
         have hIF := ov h hVF
         obtain ⟨M3, hM3⟩ : ∃ M3 : Rd, M3 = ⟨M.room, (bV M aq flip).B, M.F, M.off, M.cB⟩ := ⟨_, rfl⟩
         have hF3 : M3.F.length = 64 := by rw [hM3]; exact h.eD
         generalize gr at0 ow S = owF at hVF hIF ⊢
         refine WX.region rfl (za rfl (ae.nil (Fin.aa (WX.block ?_))))
         refine WX.re (O' := aW r rb rf ⟨M.room, M.B, eM M3 0, M.off, M.cB⟩ ws (aH owF ++ B)) ?_ (by rw [show eM M3 0 = M.F from by rw [hM3]; rfl]; exact fun _ hs => hs)
         refine WX.loop (fun i : Nat => [(0, Ptr r 0), (16, I (i : Int))]) (fun i => aW r rb rf ⟨M.room, M.B, eM M3 i, M.off, M.cB⟩ ws (aH owF ++ B)) (fun i => i ≤ 64) (fun i => 64 - i) 0 (by decide) (fun s hs => hs.tl [] 0) (fun i hi => ?_)
         refine WX.seq (WX.seq (WX.region rfl (zm rfl (zb rfl rfl rfl (ae.nil (Fin.aa ?_))))))
         refine WX.cond rfl (fun hc6 => ?_) (fun hc6 => ?_)
         · try simp only [aB] at hc6
           refine WX.skip (Fin.aa (WX.seq (WX.block ?_)))
           have hi64 : i < 64 := by omega
           obtain ⟨a, c, ev, _⟩ := hIF.file i hi64
           have hv : ws[i]? = some (.slice a (nth (bV M aq flip).B i).length c) := by rw [← ev]; exact dq (by rw [hVF.len]; exact hi64)
           have hfl3 := kR hF3 (i := i) (by omega)
           have hl3 : bS M3 i = ((nth (bV M aq flip).B i).length : Nat) := by unfold bS; rw [hM3]
           refine WX.draw rfl ?_
           refine zm rfl (zn rfl ?_)
           first | refine ae.fieldAddr Met.none rfl Tryz.underlying50 rfl gF rfl ?_ | refine ae.bQ Met.none rfl Tryz.underlying50 rfl gF ?_
           first | refine ae.ld Met.none rfl dW ?_ | refine ae.ba Met.none rfl dW ?_
           refine zm rfl (zm rfl (zn rfl ?_))
           first | refine ae.fieldAddr Met.none rfl Tryz.underlying50 rfl cH rfl ?_ | refine ae.bQ Met.none rfl Tryz.underlying50 rfl cH ?_
           first | refine ae.ld Met.none rfl bJ ?_ | refine ae.ba Met.none rfl bJ ?_
           refine zm rfl ?_
           first | refine ae.ix Met.none rfl rfl aR aO ?_ | refine ae.eH Met.none rfl rfl aR aO ?_
           first | refine ae.ld Met.none rfl aD ?_ (hv := hv) | refine ae.ba Met.none rfl aD ?_ (hv := hv)
           refine ae.len Met.none rfl Tryz.underlying39 ?_
           first | refine ae.ix Met.none rfl rfl bh cj ?_ | refine ae.eH Met.none rfl rfl bh cj ?_
           refine ae.st (vs := [_]) (j := 2) Met.none rfl rfl rfl cj ?_ (hj := rfl) (hl := (by rw [List.length_map, hfl3]; show i + 1 ≤ 64; omega)) (hc := (show dj (List.map I (eM M3 i)) i [I (((nth (bV M aq flip).B i).length : Nat) : Int)] = List.map I ((eM M3 i).set i (bS M3 i)) from by rw [hl3]; exact gh I _ i _ (by rw [hfl3]; exact hi64)))
           refine ae.nil (Fin.ag (Fin.aa (WX.region rfl (zm rfl (zb rfl rfl dH (za rfl (ae.nil ?_)))))))
           exact Fin.aj (i + 1) (by omega) (by omega) (fun s hs => by rw [← kK hF3 hi64]; exact hs.tl [] 0)
         · try simp only [aB] at hc6
           refine WX.exit (Fin.aF (Fin.aN (Fin.aK rfl (Fin.aa (WX.seq ?_)))))
           have hi6 : i = 64 := by omega
           rw [hi6, kB hF3]
           refine WX.region rfl (zm rfl (zn rfl ?_))
           first | refine ae.fieldAddr Met.none rfl Tryz.underlying50 rfl dm rfl ?_ | refine ae.bQ Met.none rfl Tryz.underlying50 rfl dm ?_
           refine ae.st (vs := [_]) (j := 0) Met.none rfl rfl rfl dm ?_ (hj := rfl)
           refine ae.nil (Fin.aa (WX.region rfl (zm rfl (zn rfl ?_))))
           first | refine ae.fieldAddr Met.none rfl Tryz.underlying50 rfl cj rfl ?_ | refine ae.bQ Met.none rfl Tryz.underlying50 rfl cj ?_
           refine ae.st (vs := [_]) (j := 0) Met.none rfl rfl rfl cj ?_ (hj := rfl)
           refine ae.nil ?_
           exact Fin.result (O' := aW r rb rf ⟨M.room, (bV M aq flip).B, (bV M aq flip).F, false, -1⟩ ws (aH owF ++ R)) (.inl rfl) rfl rfl (by
            have e1 : (List.range 64).map (bS M3) = (bV M aq flip).F := by
             show (List.range 64).map (bS M3) = (List.range 64).map fun n => ((((bH ((n : Nat) : Int) (ca M aq flip)).getD ⟨[], 0⟩).bs.length : Nat) : Int)
             refine List.map_congr_left fun n hn => ?_
             have hn := List.mem_range.1 hn
             unfold bS
             rw [hM3]
             show (((nth ((List.range 64).map fun n => ((bH ((n : Nat) : Int) (ca M aq flip)).getD ⟨[], 0⟩).bs) n).length : Nat) : Int) = _
             rw [cO _ hn]
            rw [e1, hB]
            intro g hg
            have hg2 : Sat g (aW r rb rf ⟨M.room, (bV M aq flip).B, (bV M aq flip).F, false, -1⟩ ws (aH owF ++ (Gf ++ R))) := hg
            exact hg2.sub (by intro Q; simp only [List.countP_append, List.countP_cons]; omega)) ⟨ws, aH owF, rfl, hIF⟩
     · try simp only [aB] at hc2
       obtain ⟨at0, hat, hat2, hcr⟩ : ∃ at0 : Int, at0 = -1 ∧ (at0 = -1 ∨ (0 ≤ at0 ∧ at0 < 8 * (S : Int))) ∧ ca M aq flip = (if 0 ≤ at0 then fU (at0.toNat / 8) (7 - at0.toNat % 8) (aV M aq (aL M).length) else aV M aq (aL M).length) := ⟨-1, rfl, .inl rfl, by
        unfold ca
        simp only
        rw [← hS, if_neg (show ¬ (0 ≤ flip ∧ 0 < 8 * S) by omega), if_neg (show ¬ (0 : Int) ≤ -1 by decide)]⟩
       refine WX.skip (Fin.aa (WX.seq (WX.seq ?_)))
       have hkeys : ow.map (·.n) = (aL M).map fun n => ((n : Nat) : Int) := by
        have e1 : ow.map (·.n) = (aV M aq (aL M).length).map (·.1) := by rw [← hV.nf, List.map_map]; rfl
        rw [e1, gY M aq (Nat.le_refl _), List.take_length]
       have howl : ow.length = (aL M).length := by
        have := congrArg List.length hkeys
        simpa using this
       refine WX.region rfl (za rfl (ae.nil (Fin.aa (WX.block ?_))))
       refine WX.re (O' := aW r rb rf M ws (aH (gr at0 ow (av (aV M aq 0))) ++ B)) ?_ (by rw [show gr at0 ow (av (aV M aq 0)) = ow from by unfold gr; rw [if_neg (by show ¬ (0 ≤ at0 ∧ at0.toNat / 8 < 0); omega)]]; exact fun _ hs => hs)
       refine WX.loop (fun j : Nat => [(0, Ptr r 0), (6, .slice a6 (aL M).length c6), (12, I (at0 - 8 * ((av (aV M aq j) : Nat) : Int))), (13, I (j : Int))]) (fun j => aW r rb rf M ws (aH (gr at0 ow (av (aV M aq j))) ++ B)) (fun j => j ≤ (aL M).length) (fun j => (aL M).length - j) 0 (Nat.zero_le _) (fun s hs => by rw [show ((av (aV M aq 0) : Nat) : Int) = 0 from rfl]; exact hs.tl [] 0) (fun j hj => ?_)
       have hlj := iZ h aq j hj
       refine WX.seq (WX.seq (WX.region rfl (zm rfl (zm rfl (ae.len Met.none rfl Tryz.underlying22 (zb rfl rfl rfl (ae.nil (Fin.aa ?_))))))))
       refine WX.cond rfl (fun hc3 => ?_) (fun hc3 => ?_)
       · try simp only [aB] at hc3
         refine WX.skip (Fin.aa (WX.seq (WX.block (WX.seq ?_))))
         have hjk : j < (aL M).length := by omega
         obtain ⟨f, hf⟩ : ∃ f, f = nth (aL M) j := ⟨_, rfl⟩
         have hfm : f ∈ aL M := hf ▸ dK hjk
         have hf64' := (dS.1 hfm).1
         have hFf : f < M.F.length := by rw [h.eD]; exact hf64'
         have hfd := h.jX f hf64'
         obtain ⟨dn, hdn⟩ : ∃ dn : Nat, nth M.F f = ((dn : Nat) : Int) := ⟨(nth M.F f).toNat, by omega⟩
         obtain ⟨o, ho⟩ : ∃ o : bM, o = ow[j]'(by omega) := ⟨_, rfl⟩
         have hom : o ∈ ow := ho ▸ List.getElem_mem _
         have honf : bM.nf o = gk M aq j := by
          have h1 : (ow.map bM.nf)[j]'(by rw [List.length_map]; omega) = bM.nf o := by rw [List.getElem_map, ho]
          rw [← h1]
          simp only [hV.nf, aV, List.getElem_map, List.getElem_range]
         have hon : o.n = ((f : Nat) : Int) := by
          have := congrArg Prod.fst honf
          rw [hf]
          exact this
         have hof : o.f = jJ aq j (rm M f) := by
          have := congrArg Prod.snd honf
          rw [hf]
          exact this
         have hod : o.f.d = ((dn : Nat) : Int) := by rw [hof, ← hdn]; rfl
         obtain ⟨hoG, hoB, _, hov⟩ := hV.row o hom
         rw [hon, Int.toNat_natCast] at hov
         have hwf : ws[f]? = some (.slice o.a o.f.bs.length o.c) := by rw [← hov]; exact dq (by rw [hV.len]; exact hf64')
         have hocl := iT h aq hf64' j
         rw [← hof] at hocl
         have hflen := h.len hf64'
         have hln : bp o.f = o.f.bs.length - dn := by unfold bp; rw [hod, Int.toNat_natCast]
         have hsj : av (aV M aq (j + 1)) = av (aV M aq j) + bp o.f := by
          rw [eQ, dM, ← honf]
          rfl
         have hsplit : ow = ow.take j ++ o :: ow.drop (j + 1) := by rw [ho, List.getElem_cons_drop, List.take_append_drop]
         have hst : av ((ow.take j).map bM.nf) = av (aV M aq j) := by
          rw [List.map_take, hV.nf]
          unfold aV
          rw [← List.map_take, List.take_range, Nat.min_eq_left (by omega)]
         refine WX.region rfl (zm rfl (zm rfl ?_))
         first | refine ae.ix Met.none rfl rfl bh cj ?_ | refine ae.eH Met.none rfl rfl bh cj ?_
         first | refine ae.ld Met.none rfl bY ?_ (hv := (show (fg (aL M))[j]? = some (I ((f : Nat) : Int)) from by unfold fg; rw [hf]; exact bB _ _ _ hjk)) | refine ae.ba Met.none rfl bY ?_ (hv := (show (fg (aL M))[j]? = some (I ((f : Nat) : Int)) from by unfold fg; rw [hf]; exact bB _ _ _ hjk))
         refine za rfl (zR rfl (zm rfl (zn rfl ?_)))
         first | refine ae.fieldAddr Met.none rfl Tryz.underlying50 rfl gF rfl ?_ | refine ae.bQ Met.none rfl Tryz.underlying50 rfl gF ?_
         first | refine ae.ld Met.none rfl dW ?_ | refine ae.ba Met.none rfl dW ?_
         refine zm rfl ?_
         first | refine ae.ix Met.none rfl rfl bh cj ?_ | refine ae.eH Met.none rfl rfl bh cj ?_
         first | refine ae.ld Met.none rfl bY ?_ (hv := (bB I _ f hFf)) | refine ae.ba Met.none rfl bY ?_ (hv := (bB I _ f hFf))
         refine za rfl (ae.nil (Fin.aa (WX.block ?_)))
         refine WX.loop (fun rr : Nat => [(0, Ptr r 0), (6, .slice a6 (aL M).length c6), (12, I (at0 - 8 * (((av (aV M aq j) + rr : Nat)) : Int))), (13, I (j : Int)), (14, I (f : Int)), (15, I ((dn + rr : Nat) : Int))]) (fun rr => aW r rb rf M ws (aH (gr at0 ow (av (aV M aq j) + rr)) ++ B)) (fun rr => rr ≤ bp o.f) (fun rr => bp o.f - rr) 0 (Nat.zero_le _) (fun s hs => hs.tl [] 0) (fun rr hrr => ?_)
         refine WX.seq (WX.seq (WX.region rfl (zm rfl (zm rfl (zn rfl ?_)))))
         first | refine ae.fieldAddr Met.none rfl Tryz.underlying50 rfl cH rfl ?_ | refine ae.bQ Met.none rfl Tryz.underlying50 rfl cH ?_
         first | refine ae.ld Met.none rfl bJ ?_ | refine ae.ba Met.none rfl bJ ?_
         refine zm rfl ?_
         first | refine ae.ix Met.none rfl rfl aR aO ?_ | refine ae.eH Met.none rfl rfl aR aO ?_
         first | refine ae.ld Met.none rfl aD ?_ (hv := hwf) | refine ae.ba Met.none rfl aD ?_ (hv := hwf)
         refine ae.len Met.none rfl Tryz.underlying39 (zb rfl rfl rfl (ae.nil (Fin.aa ?_)))
         refine WX.cond rfl (fun hc4 => ?_) (fun hc4 => ?_)
         · try simp only [aB] at hc4
           refine WX.skip (Fin.aa (WX.seq (WX.block (WX.seq (WX.seq (WX.region rfl (zm rfl (zb rfl rfl rfl (zm rfl ?_)))))))))
           refine ae.split (d := 124) rfl (fun hg124 => ?_) (fun hg124 => ?_)
           · try simp only [aB] at hg124
             refine ae.move (Met.some rfl rfl rfl) rfl (ae.bin (Met.some rfl rfl rfl) rfl rfl rfl (ae.bC Met.none rfl rfl (ae.nil (Fin.aa ?_))))
             refine WX.cond rfl (fun hc5 => ?_) (fun hc5 => ?_)
             · try simp only [aB] at hc5
               have hrl : rr < bp o.f := by omega
               have ha0 : 0 ≤ at0 := by omega
               have hp : at0.toNat / 8 = av (aV M aq j) + rr := by omega
               obtain ⟨q1, q2⟩ := nX (ow := ow) ha0 hp
               obtain ⟨b, hoa, hoGe⟩ : ∃ b, o.a = some ⟨b, 0, none⟩ ∧ o.G = [(b, ⟨1, false, o.f.bs.map B8⟩)] := by
                rcases hoG with ⟨_, h0, _⟩ | ⟨b, h1, h2, _⟩
                · omega
                · exact ⟨b, h1, h2⟩
               have hrs : aH (gr at0 ow (av (aV M aq j) + rr)) = aH (ow.take j) ++ ([(b, ⟨1, false, o.f.bs.map B8⟩)] ++ aH (ow.drop (j + 1))) := by
                rw [q1]
                conv => lhs; rw [hsplit]
                rw [eb, eU, hoGe]
               have hzl : dn + rr < o.f.bs.length := by omega
               have hwf2 : ws[f]? = some (.slice (some ⟨b, 0, none⟩) o.f.bs.length o.c) := by rw [← hoa]; exact hwf
               have hk7 : (7 : Int) - (at0 - 8 * (((av (aV M aq j) + rr : Nat)) : Int)) = ((7 - at0.toNat % 8 : Nat) : Int) := by omega
               have hrs2 : aH (gr at0 ow (av (aV M aq j) + (rr + 1))) = aH (ow.take j) ++ ([(b, ⟨1, false, (o.f.bs.set (dn + rr) (gO (nth o.f.bs (dn + rr)) (7 - at0.toNat % 8))).map B8⟩)] ++ aH (ow.drop (j + 1))) := by
                rw [← Nat.add_assoc, q2]
                conv => lhs; rw [hsplit, ← hst]
                rw [kr _ rr hrl, eb, eU]
                congr 1
                unfold fe
                simp only [hoa, hod, Int.toNat_natCast]
               rw [hrs]
               refine WX.re (O' := (b, ⟨1, false, o.f.bs.map B8⟩) :: aW r rb rf M ws ((aH (ow.take j) ++ aH (ow.drop (j + 1))) ++ B)) ?_
               refine WX.draw rfl ?_
               refine zm rfl (zn rfl ?_)
               first | refine ae.fieldAddr Met.none rfl Tryz.underlying50 rfl cH rfl ?_ | refine ae.bQ Met.none rfl Tryz.underlying50 rfl cH ?_
               first | refine ae.ld Met.none rfl bJ ?_ | refine ae.ba Met.none rfl bJ ?_
               refine zm rfl ?_
               first | refine ae.ix Met.none rfl rfl aR aO ?_ | refine ae.eH Met.none rfl rfl aR aO ?_
               first | refine ae.ld Met.none rfl aD ?_ (hv := hwf2) | refine ae.ba Met.none rfl aD ?_ (hv := hwf2)
               refine zm rfl (zm rfl (zn rfl ?_))
               first | refine ae.fieldAddr Met.none rfl Tryz.underlying50 rfl cH rfl ?_ | refine ae.bQ Met.none rfl Tryz.underlying50 rfl cH ?_
               first | refine ae.ld Met.none rfl bJ ?_ | refine ae.ba Met.none rfl bJ ?_
               refine zm rfl ?_
               first | refine ae.ix Met.none rfl rfl aR aO ?_ | refine ae.eH Met.none rfl rfl aR aO ?_
               first | refine ae.ld Met.none rfl aD ?_ (hv := hwf2) | refine ae.ba Met.none rfl aD ?_ (hv := hwf2)
               refine zm rfl ?_
               first | refine ae.ix Met.none rfl rfl aQ ea ?_ | refine ae.eH Met.none rfl rfl aQ ea ?_
               first | refine ae.ld Met.none rfl iU ?_ (hv := (bB _ _ _ hzl)) | refine ae.ba Met.none rfl iU ?_ (hv := (bB _ _ _ hzl))
               refine zm rfl (zb rfl rfl nj ?_)
               rw [hk7]
               refine ae.conv Met.none rfl Tryz.underlying3 Tryz.underlying70 (wrap_u64 (by omega) (by omega)) ?_
               refine ae.shl Met.none rfl rfl (by omega) ?_
               refine ae.bin Met.none rfl rfl (show _ = some (B8 (gO (nth o.f.bs (dn + rr)) (7 - at0.toNat % 8))) from rfl) ?_
               first | refine ae.ix Met.none rfl rfl aQ ea ?_ | refine ae.eH Met.none rfl rfl aQ ea ?_
               refine ae.st (vs := [_]) (j := 0) Met.none rfl rfl rfl ea ?_ (hj := rfl)
               refine ae.nil (Fin.aa ?_)
               first
               | refine WX.re (O' := aW r rb rf M ws (aH (gr at0 ow (av (aV M aq j) + (rr + 1))) ++ B)) ?_ (by rw [hrs2]; exact aC)
               | refine WX.re (O' := aW r rb rf M ws (aH (gr at0 ow (av (aV M aq j) + (rr + 1))) ++ B)) ?_ (by rw [← Nat.add_assoc, fM (by omega)]; exact fun _ hs => hs)
               refine WX.region rfl (zm rfl (zb rfl rfl nj (za rfl (ae.nil (Fin.ag (Fin.aa (WX.region rfl (zm rfl (zb rfl rfl dH (za rfl (ae.nil ?_)))))))))))
               exact Fin.aj (rr + 1) (by omega) (by omega) (fun s hs => hs.tl [] 0)
             · try simp only [aB] at hc5
               refine WX.skip (Fin.aa ?_)
               first
               | refine WX.re (O' := aW r rb rf M ws (aH (gr at0 ow (av (aV M aq j) + (rr + 1))) ++ B)) ?_ (by rw [hrs2]; exact aC)
               | refine WX.re (O' := aW r rb rf M ws (aH (gr at0 ow (av (aV M aq j) + (rr + 1))) ++ B)) ?_ (by rw [← Nat.add_assoc, fM (by omega)]; exact fun _ hs => hs)
               refine WX.region rfl (zm rfl (zb rfl rfl nj (za rfl (ae.nil (Fin.ag (Fin.aa (WX.region rfl (zm rfl (zb rfl rfl dH (za rfl (ae.nil ?_)))))))))))
               exact Fin.aj (rr + 1) (by omega) (by omega) (fun s hs => hs.tl [] 0)
           · try simp only [aB] at hg124
             refine zs 2 124 rfl rfl rfl (zs 2 124 rfl rfl rfl (ae.bd Met.none rfl rfl (ae.nil (Fin.aa ?_))))
             refine WX.cond rfl (fun hc5 => nomatch hc5) (fun hc5 => ?_)
             refine WX.skip (Fin.aa ?_)
             first
             | refine WX.re (O' := aW r rb rf M ws (aH (gr at0 ow (av (aV M aq j) + (rr + 1))) ++ B)) ?_ (by rw [hrs2]; exact aC)
             | refine WX.re (O' := aW r rb rf M ws (aH (gr at0 ow (av (aV M aq j) + (rr + 1))) ++ B)) ?_ (by rw [← Nat.add_assoc, fM (by omega)]; exact fun _ hs => hs)
             refine WX.region rfl (zm rfl (zb rfl rfl nj (za rfl (ae.nil (Fin.ag (Fin.aa (WX.region rfl (zm rfl (zb rfl rfl dH (za rfl (ae.nil ?_)))))))))))
             exact Fin.aj (rr + 1) (by omega) (by omega) (fun s hs => hs.tl [] 0)
         · try simp only [aB] at hc4
           refine WX.exit (Fin.aF (Fin.aN (Fin.aK rfl (Fin.ag (Fin.aa ?_)))))
           have hre : rr = bp o.f := by omega
           subst hre
           rw [← hsj]
           refine WX.region rfl (zm rfl (zb rfl rfl dH (za rfl (ae.nil ?_))))
           exact Fin.aj (j + 1) (by omega) (by omega) (fun s hs => hs.tl [] 0)
       · try simp only [aB] at hc3
         refine WX.exit (Fin.aF (Fin.aN (Fin.aK rfl (Fin.aa (WX.seq (WX.seq ?_))))))
         have hje : j = (aL M).length := by omega
         rw [hje, ← hS]
         have hVF : we M vs (ca M aq flip) (gr at0 ow S) ws := by
          rw [hcr]
          unfold gr
          rcases hat2 with h1 | ⟨h1, h2⟩
          · rw [if_neg (by omega), if_neg (by omega)]; exact hV
          · rw [if_pos h1, if_pos (by omega)]; exact hV.flip _ _
         have hIF := ov h hVF
         obtain ⟨M3, hM3⟩ : ∃ M3 : Rd, M3 = ⟨M.room, (bV M aq flip).B, M.F, M.off, M.cB⟩ := ⟨_, rfl⟩
         have hF3 : M3.F.length = 64 := by rw [hM3]; exact h.eD
         generalize gr at0 ow S = owF at hVF hIF ⊢
         refine WX.region rfl (za rfl (ae.nil (Fin.aa (WX.block ?_))))
         refine WX.re (O' := aW r rb rf ⟨M.room, M.B, eM M3 0, M.off, M.cB⟩ ws (aH owF ++ B)) ?_ (by rw [show eM M3 0 = M.F from by rw [hM3]; rfl]; exact fun _ hs => hs)
         refine WX.loop (fun i : Nat => [(0, Ptr r 0), (16, I (i : Int))]) (fun i => aW r rb rf ⟨M.room, M.B, eM M3 i, M.off, M.cB⟩ ws (aH owF ++ B)) (fun i => i ≤ 64) (fun i => 64 - i) 0 (by decide) (fun s hs => hs.tl [] 0) (fun i hi => ?_)
         refine WX.seq (WX.seq (WX.region rfl (zm rfl (zb rfl rfl rfl (ae.nil (Fin.aa ?_))))))
         refine WX.cond rfl (fun hc6 => ?_) (fun hc6 => ?_)
         · try simp only [aB] at hc6
           refine WX.skip (Fin.aa (WX.seq (WX.block ?_)))
           have hi64 : i < 64 := by omega
           obtain ⟨a, c, ev, _⟩ := hIF.file i hi64
           have hv : ws[i]? = some (.slice a (nth (bV M aq flip).B i).length c) := by rw [← ev]; exact dq (by rw [hVF.len]; exact hi64)
           have hfl3 := kR hF3 (i := i) (by omega)
           have hl3 : bS M3 i = ((nth (bV M aq flip).B i).length : Nat) := by unfold bS; rw [hM3]
           refine WX.draw rfl ?_
           refine zm rfl (zn rfl ?_)
           first | refine ae.fieldAddr Met.none rfl Tryz.underlying50 rfl gF rfl ?_ | refine ae.bQ Met.none rfl Tryz.underlying50 rfl gF ?_
           first | refine ae.ld Met.none rfl dW ?_ | refine ae.ba Met.none rfl dW ?_
           refine zm rfl (zm rfl (zn rfl ?_))
           first | refine ae.fieldAddr Met.none rfl Tryz.underlying50 rfl cH rfl ?_ | refine ae.bQ Met.none rfl Tryz.underlying50 rfl cH ?_
           first | refine ae.ld Met.none rfl bJ ?_ | refine ae.ba Met.none rfl bJ ?_
           refine zm rfl ?_
           first | refine ae.ix Met.none rfl rfl aR aO ?_ | refine ae.eH Met.none rfl rfl aR aO ?_
           first | refine ae.ld Met.none rfl aD ?_ (hv := hv) | refine ae.ba Met.none rfl aD ?_ (hv := hv)
           refine ae.len Met.none rfl Tryz.underlying39 ?_
           first | refine ae.ix Met.none rfl rfl bh cj ?_ | refine ae.eH Met.none rfl rfl bh cj ?_
           refine ae.st (vs := [_]) (j := 2) Met.none rfl rfl rfl cj ?_ (hj := rfl) (hl := (by rw [List.length_map, hfl3]; show i + 1 ≤ 64; omega)) (hc := (show dj (List.map I (eM M3 i)) i [I (((nth (bV M aq flip).B i).length : Nat) : Int)] = List.map I ((eM M3 i).set i (bS M3 i)) from by rw [hl3]; exact gh I _ i _ (by rw [hfl3]; exact hi64)))
           refine ae.nil (Fin.ag (Fin.aa (WX.region rfl (zm rfl (zb rfl rfl dH (za rfl (ae.nil ?_)))))))
           exact Fin.aj (i + 1) (by omega) (by omega) (fun s hs => by rw [← kK hF3 hi64]; exact hs.tl [] 0)
         · try simp only [aB] at hc6
           refine WX.exit (Fin.aF (Fin.aN (Fin.aK rfl (Fin.aa (WX.seq ?_)))))
           have hi6 : i = 64 := by omega
           rw [hi6, kB hF3]
           refine WX.region rfl (zm rfl (zn rfl ?_))
           first | refine ae.fieldAddr Met.none rfl Tryz.underlying50 rfl dm rfl ?_ | refine ae.bQ Met.none rfl Tryz.underlying50 rfl dm ?_
           refine ae.st (vs := [_]) (j := 0) Met.none rfl rfl rfl dm ?_ (hj := rfl)
           refine ae.nil (Fin.aa (WX.region rfl (zm rfl (zn rfl ?_))))
           first | refine ae.fieldAddr Met.none rfl Tryz.underlying50 rfl cj rfl ?_ | refine ae.bQ Met.none rfl Tryz.underlying50 rfl cj ?_
           refine ae.st (vs := [_]) (j := 0) Met.none rfl rfl rfl cj ?_ (hj := rfl)
           refine ae.nil ?_
           exact Fin.result (O' := aW r rb rf ⟨M.room, (bV M aq flip).B, (bV M aq flip).F, false, -1⟩ ws (aH owF ++ R)) (.inl rfl) rfl rfl (by
            have e1 : (List.range 64).map (bS M3) = (bV M aq flip).F := by
             show (List.range 64).map (bS M3) = (List.range 64).map fun n => ((((bH ((n : Nat) : Int) (ca M aq flip)).getD ⟨[], 0⟩).bs.length : Nat) : Int)
             refine List.map_congr_left fun n hn => ?_
             have hn := List.mem_range.1 hn
             unfold bS
             rw [hM3]
             show (((nth ((List.range 64).map fun n => ((bH ((n : Nat) : Int) (ca M aq flip)).getD ⟨[], 0⟩).bs) n).length : Nat) : Int) = _
             rw [cO _ hn]
            rw [e1, hB]
            intro g hg
            have hg2 : Sat g (aW r rb rf ⟨M.room, (bV M aq flip).B, (bV M aq flip).F, false, -1⟩ ws (aH owF ++ (Gf ++ R))) := hg
            exact hg2.sub (by intro Q; simp only [List.countP_append, List.countP_cons]; omega)) ⟨ws, aH owF, rfl, hIF⟩
   · try simp only [aB] at hg85
     obtain ⟨at0, hat, hat2, hcr⟩ : ∃ at0 : Int, at0 = -1 ∧ (at0 = -1 ∨ (0 ≤ at0 ∧ at0 < 8 * (S : Int))) ∧ ca M aq flip = (if 0 ≤ at0 then fU (at0.toNat / 8) (7 - at0.toNat % 8) (aV M aq (aL M).length) else aV M aq (aL M).length) := ⟨-1, rfl, .inl rfl, by
      unfold ca
      simp only
      rw [← hS, if_neg (show ¬ (0 ≤ flip ∧ 0 < 8 * S) by omega), if_neg (show ¬ (0 : Int) ≤ -1 by decide)]⟩
     refine zs 2 85 rfl rfl rfl (zs 2 85 rfl rfl rfl (ae.bd Met.none rfl rfl (ae.nil (Fin.aa ?_))))
     refine WX.cond rfl (fun hc2 => nomatch hc2) (fun hc2 => ?_)
     refine WX.skip (Fin.aa (WX.seq (WX.seq ?_)))
     have hkeys : ow.map (·.n) = (aL M).map fun n => ((n : Nat) : Int) := by
      have e1 : ow.map (·.n) = (aV M aq (aL M).length).map (·.1) := by rw [← hV.nf, List.map_map]; rfl
      rw [e1, gY M aq (Nat.le_refl _), List.take_length]
     have howl : ow.length = (aL M).length := by
      have := congrArg List.length hkeys
      simpa using this
     refine WX.region rfl (za rfl (ae.nil (Fin.aa (WX.block ?_))))
     refine WX.re (O' := aW r rb rf M ws (aH (gr at0 ow (av (aV M aq 0))) ++ B)) ?_ (by rw [show gr at0 ow (av (aV M aq 0)) = ow from by unfold gr; rw [if_neg (by show ¬ (0 ≤ at0 ∧ at0.toNat / 8 < 0); omega)]]; exact fun _ hs => hs)
     refine WX.loop (fun j : Nat => [(0, Ptr r 0), (6, .slice a6 (aL M).length c6), (12, I (at0 - 8 * ((av (aV M aq j) : Nat) : Int))), (13, I (j : Int))]) (fun j => aW r rb rf M ws (aH (gr at0 ow (av (aV M aq j))) ++ B)) (fun j => j ≤ (aL M).length) (fun j => (aL M).length - j) 0 (Nat.zero_le _) (fun s hs => by rw [show ((av (aV M aq 0) : Nat) : Int) = 0 from rfl]; exact hs.tl [] 0) (fun j hj => ?_)
     have hlj := iZ h aq j hj
     refine WX.seq (WX.seq (WX.region rfl (zm rfl (zm rfl (ae.len Met.none rfl Tryz.underlying22 (zb rfl rfl rfl (ae.nil (Fin.aa ?_))))))))
     refine WX.cond rfl (fun hc3 => ?_) (fun hc3 => ?_)
     · try simp only [aB] at hc3
       refine WX.skip (Fin.aa (WX.seq (WX.block (WX.seq ?_))))
       have hjk : j < (aL M).length := by omega
       obtain ⟨f, hf⟩ : ∃ f, f = nth (aL M) j := ⟨_, rfl⟩
       have hfm : f ∈ aL M := hf ▸ dK hjk
       have hf64' := (dS.1 hfm).1
       have hFf : f < M.F.length := by rw [h.eD]; exact hf64'
       have hfd := h.jX f hf64'
       obtain ⟨dn, hdn⟩ : ∃ dn : Nat, nth M.F f = ((dn : Nat) : Int) := ⟨(nth M.F f).toNat, by omega⟩
       obtain ⟨o, ho⟩ : ∃ o : bM, o = ow[j]'(by omega) := ⟨_, rfl⟩
       have hom : o ∈ ow := ho ▸ List.getElem_mem _
       have honf : bM.nf o = gk M aq j := by
        have h1 : (ow.map bM.nf)[j]'(by rw [List.length_map]; omega) = bM.nf o := by rw [List.getElem_map, ho]
        rw [← h1]
        simp only [hV.nf, aV, List.getElem_map, List.getElem_range]
       have hon : o.n = ((f : Nat) : Int) := by
        have := congrArg Prod.fst honf
        rw [hf]
        exact this
       have hof : o.f = jJ aq j (rm M f) := by
        have := congrArg Prod.snd honf
        rw [hf]
        exact this
       have hod : o.f.d = ((dn : Nat) : Int) := by rw [hof, ← hdn]; rfl
       obtain ⟨hoG, hoB, _, hov⟩ := hV.row o hom
       rw [hon, Int.toNat_natCast] at hov
       have hwf : ws[f]? = some (.slice o.a o.f.bs.length o.c) := by rw [← hov]; exact dq (by rw [hV.len]; exact hf64')
       have hocl := iT h aq hf64' j
       rw [← hof] at hocl
       have hflen := h.len hf64'
       have hln : bp o.f = o.f.bs.length - dn := by unfold bp; rw [hod, Int.toNat_natCast]
       have hsj : av (aV M aq (j + 1)) = av (aV M aq j) + bp o.f := by
        rw [eQ, dM, ← honf]
        rfl
       have hsplit : ow = ow.take j ++ o :: ow.drop (j + 1) := by rw [ho, List.getElem_cons_drop, List.take_append_drop]
       have hst : av ((ow.take j).map bM.nf) = av (aV M aq j) := by
        rw [List.map_take, hV.nf]
        unfold aV
        rw [← List.map_take, List.take_range, Nat.min_eq_left (by omega)]
       refine WX.region rfl (zm rfl (zm rfl ?_))
       first | refine ae.ix Met.none rfl rfl bh cj ?_ | refine ae.eH Met.none rfl rfl bh cj ?_
       first | refine ae.ld Met.none rfl bY ?_ (hv := (show (fg (aL M))[j]? = some (I ((f : Nat) : Int)) from by unfold fg; rw [hf]; exact bB _ _ _ hjk)) | refine ae.ba Met.none rfl bY ?_ (hv := (show (fg (aL M))[j]? = some (I ((f : Nat) : Int)) from by unfold fg; rw [hf]; exact bB _ _ _ hjk))
       refine za rfl (zR rfl (zm rfl (zn rfl ?_)))
       first | refine ae.fieldAddr Met.none rfl Tryz.underlying50 rfl gF rfl ?_ | refine ae.bQ Met.none rfl Tryz.underlying50 rfl gF ?_
       first | refine ae.ld Met.none rfl dW ?_ | refine ae.ba Met.none rfl dW ?_
       refine zm rfl ?_
       first | refine ae.ix Met.none rfl rfl bh cj ?_ | refine ae.eH Met.none rfl rfl bh cj ?_
       first | refine ae.ld Met.none rfl bY ?_ (hv := (bB I _ f hFf)) | refine ae.ba Met.none rfl bY ?_ (hv := (bB I _ f hFf))
       refine za rfl (ae.nil (Fin.aa (WX.block ?_)))
       refine WX.loop (fun rr : Nat => [(0, Ptr r 0), (6, .slice a6 (aL M).length c6), (12, I (at0 - 8 * (((av (aV M aq j) + rr : Nat)) : Int))), (13, I (j : Int)), (14, I (f : Int)), (15, I ((dn + rr : Nat) : Int))]) (fun rr => aW r rb rf M ws (aH (gr at0 ow (av (aV M aq j) + rr)) ++ B)) (fun rr => rr ≤ bp o.f) (fun rr => bp o.f - rr) 0 (Nat.zero_le _) (fun s hs => hs.tl [] 0) (fun rr hrr => ?_)
       refine WX.seq (WX.seq (WX.region rfl (zm rfl (zm rfl (zn rfl ?_)))))
       first | refine ae.fieldAddr Met.none rfl Tryz.underlying50 rfl cH rfl ?_ | refine ae.bQ Met.none rfl Tryz.underlying50 rfl cH ?_
       first | refine ae.ld Met.none rfl bJ ?_ | refine ae.ba Met.none rfl bJ ?_
       refine zm rfl ?_
       first | refine ae.ix Met.none rfl rfl aR aO ?_ | refine ae.eH Met.none rfl rfl aR aO ?_
       first | refine ae.ld Met.none rfl aD ?_ (hv := hwf) | refine ae.ba Met.none rfl aD ?_ (hv := hwf)
       refine ae.len Met.none rfl Tryz.underlying39 (zb rfl rfl rfl (ae.nil (Fin.aa ?_)))
       refine WX.cond rfl (fun hc4 => ?_) (fun hc4 => ?_)
       · try simp only [aB] at hc4
         refine WX.skip (Fin.aa (WX.seq (WX.block (WX.seq (WX.seq (WX.region rfl (zm rfl (zb rfl rfl rfl (zm rfl ?_)))))))))
         refine ae.split (d := 124) rfl (fun hg124 => ?_) (fun hg124 => ?_)
         · try simp only [aB] at hg124
           refine ae.move (Met.some rfl rfl rfl) rfl (ae.bin (Met.some rfl rfl rfl) rfl rfl rfl (ae.bC Met.none rfl rfl (ae.nil (Fin.aa ?_))))
           refine WX.cond rfl (fun hc5 => ?_) (fun hc5 => ?_)
           · try simp only [aB] at hc5
             have hrl : rr < bp o.f := by omega
             have ha0 : 0 ≤ at0 := by omega
             have hp : at0.toNat / 8 = av (aV M aq j) + rr := by omega
             obtain ⟨q1, q2⟩ := nX (ow := ow) ha0 hp
             obtain ⟨b, hoa, hoGe⟩ : ∃ b, o.a = some ⟨b, 0, none⟩ ∧ o.G = [(b, ⟨1, false, o.f.bs.map B8⟩)] := by
              rcases hoG with ⟨_, h0, _⟩ | ⟨b, h1, h2, _⟩
              · omega
              · exact ⟨b, h1, h2⟩
             have hrs : aH (gr at0 ow (av (aV M aq j) + rr)) = aH (ow.take j) ++ ([(b, ⟨1, false, o.f.bs.map B8⟩)] ++ aH (ow.drop (j + 1))) := by
              rw [q1]
              conv => lhs; rw [hsplit]
              rw [eb, eU, hoGe]
             have hzl : dn + rr < o.f.bs.length := by omega
             have hwf2 : ws[f]? = some (.slice (some ⟨b, 0, none⟩) o.f.bs.length o.c) := by rw [← hoa]; exact hwf
             have hk7 : (7 : Int) - (at0 - 8 * (((av (aV M aq j) + rr : Nat)) : Int)) = ((7 - at0.toNat % 8 : Nat) : Int) := by omega
             have hrs2 : aH (gr at0 ow (av (aV M aq j) + (rr + 1))) = aH (ow.take j) ++ ([(b, ⟨1, false, (o.f.bs.set (dn + rr) (gO (nth o.f.bs (dn + rr)) (7 - at0.toNat % 8))).map B8⟩)] ++ aH (ow.drop (j + 1))) := by
              rw [← Nat.add_assoc, q2]
              conv => lhs; rw [hsplit, ← hst]
              rw [kr _ rr hrl, eb, eU]
              congr 1
              unfold fe
              simp only [hoa, hod, Int.toNat_natCast]
             rw [hrs]
             refine WX.re (O' := (b, ⟨1, false, o.f.bs.map B8⟩) :: aW r rb rf M ws ((aH (ow.take j) ++ aH (ow.drop (j + 1))) ++ B)) ?_
             refine WX.draw rfl ?_
             refine zm rfl (zn rfl ?_)
             first | refine ae.fieldAddr Met.none rfl Tryz.underlying50 rfl cH rfl ?_ | refine ae.bQ Met.none rfl Tryz.underlying50 rfl cH ?_
             first | refine ae.ld Met.none rfl bJ ?_ | refine ae.ba Met.none rfl bJ ?_
             refine zm rfl ?_
             first | refine ae.ix Met.none rfl rfl aR aO ?_ | refine ae.eH Met.none rfl rfl aR aO ?_
             first | refine ae.ld Met.none rfl aD ?_ (hv := hwf2) | refine ae.ba Met.none rfl aD ?_ (hv := hwf2)
             refine zm rfl (zm rfl (zn rfl ?_))
             first | refine ae.fieldAddr Met.none rfl Tryz.underlying50 rfl cH rfl ?_ | refine ae.bQ Met.none rfl Tryz.underlying50 rfl cH ?_
             first | refine ae.ld Met.none rfl bJ ?_ | refine ae.ba Met.none rfl bJ ?_
             refine zm rfl ?_
             first | refine ae.ix Met.none rfl rfl aR aO ?_ | refine ae.eH Met.none rfl rfl aR aO ?_
             first | refine ae.ld Met.none rfl aD ?_ (hv := hwf2) | refine ae.ba Met.none rfl aD ?_ (hv := hwf2)
             refine zm rfl ?_
             first | refine ae.ix Met.none rfl rfl aQ ea ?_ | refine ae.eH Met.none rfl rfl aQ ea ?_
             first | refine ae.ld Met.none rfl iU ?_ (hv := (bB _ _ _ hzl)) | refine ae.ba Met.none rfl iU ?_ (hv := (bB _ _ _ hzl))
             refine zm rfl (zb rfl rfl nj ?_)
             rw [hk7]
             refine ae.conv Met.none rfl Tryz.underlying3 Tryz.underlying70 (wrap_u64 (by omega) (by omega)) ?_
             refine ae.shl Met.none rfl rfl (by omega) ?_
             refine ae.bin Met.none rfl rfl (show _ = some (B8 (gO (nth o.f.bs (dn + rr)) (7 - at0.toNat % 8))) from rfl) ?_
             first | refine ae.ix Met.none rfl rfl aQ ea ?_ | refine ae.eH Met.none rfl rfl aQ ea ?_
             refine ae.st (vs := [_]) (j := 0) Met.none rfl rfl rfl ea ?_ (hj := rfl)
             refine ae.nil (Fin.aa ?_)
             first
             | refine WX.re (O' := aW r rb rf M ws (aH (gr at0 ow (av (aV M aq j) + (rr + 1))) ++ B)) ?_ (by rw [hrs2]; exact aC)
             | refine WX.re (O' := aW r rb rf M ws (aH (gr at0 ow (av (aV M aq j) + (rr + 1))) ++ B)) ?_ (by rw [← Nat.add_assoc, fM (by omega)]; exact fun _ hs => hs)
             refine WX.region rfl (zm rfl (zb rfl rfl nj (za rfl (ae.nil (Fin.ag (Fin.aa (WX.region rfl (zm rfl (zb rfl rfl dH (za rfl (ae.nil ?_)))))))))))
             exact Fin.aj (rr + 1) (by omega) (by omega) (fun s hs => hs.tl [] 0)
           · try simp only [aB] at hc5
             refine WX.skip (Fin.aa ?_)
             first
             | refine WX.re (O' := aW r rb rf M ws (aH (gr at0 ow (av (aV M aq j) + (rr + 1))) ++ B)) ?_ (by rw [hrs2]; exact aC)
             | refine WX.re (O' := aW r rb rf M ws (aH (gr at0 ow (av (aV M aq j) + (rr + 1))) ++ B)) ?_ (by rw [← Nat.add_assoc, fM (by omega)]; exact fun _ hs => hs)
             refine WX.region rfl (zm rfl (zb rfl rfl nj (za rfl (ae.nil (Fin.ag (Fin.aa (WX.region rfl (zm rfl (zb rfl rfl dH (za rfl (ae.nil ?_)))))))))))
             exact Fin.aj (rr + 1) (by omega) (by omega) (fun s hs => hs.tl [] 0)
         · try simp only [aB] at hg124
           refine zs 2 124 rfl rfl rfl (zs 2 124 rfl rfl rfl (ae.bd Met.none rfl rfl (ae.nil (Fin.aa ?_))))
           refine WX.cond rfl (fun hc5 => nomatch hc5) (fun hc5 => ?_)
           refine WX.skip (Fin.aa ?_)
           first
           | refine WX.re (O' := aW r rb rf M ws (aH (gr at0 ow (av (aV M aq j) + (rr + 1))) ++ B)) ?_ (by rw [hrs2]; exact aC)
           | refine WX.re (O' := aW r rb rf M ws (aH (gr at0 ow (av (aV M aq j) + (rr + 1))) ++ B)) ?_ (by rw [← Nat.add_assoc, fM (by omega)]; exact fun _ hs => hs)
           refine WX.region rfl (zm rfl (zb rfl rfl nj (za rfl (ae.nil (Fin.ag (Fin.aa (WX.region rfl (zm rfl (zb rfl rfl dH (za rfl (ae.nil ?_)))))))))))
           exact Fin.aj (rr + 1) (by omega) (by omega) (fun s hs => hs.tl [] 0)
       · try simp only [aB] at hc4
         refine WX.exit (Fin.aF (Fin.aN (Fin.aK rfl (Fin.ag (Fin.aa ?_)))))
         have hre : rr = bp o.f := by omega
         subst hre
         rw [← hsj]
         refine WX.region rfl (zm rfl (zb rfl rfl dH (za rfl (ae.nil ?_))))
         exact Fin.aj (j + 1) (by omega) (by omega) (fun s hs => hs.tl [] 0)
     · try simp only [aB] at hc3
       refine WX.exit (Fin.aF (Fin.aN (Fin.aK rfl (Fin.aa (WX.seq (WX.seq ?_))))))
       have hje : j = (aL M).length := by omega
       rw [hje, ← hS]
       have hVF : we M vs (ca M aq flip) (gr at0 ow S) ws := by
        rw [hcr]
        unfold gr
        rcases hat2 with h1 | ⟨h1, h2⟩
        · rw [if_neg (by omega), if_neg (by omega)]; exact hV
        · rw [if_pos h1, if_pos (by omega)]; exact hV.flip _ _
       have hIF := ov h hVF
       obtain ⟨M3, hM3⟩ : ∃ M3 : Rd, M3 = ⟨M.room, (bV M aq flip).B, M.F, M.off, M.cB⟩ := ⟨_, rfl⟩
       have hF3 : M3.F.length = 64 := by rw [hM3]; exact h.eD
       generalize gr at0 ow S = owF at hVF hIF ⊢
       refine WX.region rfl (za rfl (ae.nil (Fin.aa (WX.block ?_))))
       refine WX.re (O' := aW r rb rf ⟨M.room, M.B, eM M3 0, M.off, M.cB⟩ ws (aH owF ++ B)) ?_ (by rw [show eM M3 0 = M.F from by rw [hM3]; rfl]; exact fun _ hs => hs)
       refine WX.loop (fun i : Nat => [(0, Ptr r 0), (16, I (i : Int))]) (fun i => aW r rb rf ⟨M.room, M.B, eM M3 i, M.off, M.cB⟩ ws (aH owF ++ B)) (fun i => i ≤ 64) (fun i => 64 - i) 0 (by decide) (fun s hs => hs.tl [] 0) (fun i hi => ?_)
       refine WX.seq (WX.seq (WX.region rfl (zm rfl (zb rfl rfl rfl (ae.nil (Fin.aa ?_))))))
       refine WX.cond rfl (fun hc6 => ?_) (fun hc6 => ?_)
       · try simp only [aB] at hc6
         refine WX.skip (Fin.aa (WX.seq (WX.block ?_)))
         have hi64 : i < 64 := by omega
         obtain ⟨a, c, ev, _⟩ := hIF.file i hi64
         have hv : ws[i]? = some (.slice a (nth (bV M aq flip).B i).length c) := by rw [← ev]; exact dq (by rw [hVF.len]; exact hi64)
         have hfl3 := kR hF3 (i := i) (by omega)
         have hl3 : bS M3 i = ((nth (bV M aq flip).B i).length : Nat) := by unfold bS; rw [hM3]
         refine WX.draw rfl ?_
         refine zm rfl (zn rfl ?_)
         first | refine ae.fieldAddr Met.none rfl Tryz.underlying50 rfl gF rfl ?_ | refine ae.bQ Met.none rfl Tryz.underlying50 rfl gF ?_
         first | refine ae.ld Met.none rfl dW ?_ | refine ae.ba Met.none rfl dW ?_
         refine zm rfl (zm rfl (zn rfl ?_))
         first | refine ae.fieldAddr Met.none rfl Tryz.underlying50 rfl cH rfl ?_ | refine ae.bQ Met.none rfl Tryz.underlying50 rfl cH ?_
         first | refine ae.ld Met.none rfl bJ ?_ | refine ae.ba Met.none rfl bJ ?_
         refine zm rfl ?_
         first | refine ae.ix Met.none rfl rfl aR aO ?_ | refine ae.eH Met.none rfl rfl aR aO ?_
         first | refine ae.ld Met.none rfl aD ?_ (hv := hv) | refine ae.ba Met.none rfl aD ?_ (hv := hv)
         refine ae.len Met.none rfl Tryz.underlying39 ?_
         first | refine ae.ix Met.none rfl rfl bh cj ?_ | refine ae.eH Met.none rfl rfl bh cj ?_
         refine ae.st (vs := [_]) (j := 2) Met.none rfl rfl rfl cj ?_ (hj := rfl) (hl := (by rw [List.length_map, hfl3]; show i + 1 ≤ 64; omega)) (hc := (show dj (List.map I (eM M3 i)) i [I (((nth (bV M aq flip).B i).length : Nat) : Int)] = List.map I ((eM M3 i).set i (bS M3 i)) from by rw [hl3]; exact gh I _ i _ (by rw [hfl3]; exact hi64)))
         refine ae.nil (Fin.ag (Fin.aa (WX.region rfl (zm rfl (zb rfl rfl dH (za rfl (ae.nil ?_)))))))
         exact Fin.aj (i + 1) (by omega) (by omega) (fun s hs => by rw [← kK hF3 hi64]; exact hs.tl [] 0)
       · try simp only [aB] at hc6
         refine WX.exit (Fin.aF (Fin.aN (Fin.aK rfl (Fin.aa (WX.seq ?_)))))
         have hi6 : i = 64 := by omega
         rw [hi6, kB hF3]
         refine WX.region rfl (zm rfl (zn rfl ?_))
         first | refine ae.fieldAddr Met.none rfl Tryz.underlying50 rfl dm rfl ?_ | refine ae.bQ Met.none rfl Tryz.underlying50 rfl dm ?_
         refine ae.st (vs := [_]) (j := 0) Met.none rfl rfl rfl dm ?_ (hj := rfl)
         refine ae.nil (Fin.aa (WX.region rfl (zm rfl (zn rfl ?_))))
         first | refine ae.fieldAddr Met.none rfl Tryz.underlying50 rfl cj rfl ?_ | refine ae.bQ Met.none rfl Tryz.underlying50 rfl cj ?_
         refine ae.st (vs := [_]) (j := 0) Met.none rfl rfl rfl cj ?_ (hj := rfl)
         refine ae.nil ?_
         exact Fin.result (O' := aW r rb rf ⟨M.room, (bV M aq flip).B, (bV M aq flip).F, false, -1⟩ ws (aH owF ++ R)) (.inl rfl) rfl rfl (by
          have e1 : (List.range 64).map (bS M3) = (bV M aq flip).F := by
           show (List.range 64).map (bS M3) = (List.range 64).map fun n => ((((bH ((n : Nat) : Int) (ca M aq flip)).getD ⟨[], 0⟩).bs.length : Nat) : Int)
           refine List.map_congr_left fun n hn => ?_
           have hn := List.mem_range.1 hn
           unfold bS
           rw [hM3]
           show (((nth ((List.range 64).map fun n => ((bH ((n : Nat) : Int) (ca M aq flip)).getD ⟨[], 0⟩).bs) n).length : Nat) : Int) = _
           rw [cO _ hn]
          rw [e1, hB]
          intro g hg
          have hg2 : Sat g (aW r rb rf ⟨M.room, (bV M aq flip).B, (bV M aq flip).F, false, -1⟩ ws (aH owF ++ (Gf ++ R))) := hg
          exact hg2.sub (by intro Q; simp only [List.countP_append, List.countP_cons]; omega)) ⟨ws, aH owF, rfl, hIF⟩
theorem xf {room : Int} : mz ⟨room, false, false, 0, []⟩ (iO room) :=
 ⟨rfl, rfl, .inr ⟨rfl, by show (-1 : Int) < 0; decide, by show (-2 : Int) ≤ -1; decide⟩, by unfold iO; simp, by unfold iO; simp, fun n hn => by
  unfold iO
  simp only
  rw [dT hn, dT hn]
  rfl⟩
theorem vJ {R0 R : an} (hi : ∀ Q : Nat × gl → Bool, R0.countP Q ≤ R.countP Q) : ∀ g, Sat g R → Sat g R0 := fun g hg => hg.sub hi
theorem eW.inc {R0 R : an} {m : List (Int × Value)} {fs : List (Int × Fi)} (h : eW R0 m fs) (hi : ∀ g, Sat g R → Sat g R0) : eW R m fs := by
 induction h with
 | nil => exact .nil
 | cons h1 _ ih =>
  obtain ⟨a, c, h2, h3, h4⟩ := h1
  exact .cons ⟨a, c, h2, h3.inc hi, h4⟩ ih
theorem dX.inc {R0 R : an} {D : Dk} {mx : bf} (h : dX R0 D mx) (hi : ∀ g, Sat g R → Sat g R0) : dX R D mx := ⟨⟨h.di.rel.inc hi, h.di.nd⟩, h.ok, h.room, h.left, h.used⟩
theorem fJ.inc {R0 R : an} {M : Rd} {vs : List Value} (h : fJ R0 M vs) (hi : ∀ g, Sat g R → Sat g R0) : fJ R M vs :=
 ⟨h.ik, h.gL, h.eD, fun n hn => by obtain ⟨a, c, h1, h2, h3, h4⟩ := h.file n hn; exact ⟨a, c, h1, h2.inc hi, h3, h4⟩, h.room, h.used, h.cB, h.jX⟩
theorem x4 {l : List Int} {k : Nat} (h : Bytes l) (hl : l.length ≤ k) : 0 ≤ my l ∧ my l < 256 ^ k := by
 obtain ⟨h1, h2⟩ := ku h
 refine ⟨h1, Int.lt_of_lt_of_le h2 ?_⟩
 have := Nat.pow_le_pow_right (n := 256) (by decide) hl
 have e : ∀ n : Nat, (256 : Int) ^ n = ((256 ^ n : Nat) : Int) := fun n => by rw [Int.natCast_pow]; rfl
 rw [e, e]
 exact Int.ofNat_le.2 this
theorem m0 (O : an) (b : List Int) (a : Option Addr) (c : Nat) (hB : Bytes b) (hlen : b.length ≤ 1000000000000) (hl : Src O 1 (.slice a b.length c) b.length (b.map B8)) :
  Spec Tryz.prog false 71 #[.slice a b.length c] O fun v O' => ∃ a' c' G, v = .slice a' (aM b).length c' ∧ Grow 1 a' (aM b).length c' ((aM b).map U) G ∧ O' = G ++ O := by
 have hwl := eN b
 refine Spec.enter (args := [_]) (m := 37) Tryz.func71 rfl rfl (by decide +kernel) fun h0 => ?_
 refine WX.seq (WX.region rfl (za rfl (zR rfl (za rfl (ae.nil (Fin.aa (WX.seq (WX.seq (WX.region rfl (za rfl (ae.nil (Fin.aa (WX.block ?_)))))))))))))
 refine WX.loop (fun q : Nat × Option Addr × Nat × an => [(0, .slice a b.length c), (3, .slice q.2.1 q.1 q.2.2.1), (4, I ((8 * q.1 : Nat) : Int))]) (fun q => q.2.2.2 ++ O) (fun q => q.1 ≤ (aM b).length ∧ Grow 1 q.2.1 q.1 q.2.2.1 (((aM b).take q.1).map U) q.2.2.2) (fun q => (aM b).length - q.1) (0, none, 0, []) ⟨Nat.zero_le _, .nil⟩ (fun s hs => hs.tl [] 0) (fun q hq => ?_)
 obtain ⟨k, aw, cw, G⟩ := q
 obtain ⟨hk, hG⟩ := hq
 simp only at hk hG
 dsimp only
 refine WX.seq (WX.seq (WX.region rfl (zm rfl (zm rfl (ae.len Met.none rfl Tryz.underlying39 (zb rfl rfl rfl (ae.nil (Fin.aa ?_))))))))
 refine WX.cond rfl (fun hc0 => ?_) (fun hc0 => ?_)
 · try simp only [aB] at hc0
   refine WX.skip (Fin.aa (WX.seq (WX.block (WX.seq ?_))))
   have hkl : 8 * k < b.length := by omega
   have hk1 : k < (aM b).length := by omega
   obtain ⟨seg, hseg⟩ : ∃ seg, seg = (b.drop (8 * k)).take 8 := ⟨_, rfl⟩
   have hsl : seg.length = min 8 (b.length - 8 * k) := by rw [hseg, List.length_take, List.length_drop]
   have hsB : Bytes seg := fun z hz => hB z (List.mem_of_mem_drop (List.mem_of_mem_take (hseg ▸ hz)))
   have hw : nth (aM b) k = my seg := by rw [kg b k hkl, hseg]
   refine WX.region rfl (za rfl (ae.nil (Fin.aa (WX.seq (WX.seq (WX.region rfl (zm rfl (zb rfl rfl dH (zm rfl (ae.len Met.none rfl Tryz.underlying39 ?_))))))))))
   refine ae.min Met.none rfl rfl ?_
   refine zb rfl rfl nj (za rfl (ae.nil (Fin.aa (WX.block ?_))))
   refine WX.loop (fun j : Nat => [(0, .slice a b.length c), (3, .slice aw k cw), (4, I ((8 * k : Nat) : Int)), (5, U (my (seg.drop j))), (6, I (((8 * k + j : Nat) : Int) - 1))]) (fun _ => G ++ O) (fun j => j ≤ seg.length) (fun j => j) seg.length (Nat.le_refl _) ?_ (fun j hj => ?_)
   · rw [List.drop_length, show (((8 * k + seg.length : Nat) : Int) - 1) = min (((8 * k : Nat) : Int) + 8) (b.length : Int) - 1 from by omega]
     exact (fun s hs => hs.tl [] 0)
   refine WX.seq (WX.seq (WX.region rfl (zm rfl (zm rfl (zb rfl rfl rfl (ae.nil (Fin.aa ?_)))))))
   refine WX.cond rfl (fun hc1 => ?_) (fun hc1 => ?_)
   · try simp only [aB] at hc1
     refine WX.skip (Fin.aa (WX.seq (WX.block ?_)))
     obtain ⟨j', rfl⟩ : ∃ j', j = j' + 1 := ⟨j - 1, by omega⟩
     rw [show (((8 * k + (j' + 1) : Nat) : Int) - 1) = ((8 * k + j' : Nat) : Int) from by omega]
     have hjl : 8 * k + j' < b.length := by omega
     have hbj := hB _ (dK hjl)
     have hd : seg.drop j' = nth b (8 * k + j') :: seg.drop (j' + 1) := by
      rw [List.drop_eq_getElem_cons (show j' < seg.length by omega)]
      congr 1
      rw [dx hjl]
      simp [hseg]
     have hr7 := x4 (k := 7) (l := seg.drop (j' + 1)) (fun z hz => hsB z (List.mem_of_mem_drop hz)) (by rw [List.length_drop]; omega)
     have hnx : my (seg.drop j') = nth b (8 * k + j') + 256 * my (seg.drop (j' + 1)) := by rw [hd]; rfl
     refine WX.region rfl (zm rfl (ae.bin Met.none rfl rfl (congrArg (fun n => some (U n)) (wrap_u64 (by omega) (by omega))) (zm rfl (zm rfl ?_))))
     first | refine ae.ix Met.none rfl rfl aQ ea ?_ | refine ae.eH Met.none rfl rfl aQ ea ?_
     first | refine ae.ld Met.none rfl iU ?_ | refine ae.ba Met.none rfl iU ?_
     refine ae.conv Met.none rfl Tryz.underlying5 Tryz.underlying78 wh ?_
     refine ae.bin Met.none rfl rfl (show _ = some (U (my (seg.drop j'))) from congrArg (fun n => some (U n)) ((wrap_u64 (by omega) (by omega)).trans (by omega))) (za rfl (ae.nil (Fin.ag (Fin.aa (WX.region rfl (zm rfl (zb rfl rfl nj (za rfl (ae.nil ?_)))))))))
     exact Fin.aj j' (by omega) (by omega) (fun s hs => hs.tl [] 0)
   · try simp only [aB] at hc1
     refine WX.exit (Fin.aF (Fin.aN (Fin.aK rfl (Fin.aa ?_))))
     have hj0 : j = 0 := by omega
     subst hj0
     rw [List.drop_zero, ← hw]
     refine WX.region rfl (zm rfl (zm rfl ?_))
     refine ae.buildSlice (c := [_]) Met.none rfl kQ oL sr (by decide) (by decide) rfl rfl rfl rfl (fun b34 => ?_)
     refine ae.mS [_] Met.none rfl rfl uT kQ oL y5 sr (Src.lit (cs := [_])) (fun a35 c35 G35 hG35 => ?_)
     refine za rfl (ae.nil (Fin.ag (Fin.aa (WX.region rfl (zm rfl (zb rfl rfl dH (za rfl (ae.nil ?_))))))))
     refine Fin.aj (k + 1, a35, c35, G35) ⟨by simp only; omega, ?_⟩ (by simp only; omega) (fun s hs => hs.tl [] 1)
     rw [bG hk1, List.map_append]
     exact hG35
 · try simp only [aB] at hc0
   refine WX.exit (Fin.aF (Fin.aN (Fin.aK rfl (Fin.aa (WX.seq (WX.region rfl (zm rfl (za rfl (ae.nil (Fin.aa (WX.ret ?_)))))))))))
   have hkk : k = (aM b).length := by omega
   subst hkk
   rw [List.take_length] at hG
   exact Fin.result (O' := G ++ O) (.inr rfl) rfl rfl au ⟨aw, cw, G, rfl, hG, rfl⟩
theorem ue (O : an) (label l : List Int) (a : Option Addr) (c : Nat) (hB : Bytes label) (hll : label.length ≤ 1000000000000) (hlen : l.length ≤ 1000000000000) (hl : Src O 1 (.slice a l.length c) l.length (l.map I)) :
  Spec Tryz.prog false 72 #[.string (fH label), .slice a l.length c] O fun v O' => v = U (wD label l) ∧ O' = O := by
 have hwl := eN label
 refine Spec.enter (args := [_, _]) (m := 49) Tryz.func72 rfl rfl (by decide +kernel) fun h0 => ?_
 refine WX.seq (WX.region rfl (za rfl (zR rfl (za rfl (zR rfl (zm rfl ?_))))))
 refine ae.xo Met.none rfl Tryz.underlying9 Tryz.underlying39 Tryz.underlying5 (by assumption) (fun b10 => ?_)
 refine ae.cl (O1 := _) Met.none rfl (ah Tryz.func71 (by decide +kernel)) rfl (fun _ h => h) (m0 _ label _ _ hB hll ((Grow.row (sz := 1) (b := b10) (n := label.length) (c := label.length) (cs := label.map B8) (by simp)).src (R := O))) (fun v O' hp => ?_)
 obtain ⟨aw, cw, Gw, rfl, hGw, rfl⟩ := hp
 have hsw := hGw.src (R := (b10, ⟨1, false, label.map B8⟩) :: O)
 refine za rfl (ae.nil (Fin.aa (WX.seq (WX.seq (WX.region rfl (za rfl (ae.nil (Fin.aa (WX.block ?_)))))))))
 refine WX.loop (fun k : Nat => [(0, .string (fH label)), (1, .slice a l.length c), (5, U (((aM label).take k).foldl fT 0)), (6, .slice aw (aM label).length cw), (7, I (k : Int))]) (fun _ => Gw ++ ((b10, ⟨1, false, label.map B8⟩) :: O)) (fun k => k ≤ (aM label).length) (fun k => (aM label).length - k) 0 (Nat.zero_le _) (fun s hs => hs.tl [] 0) (fun k hk => ?_)
 refine WX.seq (WX.seq (WX.region rfl (zm rfl (zm rfl (ae.len Met.none rfl Tryz.underlying104 (zb rfl rfl rfl (ae.nil (Fin.aa ?_))))))))
 refine WX.cond rfl (fun hc0 => ?_) (fun hc0 => ?_)
 · try simp only [aB] at hc0
   refine WX.skip (Fin.aa (WX.seq (WX.block (WX.region rfl (zm rfl (zm rfl (zm rfl ?_)))))))
   first | refine ae.ix Met.none rfl rfl kQ oL ?_ | refine ae.eH Met.none rfl rfl kQ oL ?_
   first | refine ae.ld Met.none rfl jM ?_ | refine ae.ba Met.none rfl jM ?_
   refine ae.cl (O1 := _) Met.none rfl (ah Tryz.func88 (by decide +kernel)) rfl (fun _ h => h) (iN _ (((aM label).take k).foldl fT 0) (nth (aM label) k)) (fun v O' hp => ?_)
   obtain ⟨rfl, hO⟩ := hp
   subst O'
   refine za rfl (ae.nil (Fin.ag (Fin.aa (WX.region rfl (zm rfl (zb rfl rfl dH (za rfl (ae.nil ?_))))))))
   refine Fin.aj (k + 1) (by omega) (by omega) ?_
   rw [bG (by omega), List.foldl_append]
   exact (fun s hs => hs.tl [] 0)
 · try simp only [aB] at hc0
   refine WX.exit (Fin.aF (Fin.aN (Fin.aK rfl (Fin.aa (WX.seq ?_)))))
   have hkw : k = (aM label).length := by omega
   subst hkw
   rw [List.take_length]
   obtain ⟨s0, hs0⟩ : ∃ s0, s0 = fT (fT ((aM label).foldl fT 0) label.length) l.length := ⟨_, rfl⟩
   refine WX.region rfl (zm rfl (zm rfl ?_))
   refine ae.wa Met.none rfl Tryz.underlying9 ?_
   rw [eG]
   refine ae.conv Met.none rfl Tryz.underlying3 Tryz.underlying78 wh ?_
   refine ae.cl (O1 := _) Met.none rfl (ah Tryz.func88 (by decide +kernel)) rfl (fun _ h => h) (iN _ ((aM label).foldl fT 0) (label.length : Int)) (fun v O' hp => ?_)
   obtain ⟨rfl, hO⟩ := hp
   subst O'
   refine za rfl (zR rfl (zm rfl (zm rfl (ae.len Met.none rfl Tryz.underlying22 ?_))))
   refine ae.conv Met.none rfl Tryz.underlying3 Tryz.underlying78 wh ?_
   refine ae.cl (O1 := _) Met.none rfl (ah Tryz.func88 (by decide +kernel)) rfl (fun _ h => h) (iN _ (fT ((aM label).foldl fT 0) label.length) (l.length : Int)) (fun v O' hp => ?_)
   obtain ⟨rfl, hO⟩ := hp
   subst O'
   refine za rfl (ae.nil (Fin.aa (WX.seq (WX.seq ?_))))
   refine WX.re (O' := O) ?_
   refine WX.region rfl (za rfl (ae.nil (Fin.aa (WX.block ?_))))
   refine WX.loop (fun k : Nat => [(1, .slice a l.length c), (5, U ((l.take k).foldl (fun s n => fT s (IntKind.wrap .u64 n)) s0)), (8, I (k : Int))]) (fun _ => O) (fun k => k ≤ l.length) (fun k => l.length - k) 0 (Nat.zero_le _) ?_ (fun k hk => ?_)
   · rw [hs0]
     exact (fun s hs => hs.tl [] 0)
   refine WX.seq (WX.seq (WX.region rfl (zm rfl (zm rfl (ae.len Met.none rfl Tryz.underlying22 (zb rfl rfl rfl (ae.nil (Fin.aa ?_))))))))
   refine WX.cond rfl (fun hc1 => ?_) (fun hc1 => ?_)
   · try simp only [aB] at hc1
     refine WX.skip (Fin.aa (WX.seq (WX.block (WX.region rfl (zm rfl (zm rfl (zm rfl ?_)))))))
     first | refine ae.ix Met.none rfl rfl bh cj ?_ | refine ae.eH Met.none rfl rfl bh cj ?_
     first | refine ae.ld Met.none rfl bY ?_ | refine ae.ba Met.none rfl bY ?_
     refine ae.conv Met.none rfl Tryz.underlying3 Tryz.underlying78 rfl ?_
     refine ae.cl (O1 := _) Met.none rfl (ah Tryz.func88 (by decide +kernel)) rfl (fun _ h => h) (iN _ ((l.take k).foldl (fun s n => fT s (IntKind.wrap .u64 n)) s0) (IntKind.wrap .u64 (nth l k))) (fun v O' hp => ?_)
     obtain ⟨rfl, hO⟩ := hp
     subst O'
     refine za rfl (ae.nil (Fin.ag (Fin.aa (WX.region rfl (zm rfl (zb rfl rfl dH (za rfl (ae.nil ?_))))))))
     refine Fin.aj (k + 1) (by omega) (by omega) ?_
     rw [bG (by omega), List.foldl_append]
     exact (fun s hs => hs.tl [] 0)
   · try simp only [aB] at hc1
     refine WX.exit (Fin.aF (Fin.aN (Fin.aK rfl (Fin.aa (WX.seq ?_)))))
     have hkl : k = l.length := by omega
     subst hkl
     rw [List.take_length]
     refine WX.region rfl (zm rfl ?_)
     refine ae.cl (O1 := _) Met.none rfl (ah Tryz.func88 (by decide +kernel)) rfl (fun _ h => h) (iN _ (l.foldl (fun s n => fT s (IntKind.wrap .u64 n)) s0) 0) (fun v O' hp => ?_)
     obtain ⟨rfl, hO⟩ := hp
     subst O'
     refine za rfl (ae.nil (Fin.aa (WX.ret ?_)))
     exact Fin.result (O' := O) (.inr rfl) rfl rfl au ⟨by rw [hs0]; rfl, rfl⟩
theorem sa (O : an) (label b : List Int) (a : Option Addr) (c : Nat) (hB : Bytes label) (hb : Bytes b) (hll : label.length ≤ 1000000000000) (hlen : b.length ≤ 1000000000000) (hl : Src O 1 (.slice a b.length c) b.length (b.map B8)) :
  Spec Tryz.prog false 56 #[.string (fH label), .slice a b.length c] O fun v O' => v = U (dD label b) ∧ O' = O := by
 have hwl := eN b
 refine Spec.enter (args := [_, _]) (m := 31) Tryz.func56 rfl rfl (by decide +kernel) fun h0 => ?_
 refine WX.seq (WX.region rfl (za rfl (zR rfl (zm rfl ?_))))
 refine ae.cl (O1 := _) Met.none rfl (ah Tryz.func71 (by decide +kernel)) rfl (fun _ h => h) (m0 _ b _ _ hb hlen hl) (fun v O' hp => ?_)
 obtain ⟨aw, cw, Gw, rfl, hGw, rfl⟩ := hp
 refine za rfl (zR rfl (za rfl (ae.nil (Fin.aa (WX.seq (WX.seq (WX.region rfl (za rfl (ae.nil (Fin.aa (WX.block ?_)))))))))))
 refine WX.loop (fun q : Nat × Option Addr × Nat × an => [(0, .string (fH label)), (1, .slice a b.length c), (5, .slice aw (aM b).length cw), (6, .slice q.2.1 q.1 q.2.2.1), (7, I (q.1 : Int))]) (fun q => q.2.2.2 ++ (Gw ++ O)) (fun q => q.1 ≤ (aM b).length ∧ Grow 1 q.2.1 q.1 q.2.2.1 (((aM b).take q.1).map fun w => I (xp w)) q.2.2.2) (fun q => (aM b).length - q.1) (0, none, 0, []) ⟨Nat.zero_le _, .nil⟩ (fun s hs => hs.tl [] 0) (fun q hq => ?_)
 obtain ⟨k, al, cl, Gl⟩ := q
 obtain ⟨hk, hGl⟩ := hq
 simp only at hk hGl
 dsimp only
 have hsw : Src (Gl ++ (Gw ++ O)) 1 (.slice aw (aM b).length cw) (aM b).length ((aM b).map U) := Src.app hGw.src
 refine WX.seq (WX.seq (WX.region rfl (zm rfl (zm rfl (ae.len Met.none rfl Tryz.underlying104 (zb rfl rfl rfl (ae.nil (Fin.aa ?_))))))))
 refine WX.cond rfl (fun hc0 => ?_) (fun hc0 => ?_)
 · try simp only [aB] at hc0
   refine WX.skip (Fin.aa (WX.seq (WX.block (WX.region rfl (zm rfl (zm rfl (zm rfl ?_)))))))
   first | refine ae.ix Met.none rfl rfl kQ oL ?_ | refine ae.eH Met.none rfl rfl kQ oL ?_
   first | refine ae.ld Met.none rfl jM ?_ | refine ae.ba Met.none rfl jM ?_
   refine ae.conv Met.none rfl Tryz.underlying78 Tryz.underlying3 rfl ?_
   refine ae.buildSlice (c := [_]) Met.none rfl bh cj ij (by decide) (by decide) rfl rfl rfl rfl (fun b22 => ?_)
   refine ae.mS [_] Met.none rfl rfl lJ bh cj yv ij (Src.lit (cs := [_])) (fun a23 c23 G23 hG23 => ?_)
   refine za rfl (ae.nil (Fin.ag (Fin.aa (WX.region rfl (zm rfl (zb rfl rfl dH (za rfl (ae.nil ?_))))))))
   refine Fin.aj (k + 1, a23, c23, G23) ⟨by simp only; omega, ?_⟩ (by simp only; omega) (fun s hs => hs.tl [] 1)
   rw [bG (by omega), List.map_append]
   exact hG23
 · try simp only [aB] at hc0
   refine WX.exit (Fin.aF (Fin.aN (Fin.aK rfl (Fin.aa (WX.seq ?_)))))
   have hkk : k = (aM b).length := by omega
   subst hkk
   rw [List.take_length] at hGl
   refine WX.region rfl (zm rfl (zm rfl (zm rfl (ae.len Met.none rfl Tryz.underlying39 ?_))))
   refine ae.buildSlice (c := [_]) Met.none rfl bh cj ij (by decide) (by decide) rfl rfl rfl rfl (fun b28 => ?_)
   refine ae.mS [_] Met.none rfl rfl lJ bh cj yv ij (Src.lit (cs := [_])) (fun a29 c29 G29 hG29 => ?_)
   rw [show (aM b).length + 1 = ((aM b).map xp ++ [(b.length : Int)]).length from by simp]
   refine ae.cl (O1 := _) Met.none rfl (ah Tryz.func72 (by decide +kernel)) rfl (fun _ h => h) (ue _ label ((aM b).map xp ++ [(b.length : Int)]) a29 c29 hB hll (by rw [List.length_append, List.length_map, List.length_singleton]; omega) (Src.cons (by have := hG29.src (R := Gw ++ O); simpa [Function.comp_def] using this))) (fun v O' hp => ?_)
   obtain ⟨rfl, hO⟩ := hp
   subst O'
   refine za rfl (ae.nil (Fin.aa (WX.ret ?_)))
   exact Fin.result (O' := O) (.inr rfl) rfl rfl aC ⟨rfl, rfl⟩
theorem uH (O : an) (n : Int) (hn : dG n) :
  Spec Tryz.prog false 70 #[I n] O fun v O' => ∃ a c G, v = .slice a (bA (ff n).toNat).length c ∧ Grow 1 a (bA (ff n).toNat).length c ((bA (ff n).toNat).map B8) G ∧ O' = G ++ O := by
 have hz := fw hn
 have hz2 : U (ff n) = U (((ff n).toNat : Nat) : Int) := by unfold mB at hz; rw [Int.toNat_of_nonneg hz.1]
 unfold mB at hz
 refine Spec.enter (args := [_]) (m := 6) Tryz.func70 rfl rfl (by decide +kernel) fun h0 => ?_
 refine WX.seq (WX.region rfl (za rfl (zR rfl (zm rfl ?_))))
 refine ae.cl (O1 := _) Met.none rfl (ah Tryz.func87 (by decide +kernel)) rfl (fun _ h => h) (uF _ n hn) (fun v O' hp => ?_)
 obtain ⟨rfl, hO⟩ := hp
 subst O'
 rw [hz2]
 refine ae.cl (O1 := _) Met.none rfl (ah Tryz.func55 (by decide +kernel)) rfl (fun _ h => h) (lk _ (ff n).toNat (by omega)) (fun v O' hp => ?_)
 obtain ⟨a, c, G, rfl, hG, rfl⟩ := hp
 refine za rfl (ae.nil (Fin.aa (WX.ret ?_)))
 exact Fin.result (O' := G ++ O) (.inr rfl) rfl rfl (fun _ hs => hs) ⟨a, c, G, rfl, hG, rfl⟩
theorem oY (O : an) (s : List Int) (as_ : Option Addr) (cs : Nat) (hsl : s.length ≤ 1000000000) (hsrc : Src O 1 (.slice as_ s.length cs) s.length (s.map B8)) :
  Spec Tryz.prog false 54 #[.slice as_ s.length cs] O fun v O' => ∃ a c G, v = .slice a (dI s).length c ∧ Grow 1 a (dI s).length c ((dI s).map B8) G ∧ O' = G ++ O := by
 have hlen : (bA s.length).length ≤ 10 := ec (k := 9) (by omega)
 refine Spec.enter (args := [_]) (m := 9) Tryz.func54 rfl rfl (by decide +kernel) fun h0 => ?_
 refine WX.seq (WX.region rfl (za rfl (zR rfl (zm rfl (ae.len Met.none rfl Tryz.underlying39 ?_)))))
 refine ae.conv Met.none rfl Tryz.underlying3 Tryz.underlying78 wh ?_
 refine ae.cl (O1 := _) Met.none rfl (ah Tryz.func55 (by decide +kernel)) rfl (fun _ h => h) (lk _ s.length (by omega)) (fun v O' hp => ?_)
 obtain ⟨a1, c1, G1, rfl, hG1, rfl⟩ := hp
 refine zm rfl ?_
 refine ae.mS ([]) Met.none rfl rfl dQ aQ ea qt dA iY (fun a8 c8 G8 hG8 => ?_) (hm := (by rw [List.length_map]; omega))
 refine za rfl (ae.nil (Fin.aa (WX.ret ?_)))
 refine Fin.result (O' := G8 ++ O) (.inr rfl) rfl rfl (fun _ hs => hs) ⟨a8, c8, G8, ?_, ?_, rfl⟩
 · rw [show (dI s).length = (bA s.length).length + s.length from List.length_append]; rfl
 · rw [show (dI s).length = (bA s.length).length + s.length from List.length_append, show (dI s).map B8 = _ from List.map_append]; exact hG8
theorem sb (O : an) (n : Int) (s : List Int) (as_ : Option Addr) (cs : Nat) (hn : dG n) (hsl : s.length ≤ 100000) (hsrc : Src O 1 (.slice as_ s.length cs) s.length (s.map B8)) :
  Spec Tryz.prog false 53 #[I n, .slice as_ s.length cs] O fun v O' => ∃ a c G R, v = .slice a (aY n s).length c ∧ Grow 1 a (aY n s).length c ((aY n s).map B8) G ∧ O' = G ++ (R ++ O) := by
 have hz := fw hn
 unfold mB at hz
 have hlen : (bA (ff n).toNat).length ≤ 10 := ec (k := 9) (by omega)
 have hrl := hP (b := s) (by omega)
 refine Spec.enter (args := [_, _]) (m := 12) Tryz.func53 rfl rfl (by decide +kernel) fun h0 => ?_
 refine WX.seq (WX.region rfl (za rfl (zR rfl (zm rfl ?_))))
 refine ae.cl (O1 := _) Met.none rfl (ah Tryz.func70 (by decide +kernel)) rfl (fun _ h => h) (uH _ n hn) (fun v O' hp => ?_)
 obtain ⟨a1, c1, G1, rfl, hG1, rfl⟩ := hp
 refine za rfl (zR rfl (zm rfl (zm rfl ?_)))
 refine ae.cl (O1 := _) Met.none rfl (ah Tryz.func54 (by decide +kernel)) rfl (fun _ h => h) (oY _ s as_ cs (by omega) hsrc.app) (fun v O' hp => ?_)
 obtain ⟨a2, c2, G2, rfl, hG2, rfl⟩ := hp
 refine ae.mS (G2) Met.none rfl rfl dQ aQ ea qt dA iY (fun a11 c11 G11 hG11 => ?_) (hm := (by rw [List.length_map]; omega))
 refine za rfl (ae.nil (Fin.aa (WX.ret ?_)))
 refine Fin.result (O' := G11 ++ (G2 ++ O)) (.inr rfl) rfl rfl aC ⟨a11, c11, G11, G2, ?_, ?_, rfl⟩
 · rw [show (aY n s).length = (bA (ff n).toNat).length + (dI s).length from List.length_append]; rfl
 · rw [show (aY n s).length = (bA (ff n).toNat).length + (dI s).length from List.length_append, show (aY n s).map B8 = _ from List.map_append]; exact hG11
theorem ko (O : an) (n : Int) (b : List Int) (a : Option Addr) (c : Nat) (hn : dG n) (hb : Bytes b) (hlen : b.length ≤ 100000) (hl : Src O 1 (.slice a b.length c) b.length (b.map B8)) :
  Spec Tryz.prog false 38 #[I n, .slice a b.length c] O fun v O' => ∃ a' c' G, v = .slice a' (ar n b).length c' ∧ Grow 1 a' (ar n b).length c' ((ar n b).map B8) G ∧ O' = G ++ O := by
 have hcl := gW hn (b := b) (by omega)
 have hcb := kc (n := n) hb
 have hhr := gw eE (aY n b)
 have hrl := hP (b := aY n b) (by omega)
 have hvl : (bA (dD eE (aY n b)).toNat).length ≤ 10 := ec (k := 9) (by unfold mB at hhr; omega)
 refine Spec.enter (args := [_, _]) (m := 17) Tryz.func38 rfl rfl (by decide +kernel) fun h0 => ?_
 refine WX.seq (WX.region rfl (za rfl (zR rfl (zm rfl (zm rfl ?_)))))
 refine ae.cl (O1 := _) Met.none rfl (ah Tryz.func53 (by decide +kernel)) rfl (fun _ h => h) (sb _ n b a c hn hlen hl) (fun v O' hp => ?_)
 obtain ⟨a1, c1, G1, R1, rfl, hG1, rfl⟩ := hp
 refine za rfl (zR rfl (zm rfl ?_))
 refine ae.cl (O1 := _) Met.none rfl (ah Tryz.func54 (by decide +kernel)) rfl (fun _ h => h) (oY _ (aY n b) a1 c1 (by omega) hG1.src) (fun v O' hp => ?_)
 obtain ⟨a2, c2, G2, rfl, hG2, rfl⟩ := hp
 refine za rfl (zR rfl (zm rfl (zm rfl ?_)))
 refine ae.cl (O1 := _) Met.none rfl (ah Tryz.func56 (by decide +kernel)) rfl (fun _ h => h) (sa _ eE (aY n b) a1 c1 (by unfold eE; intro x hx; simp at hx; omega) hcb (by decide) (by omega) (Src.app hG1.src)) (fun v O' hp => ?_)
 obtain ⟨rfl, hO⟩ := hp
 subst O'
 rw [show U (dD eE (aY n b)) = U (((dD eE (aY n b)).toNat : Nat) : Int) from by rw [Int.toNat_of_nonneg hhr.1]]
 refine ae.cl (O1 := _) Met.none rfl (ah Tryz.func55 (by decide +kernel)) rfl (fun _ h => h) (lk _ (dD eE (aY n b)).toNat (by unfold mB at hhr; omega)) (fun v O' hp => ?_)
 obtain ⟨a3, c3, G3, rfl, hG3, rfl⟩ := hp
 refine ae.mS (G3) Met.none rfl rfl dQ aQ ea qt dA iY (fun a16 c16 G16 hG16 => ?_) (hm := (by rw [List.length_map]; omega))
 refine za rfl (ae.nil (Fin.aa (WX.ret ?_)))
 refine Fin.result (O' := G16 ++ O) (.inr rfl) rfl rfl aC ⟨a16, c16, G16, ?_, ?_, rfl⟩
 · rw [show (ar n b).length = (dI (aY n b)).length + (bA (dD eE (aY n b)).toNat).length from List.length_append]; rfl
 · rw [show (ar n b).length = (dI (aY n b)).length + (bA (dD eE (aY n b)).toNat).length from List.length_append, show (ar n b).map B8 = _ from List.map_append]; exact hG16
def yN (O : an) (r : Nat) (a0 : Option Addr) (l0 l : List Int) (e : Int) (N : an) : Prop :=
 ∃ a c, N = (r, ⟨0, false, [.slice a l.length c, I e]⟩) :: O ∧ (∀ O2, bK O2 1 a0 l0.length (l0.map B8) → bK O2 1 a l.length (l.map B8)) ∧ (a = none → c = 0) ∧ (e = 0 → ∃ b off, a = some ⟨b, off, none⟩)
theorem bK.known {O : an} {b off n : Nat} {cs : List Value} (h : bK O 1 (.some ⟨b, off, none⟩) n cs) : ∃ q, aU O b q ∧ q.sz = 1 := by
 rcases h with ⟨h, _⟩ | ⟨b2, off2, q, h1, h2, h3, h4, h5⟩
 · cases h
 · injection h1 with h1
   injection h1 with h1 h6
   subst h1
   exact ⟨q, h2, h3⟩
theorem cE (m : Nat) : ∃ t, bA m = (if m < 128 then (m : Int) else ((128 + m % 128 : Nat) : Int)) :: t := by
 by_cases h : m < 128
 · exact ⟨[], by rw [cY h, if_pos h]⟩
 · exact ⟨_, by rw [dv h, if_neg h]⟩
theorem oI {i : Nat} (h : i ≤ 9) : 1 ≤ 128 ^ i ∧ 128 ^ i ≤ 9223372036854775808 := by
 refine ⟨Nat.pos_of_ne_zero (by simp), ?_⟩
 exact Nat.le_trans (Nat.pow_le_pow_right (by decide) h) (by decide)
theorem mV (O : an) (r : Nat) (l : List Int) (e : Int) (a : Option Addr) (c : Nat) (hB : Bytes l) (hlen : l.length ≤ 1000000000000) (hr : bK O 1 a l.length (l.map B8)) (hc : a = none → c = 0) :
  Spec Tryz.prog false 83 #[Ptr r 0] ((r, ⟨0, false, [.slice a l.length c, I e]⟩) :: O) fun v O' => ∃ n l' e', v = U (n : Nat) ∧ n < 18446744073709551616 ∧ yN O r a l l' e' O' ∧ (e ≠ 0 → e' ≠ 0) ∧ l'.length ≤ l.length ∧ Bytes l' ∧ (e = 0 → ∀ m rest, m < 18446744073709551616 → l = bA m ++ rest → n = m ∧ l' = rest ∧ e' = 0) := by
 have hsrc := hr.src hc
 refine Spec.enter (args := [_]) (m := 70) Tryz.func83 rfl rfl (by decide +kernel) fun h0 => ?_
 refine WX.seq (WX.region rfl (za rfl (zR rfl (za rfl (zR rfl (za rfl (ae.nil (Fin.aa (WX.seq (WX.seq (WX.region rfl (za rfl (ae.nil (Fin.aa (WX.block ?_)))))))))))))))
 refine WX.loop (fun s : Nat × Nat => [(0, Ptr r 0), (3, U (s.2 : Nat)), (4, U ((128 ^ s.1 : Nat) : Int)), (5, I (s.1 : Int))]) (fun _ => (r, ⟨0, false, [.slice a l.length c, I e]⟩) :: O) (fun s => s.1 ≤ 9 ∧ s.2 < 128 ^ s.1 ∧ ∀ m rest, m < 18446744073709551616 → l = bA m ++ rest → ∃ m', (s.1 = 0 ∨ 0 < m') ∧ l.drop s.1 = bA m' ++ rest ∧ s.2 + m' * 128 ^ s.1 = m) (fun s => 10 - s.1) (0, 0) ⟨Nat.zero_le _, by decide, fun m rest _ h => ⟨m, .inl rfl, h, by simp⟩⟩ (fun s hs => hs.tl [0] 1) (fun s hs => ?_)
 obtain ⟨i, n⟩ := s
 obtain ⟨g1, g2, g3⟩ := hs
 simp only at g1 g2 g3
 dsimp only
 refine WX.seq (WX.seq (WX.region rfl (zm rfl (zn rfl ?_))))
 first | refine ae.fieldAddr Met.none rfl Tryz.underlying100 rfl cu rfl ?_ | refine ae.bQ Met.none rfl Tryz.underlying100 rfl cu ?_
 first | refine ae.ld Met.none rfl bX ?_ | refine ae.ba Met.none rfl bX ?_
 refine zb rfl rfl rfl (ae.nil (Fin.aa ?_))
 refine WX.cond rfl (fun hc0 => ?_) (fun hc0 => ?_)
 · try simp only [aB] at hc0
   refine WX.skip (Fin.aa (WX.seq (WX.block (WX.seq (WX.seq (WX.region rfl (zm rfl (zm rfl (zn rfl ?_)))))))))
   first | refine ae.fieldAddr Met.none rfl Tryz.underlying100 rfl aO rfl ?_ | refine ae.bQ Met.none rfl Tryz.underlying100 rfl aO ?_
   first | refine ae.ld Met.none rfl aD ?_ | refine ae.ba Met.none rfl aD ?_
   refine ae.len Met.none rfl Tryz.underlying39 (zb rfl rfl rfl (ae.nil (Fin.aa ?_)))
   refine WX.cond rfl (fun hc1 => ?_) (fun hc1 => ?_)
   · try simp only [aB] at hc1
     refine WX.seq (WX.region rfl (zm rfl (zn rfl ?_)))
     first | refine ae.fieldAddr Met.none rfl Tryz.underlying100 rfl cu rfl ?_ | refine ae.bQ Met.none rfl Tryz.underlying100 rfl cu ?_
     refine ae.st (vs := [_]) Met.none rfl rfl rfl cu ?_
     refine ae.nil (Fin.aa (WX.exit (Fin.aF (Fin.fv rfl (Fin.aF (Fin.aN (Fin.aK rfl (Fin.aa (WX.seq (WX.region rfl (za rfl (ae.nil (Fin.aa (WX.ret ?_))))))))))))))
     first
     | (have hz : ∀ m rest, m < 18446744073709551616 → l = bA m ++ rest → False := fun m rest hm hl => by
          obtain ⟨m', k1, k2, k3⟩ := g3 m rest hm hl
          have := congrArg List.length k2
          obtain ⟨t, ht⟩ := cE m'
          rw [ht, List.length_drop, List.length_append, List.length_cons] at this
          omega
        exact Fin.result (O' := (r, ⟨0, false, [.slice a l.length c, I 3]⟩) :: O) (.inr rfl) rfl rfl (fun _ hs => hs) ⟨0, l, 3, rfl, by decide, ⟨a, c, rfl, fun _ h => h, hc, (fun q => by cases q)⟩, fun _ => by decide, Nat.le_refl _, hB, fun _ m rest hm hl => (hz m rest hm hl).elim⟩)
     | exact Fin.result (O' := (r, ⟨0, false, [.slice a l.length c, I e]⟩) :: O) (.inr rfl) rfl rfl (fun _ hs => hs) ⟨0, l, e, rfl, by decide, ⟨a, c, rfl, fun _ h => h, hc, fun q => absurd q hc0⟩, fun _ => hc0, Nat.le_refl _, hB, fun q => absurd q hc0⟩
     | (have hz : ∀ m rest, m < 18446744073709551616 → l = bA m ++ rest → False := fun m rest hm hl => by
          obtain ⟨m', k1, k2, k3⟩ := g3 m rest hm hl
          obtain ⟨t, ht⟩ := cE m'
          rw [k2, ht, List.cons_append] at hdc
          injection hdc with q1 _
          have h9 : i = 9 → m' ≤ 1 := fun h => by
           subst h
           have : m' * 9223372036854775808 < 18446744073709551616 := by
            have e : (128 ^ 9 : Nat) = 9223372036854775808 := by decide
            rw [e] at k3
            omega
           omega
          split at q1 <;> omega
        exact Fin.result (O' := (r, ⟨0, false, [.slice a l.length c, I 2]⟩) :: O) (.inr rfl) rfl rfl (fun _ hs => hs) ⟨0, l, 2, rfl, by decide, ⟨a, c, rfl, fun _ h => h, hc, (fun q => by cases q)⟩, fun _ => by decide, Nat.le_refl _, hB, fun _ m rest hm hl => (hz m rest hm hl).elim⟩)
     | (have hdl : (l.drop (i + 1)).length = l.length - (i + 1) := List.length_drop
        refine Fin.result (O' := (r, ⟨0, false, [.slice (some ⟨bb, off + (i + 1) * 1, none⟩) (l.length - (i + 1)) (l.length - (i + 1)), I e]⟩) :: O) (.inr rfl) rfl rfl (fun _ hs => hs) ⟨n + (c' % 128) * u, l.drop (i + 1), e, rfl, by omega, ⟨some ⟨bb, off + (i + 1) * 1, none⟩, l.length - (i + 1), by rw [hdl], fun O2 h => by rw [hdl, List.map_drop]; exact (ha ▸ h).nn (by omega), (fun q => by cases q), fun _ => ⟨_, _, rfl⟩⟩, id, by omega, fun z hz => hB z (List.mem_of_mem_drop hz), fun he m rest hm hl => ?_⟩
        obtain ⟨m', k1, k2, k3⟩ := g3 m rest hm hl
        rw [← hu] at k3
        have hm2 : m' < 128 := by
         rcases Nat.lt_or_ge m' 128 with q | q
         · exact q
         · rw [k2, dv (by omega)] at hdc
           injection hdc with q1 _
           omega
        rw [k2, cY hm2] at hdc
        injection hdc with q1 q2
        have q3 : c' % 128 = m' := by omega
        exact ⟨by rw [q3, k3], q2.symm, he⟩)
   · try simp only [aB] at hc1
     refine WX.skip (Fin.aa (WX.seq (WX.region rfl (zm rfl (zn rfl ?_)))))
     first | refine ae.fieldAddr Met.none rfl Tryz.underlying100 rfl aO rfl ?_ | refine ae.bQ Met.none rfl Tryz.underlying100 rfl aO ?_
     first | refine ae.ld Met.none rfl aD ?_ | refine ae.ba Met.none rfl aD ?_
     refine zm rfl ?_
     first | refine ae.ix Met.none rfl rfl aQ ea ?_ | refine ae.eH Met.none rfl rfl aQ ea ?_
     first | refine ae.ld Met.none rfl iU ?_ | refine ae.ba Met.none rfl iU ?_
     refine za rfl (ae.nil (Fin.aa (WX.seq (WX.seq ?_))))
     have hil : i < l.length := by omega
     have hcB := hB _ (dK hil)
     obtain ⟨c', hc'⟩ : ∃ c' : Nat, nth l i = c' := ⟨(nth l i).toNat, by omega⟩
     have hdc := iF hil
     obtain ⟨p1, p2⟩ := oI g1
     refine WX.region rfl (zm rfl (zb rfl rfl rfl (zm rfl ?_)))
     refine ae.split (d := 33) rfl (fun hg33 => ?_) (fun hg33 => ?_)
     · try simp only [aB] at hg33
       refine ae.move (Met.some rfl rfl rfl) rfl (ae.bin (Met.some rfl rfl rfl) rfl rfl rfl (ae.bC Met.none rfl rfl (zm rfl ?_)))
       refine ae.split (d := 37) rfl (fun hg37 => ?_) (fun hg37 => ?_)
       · try simp only [aB] at hg37
         refine zs 6 37 rfl rfl rfl (zs 6 37 rfl rfl rfl (zs 6 37 rfl rfl rfl (ae.sM (j := 9) (e := 40) rfl rfl (ae.sM (j := 9) (e := 40) rfl rfl (zs 6 37 rfl rfl rfl (ae.bC Met.none rfl rfl (ae.nil (Fin.aa ?_))))))))
         refine WX.cond rfl (fun hc2 => ?_) (fun hc2 => nomatch hc2)
         refine WX.seq (WX.region rfl (zm rfl (zn rfl ?_)))
         first | refine ae.fieldAddr Met.none rfl Tryz.underlying100 rfl cu rfl ?_ | refine ae.bQ Met.none rfl Tryz.underlying100 rfl cu ?_
         refine ae.st (vs := [_]) Met.none rfl rfl rfl cu ?_
         refine ae.nil (Fin.aa (WX.exit (Fin.aF (Fin.fv rfl (Fin.aF (Fin.aN (Fin.aK rfl (Fin.aa (WX.seq (WX.region rfl (za rfl (ae.nil (Fin.aa (WX.ret ?_))))))))))))))
         first
         | (have hz : ∀ m rest, m < 18446744073709551616 → l = bA m ++ rest → False := fun m rest hm hl => by
              obtain ⟨m', k1, k2, k3⟩ := g3 m rest hm hl
              have := congrArg List.length k2
              obtain ⟨t, ht⟩ := cE m'
              rw [ht, List.length_drop, List.length_append, List.length_cons] at this
              omega
            exact Fin.result (O' := (r, ⟨0, false, [.slice a l.length c, I 3]⟩) :: O) (.inr rfl) rfl rfl (fun _ hs => hs) ⟨0, l, 3, rfl, by decide, ⟨a, c, rfl, fun _ h => h, hc, (fun q => by cases q)⟩, fun _ => by decide, Nat.le_refl _, hB, fun _ m rest hm hl => (hz m rest hm hl).elim⟩)
         | exact Fin.result (O' := (r, ⟨0, false, [.slice a l.length c, I e]⟩) :: O) (.inr rfl) rfl rfl (fun _ hs => hs) ⟨0, l, e, rfl, by decide, ⟨a, c, rfl, fun _ h => h, hc, fun q => absurd q hc0⟩, fun _ => hc0, Nat.le_refl _, hB, fun q => absurd q hc0⟩
         | (have hz : ∀ m rest, m < 18446744073709551616 → l = bA m ++ rest → False := fun m rest hm hl => by
              obtain ⟨m', k1, k2, k3⟩ := g3 m rest hm hl
              obtain ⟨t, ht⟩ := cE m'
              rw [k2, ht, List.cons_append] at hdc
              injection hdc with q1 _
              have h9 : i = 9 → m' ≤ 1 := fun h => by
               subst h
               have : m' * 9223372036854775808 < 18446744073709551616 := by
                have e : (128 ^ 9 : Nat) = 9223372036854775808 := by decide
                rw [e] at k3
                omega
               omega
              split at q1 <;> omega
            exact Fin.result (O' := (r, ⟨0, false, [.slice a l.length c, I 2]⟩) :: O) (.inr rfl) rfl rfl (fun _ hs => hs) ⟨0, l, 2, rfl, by decide, ⟨a, c, rfl, fun _ h => h, hc, (fun q => by cases q)⟩, fun _ => by decide, Nat.le_refl _, hB, fun _ m rest hm hl => (hz m rest hm hl).elim⟩)
         | (have hdl : (l.drop (i + 1)).length = l.length - (i + 1) := List.length_drop
            refine Fin.result (O' := (r, ⟨0, false, [.slice (some ⟨bb, off + (i + 1) * 1, none⟩) (l.length - (i + 1)) (l.length - (i + 1)), I e]⟩) :: O) (.inr rfl) rfl rfl (fun _ hs => hs) ⟨n + (c' % 128) * u, l.drop (i + 1), e, rfl, by omega, ⟨some ⟨bb, off + (i + 1) * 1, none⟩, l.length - (i + 1), by rw [hdl], fun O2 h => by rw [hdl, List.map_drop]; exact (ha ▸ h).nn (by omega), (fun q => by cases q), fun _ => ⟨_, _, rfl⟩⟩, id, by omega, fun z hz => hB z (List.mem_of_mem_drop hz), fun he m rest hm hl => ?_⟩
            obtain ⟨m', k1, k2, k3⟩ := g3 m rest hm hl
            rw [← hu] at k3
            have hm2 : m' < 128 := by
             rcases Nat.lt_or_ge m' 128 with q | q
             · exact q
             · rw [k2, dv (by omega)] at hdc
               injection hdc with q1 _
               omega
            rw [k2, cY hm2] at hdc
            injection hdc with q1 q2
            have q3 : c' % 128 = m' := by omega
            exact ⟨by rw [q3, k3], q2.symm, he⟩)
       · try simp only [aB] at hg37
         refine ae.move (Met.some rfl rfl rfl) rfl (ae.bin (Met.some rfl rfl rfl) rfl rfl rfl (ae.move (Met.some rfl rfl rfl) rfl ?_))
         refine ae.split (d := 40) rfl (fun hg40 => ?_) (fun hg40 => ?_)
         · try simp only [aB] at hg40
           refine ae.move (Met.some rfl rfl rfl) rfl (ae.bin (Met.some rfl rfl rfl) rfl rfl rfl (ae.bC (Met.some rfl rfl rfl) rfl rfl (ae.bd Met.none rfl rfl (ae.nil (Fin.aa ?_)))))
           refine WX.cond rfl (fun hc2 => ?_) (fun hc2 => ?_)
           · try simp only [aB] at hc2
             refine WX.seq (WX.region rfl (zm rfl (zn rfl ?_)))
             first | refine ae.fieldAddr Met.none rfl Tryz.underlying100 rfl cu rfl ?_ | refine ae.bQ Met.none rfl Tryz.underlying100 rfl cu ?_
             refine ae.st (vs := [_]) Met.none rfl rfl rfl cu ?_
             refine ae.nil (Fin.aa (WX.exit (Fin.aF (Fin.fv rfl (Fin.aF (Fin.aN (Fin.aK rfl (Fin.aa (WX.seq (WX.region rfl (za rfl (ae.nil (Fin.aa (WX.ret ?_))))))))))))))
             first
             | (have hz : ∀ m rest, m < 18446744073709551616 → l = bA m ++ rest → False := fun m rest hm hl => by
                  obtain ⟨m', k1, k2, k3⟩ := g3 m rest hm hl
                  have := congrArg List.length k2
                  obtain ⟨t, ht⟩ := cE m'
                  rw [ht, List.length_drop, List.length_append, List.length_cons] at this
                  omega
                exact Fin.result (O' := (r, ⟨0, false, [.slice a l.length c, I 3]⟩) :: O) (.inr rfl) rfl rfl (fun _ hs => hs) ⟨0, l, 3, rfl, by decide, ⟨a, c, rfl, fun _ h => h, hc, (fun q => by cases q)⟩, fun _ => by decide, Nat.le_refl _, hB, fun _ m rest hm hl => (hz m rest hm hl).elim⟩)
             | exact Fin.result (O' := (r, ⟨0, false, [.slice a l.length c, I e]⟩) :: O) (.inr rfl) rfl rfl (fun _ hs => hs) ⟨0, l, e, rfl, by decide, ⟨a, c, rfl, fun _ h => h, hc, fun q => absurd q hc0⟩, fun _ => hc0, Nat.le_refl _, hB, fun q => absurd q hc0⟩
             | (have hz : ∀ m rest, m < 18446744073709551616 → l = bA m ++ rest → False := fun m rest hm hl => by
                  obtain ⟨m', k1, k2, k3⟩ := g3 m rest hm hl
                  obtain ⟨t, ht⟩ := cE m'
                  rw [k2, ht, List.cons_append] at hdc
                  injection hdc with q1 _
                  have h9 : i = 9 → m' ≤ 1 := fun h => by
                   subst h
                   have : m' * 9223372036854775808 < 18446744073709551616 := by
                    have e : (128 ^ 9 : Nat) = 9223372036854775808 := by decide
                    rw [e] at k3
                    omega
                   omega
                  split at q1 <;> omega
                exact Fin.result (O' := (r, ⟨0, false, [.slice a l.length c, I 2]⟩) :: O) (.inr rfl) rfl rfl (fun _ hs => hs) ⟨0, l, 2, rfl, by decide, ⟨a, c, rfl, fun _ h => h, hc, (fun q => by cases q)⟩, fun _ => by decide, Nat.le_refl _, hB, fun _ m rest hm hl => (hz m rest hm hl).elim⟩)
             | (have hdl : (l.drop (i + 1)).length = l.length - (i + 1) := List.length_drop
                refine Fin.result (O' := (r, ⟨0, false, [.slice (some ⟨bb, off + (i + 1) * 1, none⟩) (l.length - (i + 1)) (l.length - (i + 1)), I e]⟩) :: O) (.inr rfl) rfl rfl (fun _ hs => hs) ⟨n + (c' % 128) * u, l.drop (i + 1), e, rfl, by omega, ⟨some ⟨bb, off + (i + 1) * 1, none⟩, l.length - (i + 1), by rw [hdl], fun O2 h => by rw [hdl, List.map_drop]; exact (ha ▸ h).nn (by omega), (fun q => by cases q), fun _ => ⟨_, _, rfl⟩⟩, id, by omega, fun z hz => hB z (List.mem_of_mem_drop hz), fun he m rest hm hl => ?_⟩
                obtain ⟨m', k1, k2, k3⟩ := g3 m rest hm hl
                rw [← hu] at k3
                have hm2 : m' < 128 := by
                 rcases Nat.lt_or_ge m' 128 with q | q
                 · exact q
                 · rw [k2, dv (by omega)] at hdc
                   injection hdc with q1 _
                   omega
                rw [k2, cY hm2] at hdc
                injection hdc with q1 q2
                have q3 : c' % 128 = m' := by omega
                exact ⟨by rw [q3, k3], q2.symm, he⟩)
           · try simp only [aB] at hc2
             refine WX.skip (Fin.aa (WX.seq ?_))
             obtain ⟨u, hu⟩ : ∃ u, u = 128 ^ i := ⟨_, rfl⟩
             have hcu : (c' % 128) * u ≤ 127 * u := Nat.mul_le_mul_right _ (by omega)
             have hi8 : i ≤ 8 → 128 * u ≤ 9223372036854775808 := fun h => by
              rw [hu, Nat.mul_comm, ← Nat.pow_succ]
              exact (oI (i := i + 1) (by omega)).2
             have hi9 : i = 9 → (c' % 128) * u ≤ 1 * u := fun h => Nat.mul_le_mul_right _ (by omega)
             rw [← hu] at g2 p1 p2 ⊢
             refine WX.region rfl (zm rfl (zm rfl ?_))
             refine ae.rem Met.none rfl rfl (by decide) ?_
             refine ae.conv Met.none rfl Tryz.underlying5 Tryz.underlying78 (show IntKind.wrap .u64 ((nth l i).tmod 128) = ((c' % 128 : Nat) : Int) from by rw [hc', Int.tmod_eq_emod_of_nonneg (by omega)]; exact (wrap_u64 (by omega) (by omega)).trans (by omega)) ?_
             refine zm rfl (ae.bin Met.none rfl rfl (show _ = some (U (((c' % 128) * u : Nat) : Int)) from congrArg (fun n => some (U n)) ((wrap_u64 (n := ((c' % 128 : Nat) : Int) * (u : Int)) (by rw [← Int.natCast_mul]; omega) (by rw [← Int.natCast_mul]; omega)).trans (Int.natCast_mul _ _).symm)) (ae.bin Met.none rfl rfl (show _ = some (U ((n + (c' % 128) * u : Nat) : Int)) from congrArg (fun n => some (U n)) ((wrap_u64 (by omega) (by omega)).trans (by omega))) (za rfl (zR rfl (zm rfl (zb rfl rfl rfl (za rfl (zR rfl (zm rfl (zb rfl rfl rfl (ae.nil (Fin.aa ?_))))))))))))
             refine WX.cond rfl (fun hc3 => ?_) (fun hc3 => ?_)
             · try simp only [aB] at hc3
               refine WX.seq ?_
               obtain ⟨bb, off, ⟨qsz, qro, qc⟩, ha, hkq, hqs⟩ := hr.some (by omega)
               have hqs : qsz = 1 := hqs
               subst hqs
               refine WX.region rfl (zm rfl (zm rfl (zn rfl ?_)))
               first | refine ae.fieldAddr Met.none rfl Tryz.underlying100 rfl aO rfl ?_ | refine ae.bQ Met.none rfl Tryz.underlying100 rfl aO ?_
               first | refine ae.ld Met.none rfl aD ?_ | refine ae.ba Met.none rfl aD ?_
               refine zm rfl (zb rfl rfl dH ?_)
               refine ae.nn (cs := []) (m := (i + 1)) Met.none rfl rfl aQ ea ha hkq.cons rfl ?_
               refine zn rfl ?_
               first | refine ae.fieldAddr Met.none rfl Tryz.underlying100 rfl aO rfl ?_ | refine ae.bQ Met.none rfl Tryz.underlying100 rfl aO ?_
               refine ae.st (vs := [_]) Met.none rfl rfl rfl aO ?_
               refine zR rfl (zm rfl (za rfl (ae.nil (Fin.aa (WX.ret (Fin.bq (Fin.az (Fin.dL (Fin.bq (Fin.az ?_))))))))))
               first
               | (have hz : ∀ m rest, m < 18446744073709551616 → l = bA m ++ rest → False := fun m rest hm hl => by
                    obtain ⟨m', k1, k2, k3⟩ := g3 m rest hm hl
                    have := congrArg List.length k2
                    obtain ⟨t, ht⟩ := cE m'
                    rw [ht, List.length_drop, List.length_append, List.length_cons] at this
                    omega
                  exact Fin.result (O' := (r, ⟨0, false, [.slice a l.length c, I 3]⟩) :: O) (.inr rfl) rfl rfl (fun _ hs => hs) ⟨0, l, 3, rfl, by decide, ⟨a, c, rfl, fun _ h => h, hc, (fun q => by cases q)⟩, fun _ => by decide, Nat.le_refl _, hB, fun _ m rest hm hl => (hz m rest hm hl).elim⟩)
               | exact Fin.result (O' := (r, ⟨0, false, [.slice a l.length c, I e]⟩) :: O) (.inr rfl) rfl rfl (fun _ hs => hs) ⟨0, l, e, rfl, by decide, ⟨a, c, rfl, fun _ h => h, hc, fun q => absurd q hc0⟩, fun _ => hc0, Nat.le_refl _, hB, fun q => absurd q hc0⟩
               | (have hz : ∀ m rest, m < 18446744073709551616 → l = bA m ++ rest → False := fun m rest hm hl => by
                    obtain ⟨m', k1, k2, k3⟩ := g3 m rest hm hl
                    obtain ⟨t, ht⟩ := cE m'
                    rw [k2, ht, List.cons_append] at hdc
                    injection hdc with q1 _
                    have h9 : i = 9 → m' ≤ 1 := fun h => by
                     subst h
                     have : m' * 9223372036854775808 < 18446744073709551616 := by
                      have e : (128 ^ 9 : Nat) = 9223372036854775808 := by decide
                      rw [e] at k3
                      omega
                     omega
                    split at q1 <;> omega
                  exact Fin.result (O' := (r, ⟨0, false, [.slice a l.length c, I 2]⟩) :: O) (.inr rfl) rfl rfl (fun _ hs => hs) ⟨0, l, 2, rfl, by decide, ⟨a, c, rfl, fun _ h => h, hc, (fun q => by cases q)⟩, fun _ => by decide, Nat.le_refl _, hB, fun _ m rest hm hl => (hz m rest hm hl).elim⟩)
               | (have hdl : (l.drop (i + 1)).length = l.length - (i + 1) := List.length_drop
                  refine Fin.result (O' := (r, ⟨0, false, [.slice (some ⟨bb, off + (i + 1) * 1, none⟩) (l.length - (i + 1)) (l.length - (i + 1)), I e]⟩) :: O) (.inr rfl) rfl rfl (fun _ hs => hs) ⟨n + (c' % 128) * u, l.drop (i + 1), e, rfl, by omega, ⟨some ⟨bb, off + (i + 1) * 1, none⟩, l.length - (i + 1), by rw [hdl], fun O2 h => by rw [hdl, List.map_drop]; exact (ha ▸ h).nn (by omega), (fun q => by cases q), fun _ => ⟨_, _, rfl⟩⟩, id, by omega, fun z hz => hB z (List.mem_of_mem_drop hz), fun he m rest hm hl => ?_⟩
                  obtain ⟨m', k1, k2, k3⟩ := g3 m rest hm hl
                  rw [← hu] at k3
                  have hm2 : m' < 128 := by
                   rcases Nat.lt_or_ge m' 128 with q | q
                   · exact q
                   · rw [k2, dv (by omega)] at hdc
                     injection hdc with q1 _
                     omega
                  rw [k2, cY hm2] at hdc
                  injection hdc with q1 q2
                  have q3 : c' % 128 = m' := by omega
                  exact ⟨by rw [q3, k3], q2.symm, he⟩)
             · try simp only [aB] at hc3
               refine WX.skip (Fin.ag (Fin.aa (WX.region rfl (zm rfl (zb rfl rfl dH (za rfl (ae.nil ?_)))))))
               refine Fin.aj (i + 1, n + (c' % 128) * u) ⟨by simp only; omega, ?_, ?_⟩ (by simp only; omega) ?_
               · simp only
                 rw [Nat.pow_succ, ← hu]
                 omega
               · intro m rest hm hl
                 obtain ⟨m', k1, k2, k3⟩ := g3 m rest hm hl
                 rw [← hu] at k3
                 have hm2 : ¬ m' < 128 := fun q => by
                  rw [k2, cY q] at hdc
                  injection hdc with q1 _
                  omega
                 rw [k2, dv hm2] at hdc
                 injection hdc with q1 q2
                 have q3 : m' % 128 = c' % 128 := by omega
                 refine ⟨m' / 128, .inr (by omega), q2.symm, ?_⟩
                 simp only
                 rw [Nat.pow_succ, ← hu, ← k3]
                 have q4 : m' = m' % 128 + 128 * (m' / 128) := by omega
                 conv => rhs; rw [q4, Nat.add_mul, q3]
                 rw [Nat.add_assoc]
                 congr 2
                 rw [Nat.mul_comm u 128, ← Nat.mul_assoc, Nat.mul_comm (m' / 128) 128]
               · rw [show IntKind.wrap .u64 ((u : Int) * 128) = ((128 ^ (i + 1) : Nat) : Int) from by
                   rw [Nat.pow_succ, ← hu]
                   exact (wrap_u64 (by omega) (by omega)).trans (by omega)]
                 exact (fun s hs => hs.tl [0] 1)
         · try simp only [aB] at hg40
           refine zs 9 40 rfl rfl rfl (zs 9 40 rfl rfl rfl (ae.bd (Met.some rfl rfl rfl) rfl rfl (ae.bd Met.none rfl rfl (ae.nil (Fin.aa ?_)))))
           refine WX.cond rfl (fun hc2 => nomatch hc2) (fun hc2 => ?_)
           refine WX.skip (Fin.aa (WX.seq ?_))
           obtain ⟨u, hu⟩ : ∃ u, u = 128 ^ i := ⟨_, rfl⟩
           have hcu : (c' % 128) * u ≤ 127 * u := Nat.mul_le_mul_right _ (by omega)
           have hi8 : i ≤ 8 → 128 * u ≤ 9223372036854775808 := fun h => by
            rw [hu, Nat.mul_comm, ← Nat.pow_succ]
            exact (oI (i := i + 1) (by omega)).2
           have hi9 : i = 9 → (c' % 128) * u ≤ 1 * u := fun h => Nat.mul_le_mul_right _ (by omega)
           rw [← hu] at g2 p1 p2 ⊢
           refine WX.region rfl (zm rfl (zm rfl ?_))
           refine ae.rem Met.none rfl rfl (by decide) ?_
           refine ae.conv Met.none rfl Tryz.underlying5 Tryz.underlying78 (show IntKind.wrap .u64 ((nth l i).tmod 128) = ((c' % 128 : Nat) : Int) from by rw [hc', Int.tmod_eq_emod_of_nonneg (by omega)]; exact (wrap_u64 (by omega) (by omega)).trans (by omega)) ?_
           refine zm rfl (ae.bin Met.none rfl rfl (show _ = some (U (((c' % 128) * u : Nat) : Int)) from congrArg (fun n => some (U n)) ((wrap_u64 (n := ((c' % 128 : Nat) : Int) * (u : Int)) (by rw [← Int.natCast_mul]; omega) (by rw [← Int.natCast_mul]; omega)).trans (Int.natCast_mul _ _).symm)) (ae.bin Met.none rfl rfl (show _ = some (U ((n + (c' % 128) * u : Nat) : Int)) from congrArg (fun n => some (U n)) ((wrap_u64 (by omega) (by omega)).trans (by omega))) (za rfl (zR rfl (zm rfl (zb rfl rfl rfl (za rfl (zR rfl (zm rfl (zb rfl rfl rfl (ae.nil (Fin.aa ?_))))))))))))
           refine WX.cond rfl (fun hc3 => ?_) (fun hc3 => ?_)
           · try simp only [aB] at hc3
             refine WX.seq ?_
             obtain ⟨bb, off, ⟨qsz, qro, qc⟩, ha, hkq, hqs⟩ := hr.some (by omega)
             have hqs : qsz = 1 := hqs
             subst hqs
             refine WX.region rfl (zm rfl (zm rfl (zn rfl ?_)))
             first | refine ae.fieldAddr Met.none rfl Tryz.underlying100 rfl aO rfl ?_ | refine ae.bQ Met.none rfl Tryz.underlying100 rfl aO ?_
             first | refine ae.ld Met.none rfl aD ?_ | refine ae.ba Met.none rfl aD ?_
             refine zm rfl (zb rfl rfl dH ?_)
             refine ae.nn (cs := []) (m := (i + 1)) Met.none rfl rfl aQ ea ha hkq.cons rfl ?_
             refine zn rfl ?_
             first | refine ae.fieldAddr Met.none rfl Tryz.underlying100 rfl aO rfl ?_ | refine ae.bQ Met.none rfl Tryz.underlying100 rfl aO ?_
             refine ae.st (vs := [_]) Met.none rfl rfl rfl aO ?_
             refine zR rfl (zm rfl (za rfl (ae.nil (Fin.aa (WX.ret (Fin.bq (Fin.az (Fin.dL (Fin.bq (Fin.az ?_))))))))))
             first
             | (have hz : ∀ m rest, m < 18446744073709551616 → l = bA m ++ rest → False := fun m rest hm hl => by
                  obtain ⟨m', k1, k2, k3⟩ := g3 m rest hm hl
                  have := congrArg List.length k2
                  obtain ⟨t, ht⟩ := cE m'
                  rw [ht, List.length_drop, List.length_append, List.length_cons] at this
                  omega
                exact Fin.result (O' := (r, ⟨0, false, [.slice a l.length c, I 3]⟩) :: O) (.inr rfl) rfl rfl (fun _ hs => hs) ⟨0, l, 3, rfl, by decide, ⟨a, c, rfl, fun _ h => h, hc, (fun q => by cases q)⟩, fun _ => by decide, Nat.le_refl _, hB, fun _ m rest hm hl => (hz m rest hm hl).elim⟩)
             | exact Fin.result (O' := (r, ⟨0, false, [.slice a l.length c, I e]⟩) :: O) (.inr rfl) rfl rfl (fun _ hs => hs) ⟨0, l, e, rfl, by decide, ⟨a, c, rfl, fun _ h => h, hc, fun q => absurd q hc0⟩, fun _ => hc0, Nat.le_refl _, hB, fun q => absurd q hc0⟩
             | (have hz : ∀ m rest, m < 18446744073709551616 → l = bA m ++ rest → False := fun m rest hm hl => by
                  obtain ⟨m', k1, k2, k3⟩ := g3 m rest hm hl
                  obtain ⟨t, ht⟩ := cE m'
                  rw [k2, ht, List.cons_append] at hdc
                  injection hdc with q1 _
                  have h9 : i = 9 → m' ≤ 1 := fun h => by
                   subst h
                   have : m' * 9223372036854775808 < 18446744073709551616 := by
                    have e : (128 ^ 9 : Nat) = 9223372036854775808 := by decide
                    rw [e] at k3
                    omega
                   omega
                  split at q1 <;> omega
                exact Fin.result (O' := (r, ⟨0, false, [.slice a l.length c, I 2]⟩) :: O) (.inr rfl) rfl rfl (fun _ hs => hs) ⟨0, l, 2, rfl, by decide, ⟨a, c, rfl, fun _ h => h, hc, (fun q => by cases q)⟩, fun _ => by decide, Nat.le_refl _, hB, fun _ m rest hm hl => (hz m rest hm hl).elim⟩)
             | (have hdl : (l.drop (i + 1)).length = l.length - (i + 1) := List.length_drop
                refine Fin.result (O' := (r, ⟨0, false, [.slice (some ⟨bb, off + (i + 1) * 1, none⟩) (l.length - (i + 1)) (l.length - (i + 1)), I e]⟩) :: O) (.inr rfl) rfl rfl (fun _ hs => hs) ⟨n + (c' % 128) * u, l.drop (i + 1), e, rfl, by omega, ⟨some ⟨bb, off + (i + 1) * 1, none⟩, l.length - (i + 1), by rw [hdl], fun O2 h => by rw [hdl, List.map_drop]; exact (ha ▸ h).nn (by omega), (fun q => by cases q), fun _ => ⟨_, _, rfl⟩⟩, id, by omega, fun z hz => hB z (List.mem_of_mem_drop hz), fun he m rest hm hl => ?_⟩
                obtain ⟨m', k1, k2, k3⟩ := g3 m rest hm hl
                rw [← hu] at k3
                have hm2 : m' < 128 := by
                 rcases Nat.lt_or_ge m' 128 with q | q
                 · exact q
                 · rw [k2, dv (by omega)] at hdc
                   injection hdc with q1 _
                   omega
                rw [k2, cY hm2] at hdc
                injection hdc with q1 q2
                have q3 : c' % 128 = m' := by omega
                exact ⟨by rw [q3, k3], q2.symm, he⟩)
           · try simp only [aB] at hc3
             refine WX.skip (Fin.ag (Fin.aa (WX.region rfl (zm rfl (zb rfl rfl dH (za rfl (ae.nil ?_)))))))
             refine Fin.aj (i + 1, n + (c' % 128) * u) ⟨by simp only; omega, ?_, ?_⟩ (by simp only; omega) ?_
             · simp only
               rw [Nat.pow_succ, ← hu]
               omega
             · intro m rest hm hl
               obtain ⟨m', k1, k2, k3⟩ := g3 m rest hm hl
               rw [← hu] at k3
               have hm2 : ¬ m' < 128 := fun q => by
                rw [k2, cY q] at hdc
                injection hdc with q1 _
                omega
               rw [k2, dv hm2] at hdc
               injection hdc with q1 q2
               have q3 : m' % 128 = c' % 128 := by omega
               refine ⟨m' / 128, .inr (by omega), q2.symm, ?_⟩
               simp only
               rw [Nat.pow_succ, ← hu, ← k3]
               have q4 : m' = m' % 128 + 128 * (m' / 128) := by omega
               conv => rhs; rw [q4, Nat.add_mul, q3]
               rw [Nat.add_assoc]
               congr 2
               rw [Nat.mul_comm u 128, ← Nat.mul_assoc, Nat.mul_comm (m' / 128) 128]
             · rw [show IntKind.wrap .u64 ((u : Int) * 128) = ((128 ^ (i + 1) : Nat) : Int) from by
                 rw [Nat.pow_succ, ← hu]
                 exact (wrap_u64 (by omega) (by omega)).trans (by omega)]
               exact (fun s hs => hs.tl [0] 1)
     · try simp only [aB] at hg33
       refine zs 2 33 rfl rfl rfl (zs 2 33 rfl rfl rfl (ae.bd Met.none rfl rfl (zm rfl (ae.move (Met.some rfl rfl rfl) rfl (ae.bin (Met.some rfl rfl rfl) rfl rfl rfl (ae.move (Met.some rfl rfl rfl) rfl ?_))))))
       refine ae.split (d := 40) rfl (fun hg40 => ?_) (fun hg40 => ?_)
       · try simp only [aB] at hg40
         refine ae.move (Met.some rfl rfl rfl) rfl (ae.bin (Met.some rfl rfl rfl) rfl rfl rfl (ae.bC (Met.some rfl rfl rfl) rfl rfl (ae.bd Met.none rfl rfl (ae.nil (Fin.aa ?_)))))
         refine WX.cond rfl (fun hc2 => ?_) (fun hc2 => ?_)
         · try simp only [aB] at hc2
           refine WX.seq (WX.region rfl (zm rfl (zn rfl ?_)))
           first | refine ae.fieldAddr Met.none rfl Tryz.underlying100 rfl cu rfl ?_ | refine ae.bQ Met.none rfl Tryz.underlying100 rfl cu ?_
           refine ae.st (vs := [_]) Met.none rfl rfl rfl cu ?_
           refine ae.nil (Fin.aa (WX.exit (Fin.aF (Fin.fv rfl (Fin.aF (Fin.aN (Fin.aK rfl (Fin.aa (WX.seq (WX.region rfl (za rfl (ae.nil (Fin.aa (WX.ret ?_))))))))))))))
           first
           | (have hz : ∀ m rest, m < 18446744073709551616 → l = bA m ++ rest → False := fun m rest hm hl => by
                obtain ⟨m', k1, k2, k3⟩ := g3 m rest hm hl
                have := congrArg List.length k2
                obtain ⟨t, ht⟩ := cE m'
                rw [ht, List.length_drop, List.length_append, List.length_cons] at this
                omega
              exact Fin.result (O' := (r, ⟨0, false, [.slice a l.length c, I 3]⟩) :: O) (.inr rfl) rfl rfl (fun _ hs => hs) ⟨0, l, 3, rfl, by decide, ⟨a, c, rfl, fun _ h => h, hc, (fun q => by cases q)⟩, fun _ => by decide, Nat.le_refl _, hB, fun _ m rest hm hl => (hz m rest hm hl).elim⟩)
           | exact Fin.result (O' := (r, ⟨0, false, [.slice a l.length c, I e]⟩) :: O) (.inr rfl) rfl rfl (fun _ hs => hs) ⟨0, l, e, rfl, by decide, ⟨a, c, rfl, fun _ h => h, hc, fun q => absurd q hc0⟩, fun _ => hc0, Nat.le_refl _, hB, fun q => absurd q hc0⟩
           | (have hz : ∀ m rest, m < 18446744073709551616 → l = bA m ++ rest → False := fun m rest hm hl => by
                obtain ⟨m', k1, k2, k3⟩ := g3 m rest hm hl
                obtain ⟨t, ht⟩ := cE m'
                rw [k2, ht, List.cons_append] at hdc
                injection hdc with q1 _
                have h9 : i = 9 → m' ≤ 1 := fun h => by
                 subst h
                 have : m' * 9223372036854775808 < 18446744073709551616 := by
                  have e : (128 ^ 9 : Nat) = 9223372036854775808 := by decide
                  rw [e] at k3
                  omega
                 omega
                split at q1 <;> omega
              exact Fin.result (O' := (r, ⟨0, false, [.slice a l.length c, I 2]⟩) :: O) (.inr rfl) rfl rfl (fun _ hs => hs) ⟨0, l, 2, rfl, by decide, ⟨a, c, rfl, fun _ h => h, hc, (fun q => by cases q)⟩, fun _ => by decide, Nat.le_refl _, hB, fun _ m rest hm hl => (hz m rest hm hl).elim⟩)
           | (have hdl : (l.drop (i + 1)).length = l.length - (i + 1) := List.length_drop
              refine Fin.result (O' := (r, ⟨0, false, [.slice (some ⟨bb, off + (i + 1) * 1, none⟩) (l.length - (i + 1)) (l.length - (i + 1)), I e]⟩) :: O) (.inr rfl) rfl rfl (fun _ hs => hs) ⟨n + (c' % 128) * u, l.drop (i + 1), e, rfl, by omega, ⟨some ⟨bb, off + (i + 1) * 1, none⟩, l.length - (i + 1), by rw [hdl], fun O2 h => by rw [hdl, List.map_drop]; exact (ha ▸ h).nn (by omega), (fun q => by cases q), fun _ => ⟨_, _, rfl⟩⟩, id, by omega, fun z hz => hB z (List.mem_of_mem_drop hz), fun he m rest hm hl => ?_⟩
              obtain ⟨m', k1, k2, k3⟩ := g3 m rest hm hl
              rw [← hu] at k3
              have hm2 : m' < 128 := by
               rcases Nat.lt_or_ge m' 128 with q | q
               · exact q
               · rw [k2, dv (by omega)] at hdc
                 injection hdc with q1 _
                 omega
              rw [k2, cY hm2] at hdc
              injection hdc with q1 q2
              have q3 : c' % 128 = m' := by omega
              exact ⟨by rw [q3, k3], q2.symm, he⟩)
         · try simp only [aB] at hc2
           refine WX.skip (Fin.aa (WX.seq ?_))
           obtain ⟨u, hu⟩ : ∃ u, u = 128 ^ i := ⟨_, rfl⟩
           have hcu : (c' % 128) * u ≤ 127 * u := Nat.mul_le_mul_right _ (by omega)
           have hi8 : i ≤ 8 → 128 * u ≤ 9223372036854775808 := fun h => by
            rw [hu, Nat.mul_comm, ← Nat.pow_succ]
            exact (oI (i := i + 1) (by omega)).2
           have hi9 : i = 9 → (c' % 128) * u ≤ 1 * u := fun h => Nat.mul_le_mul_right _ (by omega)
           rw [← hu] at g2 p1 p2 ⊢
           refine WX.region rfl (zm rfl (zm rfl ?_))
           refine ae.rem Met.none rfl rfl (by decide) ?_
           refine ae.conv Met.none rfl Tryz.underlying5 Tryz.underlying78 (show IntKind.wrap .u64 ((nth l i).tmod 128) = ((c' % 128 : Nat) : Int) from by rw [hc', Int.tmod_eq_emod_of_nonneg (by omega)]; exact (wrap_u64 (by omega) (by omega)).trans (by omega)) ?_
           refine zm rfl (ae.bin Met.none rfl rfl (show _ = some (U (((c' % 128) * u : Nat) : Int)) from congrArg (fun n => some (U n)) ((wrap_u64 (n := ((c' % 128 : Nat) : Int) * (u : Int)) (by rw [← Int.natCast_mul]; omega) (by rw [← Int.natCast_mul]; omega)).trans (Int.natCast_mul _ _).symm)) (ae.bin Met.none rfl rfl (show _ = some (U ((n + (c' % 128) * u : Nat) : Int)) from congrArg (fun n => some (U n)) ((wrap_u64 (by omega) (by omega)).trans (by omega))) (za rfl (zR rfl (zm rfl (zb rfl rfl rfl (za rfl (zR rfl (zm rfl (zb rfl rfl rfl (ae.nil (Fin.aa ?_))))))))))))
           refine WX.cond rfl (fun hc3 => ?_) (fun hc3 => ?_)
           · try simp only [aB] at hc3
             refine WX.seq ?_
             obtain ⟨bb, off, ⟨qsz, qro, qc⟩, ha, hkq, hqs⟩ := hr.some (by omega)
             have hqs : qsz = 1 := hqs
             subst hqs
             refine WX.region rfl (zm rfl (zm rfl (zn rfl ?_)))
             first | refine ae.fieldAddr Met.none rfl Tryz.underlying100 rfl aO rfl ?_ | refine ae.bQ Met.none rfl Tryz.underlying100 rfl aO ?_
             first | refine ae.ld Met.none rfl aD ?_ | refine ae.ba Met.none rfl aD ?_
             refine zm rfl (zb rfl rfl dH ?_)
             refine ae.nn (cs := []) (m := (i + 1)) Met.none rfl rfl aQ ea ha hkq.cons rfl ?_
             refine zn rfl ?_
             first | refine ae.fieldAddr Met.none rfl Tryz.underlying100 rfl aO rfl ?_ | refine ae.bQ Met.none rfl Tryz.underlying100 rfl aO ?_
             refine ae.st (vs := [_]) Met.none rfl rfl rfl aO ?_
             refine zR rfl (zm rfl (za rfl (ae.nil (Fin.aa (WX.ret (Fin.bq (Fin.az (Fin.dL (Fin.bq (Fin.az ?_))))))))))
             first
             | (have hz : ∀ m rest, m < 18446744073709551616 → l = bA m ++ rest → False := fun m rest hm hl => by
                  obtain ⟨m', k1, k2, k3⟩ := g3 m rest hm hl
                  have := congrArg List.length k2
                  obtain ⟨t, ht⟩ := cE m'
                  rw [ht, List.length_drop, List.length_append, List.length_cons] at this
                  omega
                exact Fin.result (O' := (r, ⟨0, false, [.slice a l.length c, I 3]⟩) :: O) (.inr rfl) rfl rfl (fun _ hs => hs) ⟨0, l, 3, rfl, by decide, ⟨a, c, rfl, fun _ h => h, hc, (fun q => by cases q)⟩, fun _ => by decide, Nat.le_refl _, hB, fun _ m rest hm hl => (hz m rest hm hl).elim⟩)
             | exact Fin.result (O' := (r, ⟨0, false, [.slice a l.length c, I e]⟩) :: O) (.inr rfl) rfl rfl (fun _ hs => hs) ⟨0, l, e, rfl, by decide, ⟨a, c, rfl, fun _ h => h, hc, fun q => absurd q hc0⟩, fun _ => hc0, Nat.le_refl _, hB, fun q => absurd q hc0⟩
             | (have hz : ∀ m rest, m < 18446744073709551616 → l = bA m ++ rest → False := fun m rest hm hl => by
                  obtain ⟨m', k1, k2, k3⟩ := g3 m rest hm hl
                  obtain ⟨t, ht⟩ := cE m'
                  rw [k2, ht, List.cons_append] at hdc
                  injection hdc with q1 _
                  have h9 : i = 9 → m' ≤ 1 := fun h => by
                   subst h
                   have : m' * 9223372036854775808 < 18446744073709551616 := by
                    have e : (128 ^ 9 : Nat) = 9223372036854775808 := by decide
                    rw [e] at k3
                    omega
                   omega
                  split at q1 <;> omega
                exact Fin.result (O' := (r, ⟨0, false, [.slice a l.length c, I 2]⟩) :: O) (.inr rfl) rfl rfl (fun _ hs => hs) ⟨0, l, 2, rfl, by decide, ⟨a, c, rfl, fun _ h => h, hc, (fun q => by cases q)⟩, fun _ => by decide, Nat.le_refl _, hB, fun _ m rest hm hl => (hz m rest hm hl).elim⟩)
             | (have hdl : (l.drop (i + 1)).length = l.length - (i + 1) := List.length_drop
                refine Fin.result (O' := (r, ⟨0, false, [.slice (some ⟨bb, off + (i + 1) * 1, none⟩) (l.length - (i + 1)) (l.length - (i + 1)), I e]⟩) :: O) (.inr rfl) rfl rfl (fun _ hs => hs) ⟨n + (c' % 128) * u, l.drop (i + 1), e, rfl, by omega, ⟨some ⟨bb, off + (i + 1) * 1, none⟩, l.length - (i + 1), by rw [hdl], fun O2 h => by rw [hdl, List.map_drop]; exact (ha ▸ h).nn (by omega), (fun q => by cases q), fun _ => ⟨_, _, rfl⟩⟩, id, by omega, fun z hz => hB z (List.mem_of_mem_drop hz), fun he m rest hm hl => ?_⟩
                obtain ⟨m', k1, k2, k3⟩ := g3 m rest hm hl
                rw [← hu] at k3
                have hm2 : m' < 128 := by
                 rcases Nat.lt_or_ge m' 128 with q | q
                 · exact q
                 · rw [k2, dv (by omega)] at hdc
                   injection hdc with q1 _
                   omega
                rw [k2, cY hm2] at hdc
                injection hdc with q1 q2
                have q3 : c' % 128 = m' := by omega
                exact ⟨by rw [q3, k3], q2.symm, he⟩)
           · try simp only [aB] at hc3
             refine WX.skip (Fin.ag (Fin.aa (WX.region rfl (zm rfl (zb rfl rfl dH (za rfl (ae.nil ?_)))))))
             refine Fin.aj (i + 1, n + (c' % 128) * u) ⟨by simp only; omega, ?_, ?_⟩ (by simp only; omega) ?_
             · simp only
               rw [Nat.pow_succ, ← hu]
               omega
             · intro m rest hm hl
               obtain ⟨m', k1, k2, k3⟩ := g3 m rest hm hl
               rw [← hu] at k3
               have hm2 : ¬ m' < 128 := fun q => by
                rw [k2, cY q] at hdc
                injection hdc with q1 _
                omega
               rw [k2, dv hm2] at hdc
               injection hdc with q1 q2
               have q3 : m' % 128 = c' % 128 := by omega
               refine ⟨m' / 128, .inr (by omega), q2.symm, ?_⟩
               simp only
               rw [Nat.pow_succ, ← hu, ← k3]
               have q4 : m' = m' % 128 + 128 * (m' / 128) := by omega
               conv => rhs; rw [q4, Nat.add_mul, q3]
               rw [Nat.add_assoc]
               congr 2
               rw [Nat.mul_comm u 128, ← Nat.mul_assoc, Nat.mul_comm (m' / 128) 128]
             · rw [show IntKind.wrap .u64 ((u : Int) * 128) = ((128 ^ (i + 1) : Nat) : Int) from by
                 rw [Nat.pow_succ, ← hu]
                 exact (wrap_u64 (by omega) (by omega)).trans (by omega)]
               exact (fun s hs => hs.tl [0] 1)
       · try simp only [aB] at hg40
         refine zs 9 40 rfl rfl rfl (zs 9 40 rfl rfl rfl (ae.bd (Met.some rfl rfl rfl) rfl rfl (ae.bd Met.none rfl rfl (ae.nil (Fin.aa ?_)))))
         refine WX.cond rfl (fun hc2 => nomatch hc2) (fun hc2 => ?_)
         refine WX.skip (Fin.aa (WX.seq ?_))
         obtain ⟨u, hu⟩ : ∃ u, u = 128 ^ i := ⟨_, rfl⟩
         have hcu : (c' % 128) * u ≤ 127 * u := Nat.mul_le_mul_right _ (by omega)
         have hi8 : i ≤ 8 → 128 * u ≤ 9223372036854775808 := fun h => by
          rw [hu, Nat.mul_comm, ← Nat.pow_succ]
          exact (oI (i := i + 1) (by omega)).2
         have hi9 : i = 9 → (c' % 128) * u ≤ 1 * u := fun h => Nat.mul_le_mul_right _ (by omega)
         rw [← hu] at g2 p1 p2 ⊢
         refine WX.region rfl (zm rfl (zm rfl ?_))
         refine ae.rem Met.none rfl rfl (by decide) ?_
         refine ae.conv Met.none rfl Tryz.underlying5 Tryz.underlying78 (show IntKind.wrap .u64 ((nth l i).tmod 128) = ((c' % 128 : Nat) : Int) from by rw [hc', Int.tmod_eq_emod_of_nonneg (by omega)]; exact (wrap_u64 (by omega) (by omega)).trans (by omega)) ?_
         refine zm rfl (ae.bin Met.none rfl rfl (show _ = some (U (((c' % 128) * u : Nat) : Int)) from congrArg (fun n => some (U n)) ((wrap_u64 (n := ((c' % 128 : Nat) : Int) * (u : Int)) (by rw [← Int.natCast_mul]; omega) (by rw [← Int.natCast_mul]; omega)).trans (Int.natCast_mul _ _).symm)) (ae.bin Met.none rfl rfl (show _ = some (U ((n + (c' % 128) * u : Nat) : Int)) from congrArg (fun n => some (U n)) ((wrap_u64 (by omega) (by omega)).trans (by omega))) (za rfl (zR rfl (zm rfl (zb rfl rfl rfl (za rfl (zR rfl (zm rfl (zb rfl rfl rfl (ae.nil (Fin.aa ?_))))))))))))
         refine WX.cond rfl (fun hc3 => ?_) (fun hc3 => ?_)
         · try simp only [aB] at hc3
           refine WX.seq ?_
           obtain ⟨bb, off, ⟨qsz, qro, qc⟩, ha, hkq, hqs⟩ := hr.some (by omega)
           have hqs : qsz = 1 := hqs
           subst hqs
           refine WX.region rfl (zm rfl (zm rfl (zn rfl ?_)))
           first | refine ae.fieldAddr Met.none rfl Tryz.underlying100 rfl aO rfl ?_ | refine ae.bQ Met.none rfl Tryz.underlying100 rfl aO ?_
           first | refine ae.ld Met.none rfl aD ?_ | refine ae.ba Met.none rfl aD ?_
           refine zm rfl (zb rfl rfl dH ?_)
           refine ae.nn (cs := []) (m := (i + 1)) Met.none rfl rfl aQ ea ha hkq.cons rfl ?_
           refine zn rfl ?_
           first | refine ae.fieldAddr Met.none rfl Tryz.underlying100 rfl aO rfl ?_ | refine ae.bQ Met.none rfl Tryz.underlying100 rfl aO ?_
           refine ae.st (vs := [_]) Met.none rfl rfl rfl aO ?_
           refine zR rfl (zm rfl (za rfl (ae.nil (Fin.aa (WX.ret (Fin.bq (Fin.az (Fin.dL (Fin.bq (Fin.az ?_))))))))))
           first
           | (have hz : ∀ m rest, m < 18446744073709551616 → l = bA m ++ rest → False := fun m rest hm hl => by
                obtain ⟨m', k1, k2, k3⟩ := g3 m rest hm hl
                have := congrArg List.length k2
                obtain ⟨t, ht⟩ := cE m'
                rw [ht, List.length_drop, List.length_append, List.length_cons] at this
                omega
              exact Fin.result (O' := (r, ⟨0, false, [.slice a l.length c, I 3]⟩) :: O) (.inr rfl) rfl rfl (fun _ hs => hs) ⟨0, l, 3, rfl, by decide, ⟨a, c, rfl, fun _ h => h, hc, (fun q => by cases q)⟩, fun _ => by decide, Nat.le_refl _, hB, fun _ m rest hm hl => (hz m rest hm hl).elim⟩)
           | exact Fin.result (O' := (r, ⟨0, false, [.slice a l.length c, I e]⟩) :: O) (.inr rfl) rfl rfl (fun _ hs => hs) ⟨0, l, e, rfl, by decide, ⟨a, c, rfl, fun _ h => h, hc, fun q => absurd q hc0⟩, fun _ => hc0, Nat.le_refl _, hB, fun q => absurd q hc0⟩
           | (have hz : ∀ m rest, m < 18446744073709551616 → l = bA m ++ rest → False := fun m rest hm hl => by
                obtain ⟨m', k1, k2, k3⟩ := g3 m rest hm hl
                obtain ⟨t, ht⟩ := cE m'
                rw [k2, ht, List.cons_append] at hdc
                injection hdc with q1 _
                have h9 : i = 9 → m' ≤ 1 := fun h => by
                 subst h
                 have : m' * 9223372036854775808 < 18446744073709551616 := by
                  have e : (128 ^ 9 : Nat) = 9223372036854775808 := by decide
                  rw [e] at k3
                  omega
                 omega
                split at q1 <;> omega
              exact Fin.result (O' := (r, ⟨0, false, [.slice a l.length c, I 2]⟩) :: O) (.inr rfl) rfl rfl (fun _ hs => hs) ⟨0, l, 2, rfl, by decide, ⟨a, c, rfl, fun _ h => h, hc, (fun q => by cases q)⟩, fun _ => by decide, Nat.le_refl _, hB, fun _ m rest hm hl => (hz m rest hm hl).elim⟩)
           | (have hdl : (l.drop (i + 1)).length = l.length - (i + 1) := List.length_drop
              refine Fin.result (O' := (r, ⟨0, false, [.slice (some ⟨bb, off + (i + 1) * 1, none⟩) (l.length - (i + 1)) (l.length - (i + 1)), I e]⟩) :: O) (.inr rfl) rfl rfl (fun _ hs => hs) ⟨n + (c' % 128) * u, l.drop (i + 1), e, rfl, by omega, ⟨some ⟨bb, off + (i + 1) * 1, none⟩, l.length - (i + 1), by rw [hdl], fun O2 h => by rw [hdl, List.map_drop]; exact (ha ▸ h).nn (by omega), (fun q => by cases q), fun _ => ⟨_, _, rfl⟩⟩, id, by omega, fun z hz => hB z (List.mem_of_mem_drop hz), fun he m rest hm hl => ?_⟩
              obtain ⟨m', k1, k2, k3⟩ := g3 m rest hm hl
              rw [← hu] at k3
              have hm2 : m' < 128 := by
               rcases Nat.lt_or_ge m' 128 with q | q
               · exact q
               · rw [k2, dv (by omega)] at hdc
                 injection hdc with q1 _
                 omega
              rw [k2, cY hm2] at hdc
              injection hdc with q1 q2
              have q3 : c' % 128 = m' := by omega
              exact ⟨by rw [q3, k3], q2.symm, he⟩)
         · try simp only [aB] at hc3
           refine WX.skip (Fin.ag (Fin.aa (WX.region rfl (zm rfl (zb rfl rfl dH (za rfl (ae.nil ?_)))))))
           refine Fin.aj (i + 1, n + (c' % 128) * u) ⟨by simp only; omega, ?_, ?_⟩ (by simp only; omega) ?_
           · simp only
             rw [Nat.pow_succ, ← hu]
             omega
           · intro m rest hm hl
             obtain ⟨m', k1, k2, k3⟩ := g3 m rest hm hl
             rw [← hu] at k3
             have hm2 : ¬ m' < 128 := fun q => by
              rw [k2, cY q] at hdc
              injection hdc with q1 _
              omega
             rw [k2, dv hm2] at hdc
             injection hdc with q1 q2
             have q3 : m' % 128 = c' % 128 := by omega
             refine ⟨m' / 128, .inr (by omega), q2.symm, ?_⟩
             simp only
             rw [Nat.pow_succ, ← hu, ← k3]
             have q4 : m' = m' % 128 + 128 * (m' / 128) := by omega
             conv => rhs; rw [q4, Nat.add_mul, q3]
             rw [Nat.add_assoc]
             congr 2
             rw [Nat.mul_comm u 128, ← Nat.mul_assoc, Nat.mul_comm (m' / 128) 128]
           · rw [show IntKind.wrap .u64 ((u : Int) * 128) = ((128 ^ (i + 1) : Nat) : Int) from by
               rw [Nat.pow_succ, ← hu]
               exact (wrap_u64 (by omega) (by omega)).trans (by omega)]
             exact (fun s hs => hs.tl [0] 1)
 · try simp only [aB] at hc0
   refine WX.exit (Fin.aF (Fin.aN (Fin.aK rfl (Fin.aa (WX.seq (WX.region rfl (za rfl (ae.nil (Fin.aa (WX.ret ?_))))))))))
   first
   | (have hz : ∀ m rest, m < 18446744073709551616 → l = bA m ++ rest → False := fun m rest hm hl => by
        obtain ⟨m', k1, k2, k3⟩ := g3 m rest hm hl
        have := congrArg List.length k2
        obtain ⟨t, ht⟩ := cE m'
        rw [ht, List.length_drop, List.length_append, List.length_cons] at this
        omega
      exact Fin.result (O' := (r, ⟨0, false, [.slice a l.length c, I 3]⟩) :: O) (.inr rfl) rfl rfl (fun _ hs => hs) ⟨0, l, 3, rfl, by decide, ⟨a, c, rfl, fun _ h => h, hc, (fun q => by cases q)⟩, fun _ => by decide, Nat.le_refl _, hB, fun _ m rest hm hl => (hz m rest hm hl).elim⟩)
   | exact Fin.result (O' := (r, ⟨0, false, [.slice a l.length c, I e]⟩) :: O) (.inr rfl) rfl rfl (fun _ hs => hs) ⟨0, l, e, rfl, by decide, ⟨a, c, rfl, fun _ h => h, hc, fun q => absurd q hc0⟩, fun _ => hc0, Nat.le_refl _, hB, fun q => absurd q hc0⟩
   | (have hz : ∀ m rest, m < 18446744073709551616 → l = bA m ++ rest → False := fun m rest hm hl => by
        obtain ⟨m', k1, k2, k3⟩ := g3 m rest hm hl
        obtain ⟨t, ht⟩ := cE m'
        rw [k2, ht, List.cons_append] at hdc
        injection hdc with q1 _
        have h9 : i = 9 → m' ≤ 1 := fun h => by
         subst h
         have : m' * 9223372036854775808 < 18446744073709551616 := by
          have e : (128 ^ 9 : Nat) = 9223372036854775808 := by decide
          rw [e] at k3
          omega
         omega
        split at q1 <;> omega
      exact Fin.result (O' := (r, ⟨0, false, [.slice a l.length c, I 2]⟩) :: O) (.inr rfl) rfl rfl (fun _ hs => hs) ⟨0, l, 2, rfl, by decide, ⟨a, c, rfl, fun _ h => h, hc, (fun q => by cases q)⟩, fun _ => by decide, Nat.le_refl _, hB, fun _ m rest hm hl => (hz m rest hm hl).elim⟩)
   | (have hdl : (l.drop (i + 1)).length = l.length - (i + 1) := List.length_drop
      refine Fin.result (O' := (r, ⟨0, false, [.slice (some ⟨bb, off + (i + 1) * 1, none⟩) (l.length - (i + 1)) (l.length - (i + 1)), I e]⟩) :: O) (.inr rfl) rfl rfl (fun _ hs => hs) ⟨n + (c' % 128) * u, l.drop (i + 1), e, rfl, by omega, ⟨some ⟨bb, off + (i + 1) * 1, none⟩, l.length - (i + 1), by rw [hdl], fun O2 h => by rw [hdl, List.map_drop]; exact (ha ▸ h).nn (by omega), (fun q => by cases q), fun _ => ⟨_, _, rfl⟩⟩, id, by omega, fun z hz => hB z (List.mem_of_mem_drop hz), fun he m rest hm hl => ?_⟩
      obtain ⟨m', k1, k2, k3⟩ := g3 m rest hm hl
      rw [← hu] at k3
      have hm2 : m' < 128 := by
       rcases Nat.lt_or_ge m' 128 with q | q
       · exact q
       · rw [k2, dv (by omega)] at hdc
         injection hdc with q1 _
         omega
      rw [k2, cY hm2] at hdc
      injection hdc with q1 q2
      have q3 : c' % 128 = m' := by omega
      exact ⟨by rw [q3, k3], q2.symm, he⟩)
theorem p5 (O : an) (r : Nat) (l : List Int) (e : Int) (a : Option Addr) (c : Nat) (hB : Bytes l) (hlen : l.length ≤ 1000000000000) (hr : bK O 1 a l.length (l.map B8)) (hc : a = none → c = 0) :
  Spec Tryz.prog false 81 #[Ptr r 0] ((r, ⟨0, false, [.slice a l.length c, I e]⟩) :: O) fun v O' => ∃ n l' e', v = I (n : Nat) ∧ (e' = 0 → n ≤ l'.length) ∧ yN O r a l l' e' O' ∧ (e ≠ 0 → e' ≠ 0) ∧ l'.length ≤ l.length ∧ Bytes l' ∧ (e = 0 → ∀ m rest, m < 18446744073709551616 → m ≤ rest.length → l = bA m ++ rest → n = m ∧ l' = rest ∧ e' = 0) := by
 refine Spec.enter (args := [_]) (m := 31) Tryz.func81 rfl rfl (by decide +kernel) fun h0 => ?_
 refine WX.seq (WX.region rfl (za rfl (zR rfl (zm rfl ?_))))
 refine ae.cl (O1 := _) Met.none rfl (ah Tryz.func83 (by decide +kernel)) rfl (fun _ h => h) (mV O r l e a c hB hlen hr hc) (fun v O' hp => ?_)
 obtain ⟨n, l1, e1, rfl, hn, ⟨a1, c1, rfl, kr1, kc1, ka1⟩, he1, hl1, hB1, hm1⟩ := hp
 have hr1 := kr1 O hr
 refine za rfl (ae.nil (Fin.aa (WX.seq (WX.seq (WX.region rfl (zm rfl (zn rfl ?_)))))))
 first | refine ae.fieldAddr Met.none rfl Tryz.underlying100 rfl cu rfl ?_ | refine ae.bQ Met.none rfl Tryz.underlying100 rfl cu ?_
 first | refine ae.ld Met.none rfl bX ?_ | refine ae.ba Met.none rfl bX ?_
 refine zb rfl rfl rfl (zm rfl ?_)
 refine ae.split (d := 11) rfl (fun hg11 => ?_) (fun hg11 => ?_)
 · try simp only [aB] at hg11
   refine ae.move (Met.some rfl rfl rfl) rfl (ae.move (Met.some rfl rfl rfl) rfl (ae.nilCheck (Met.some rfl rfl rfl) rfl ?_))
   first | refine ae.fieldAddr (Met.some rfl rfl rfl) rfl Tryz.underlying100 rfl aO rfl ?_ | refine ae.bQ (Met.some rfl rfl rfl) rfl Tryz.underlying100 rfl aO ?_
   first | refine ae.ld (Met.some rfl rfl rfl) rfl aD ?_ | refine ae.ba (Met.some rfl rfl rfl) rfl aD ?_
   refine ae.len (Met.some rfl rfl rfl) rfl Tryz.underlying39 ?_
   refine ae.conv (Met.some rfl rfl rfl) rfl Tryz.underlying3 Tryz.underlying78 (wrap_u64 (by omega) (by omega)) ?_
   refine ae.bin (Met.some rfl rfl rfl) rfl rfl rfl (ae.bC Met.none rfl rfl (ae.nil (Fin.aa ?_)))
   refine WX.cond rfl (fun hc0 => ?_) (fun hc0 => ?_)
   · try simp only [aB] at hc0
     refine WX.region rfl (zm rfl (zn rfl ?_))
     first | refine ae.fieldAddr Met.none rfl Tryz.underlying100 rfl cu rfl ?_ | refine ae.bQ Met.none rfl Tryz.underlying100 rfl cu ?_
     refine ae.st (vs := [_]) Met.none rfl rfl rfl cu ?_
     refine ae.nil (Fin.aa (WX.seq (WX.seq (WX.region rfl (zm rfl (zn rfl ?_))))))
     first | refine ae.fieldAddr Met.none rfl Tryz.underlying100 rfl cu rfl ?_ | refine ae.bQ Met.none rfl Tryz.underlying100 rfl cu ?_
     first | refine ae.ld Met.none rfl bX ?_ | refine ae.ba Met.none rfl bX ?_
     refine zb rfl rfl rfl (ae.nil (Fin.aa ?_))
     refine WX.cond rfl (fun hc1 => ?_) (fun hc1 => ?_)
     · try simp only [aB] at hc1
       refine WX.seq (WX.region rfl (za rfl (ae.nil (Fin.aa (WX.ret (Fin.az ?_))))))
       first
       | exact Fin.result (O' := (r, ⟨0, false, [.slice a1 l1.length c1, I e1]⟩) :: O) (.inr rfl) rfl rfl (fun _ hs => hs) ⟨n, l1, e1, rfl, fun _ => by omega, ⟨a1, c1, rfl, kr1, kc1, ka1⟩, he1, hl1, hB1, fun he m rest hm _ hl => hm1 he m rest hm hl⟩
       | exact Fin.result (O' := (r, ⟨0, false, [.slice a1 l1.length c1, I 3]⟩) :: O) (.inr rfl) rfl rfl (fun _ hs => hs) ⟨0, l1, 3, rfl, fun _ => by omega, ⟨a1, c1, rfl, kr1, kc1, (fun q => by cases q)⟩, fun _ => by decide, hl1, hB1, fun he m rest hm hm2 hl => by
         obtain ⟨q1, q2, q3⟩ := hm1 he m rest hm hl
         subst q1 q2
         omega⟩
       | exact Fin.result (O' := (r, ⟨0, false, [.slice a1 l1.length c1, I e1]⟩) :: O) (.inr rfl) rfl rfl (fun _ hs => hs) ⟨0, l1, e1, rfl, fun _ => by omega, ⟨a1, c1, rfl, kr1, kc1, ka1⟩, he1, hl1, hB1, fun he m rest hm hm2 hl => by
         obtain ⟨q1, q2, q3⟩ := hm1 he m rest hm hl
         omega⟩
       | exact absurd hc1 (by decide)
     · try simp only [aB] at hc1
       refine WX.skip (Fin.aa (WX.seq (WX.region rfl (zm rfl ?_))))
       refine ae.conv Met.none rfl Tryz.underlying78 Tryz.underlying3 (wrap_i64 (by omega) (by omega)) ?_
       refine za rfl (ae.nil (Fin.aa (WX.ret ?_)))
       first
       | exact Fin.result (O' := (r, ⟨0, false, [.slice a1 l1.length c1, I e1]⟩) :: O) (.inr rfl) rfl rfl (fun _ hs => hs) ⟨n, l1, e1, rfl, fun _ => by omega, ⟨a1, c1, rfl, kr1, kc1, ka1⟩, he1, hl1, hB1, fun he m rest hm _ hl => hm1 he m rest hm hl⟩
       | exact Fin.result (O' := (r, ⟨0, false, [.slice a1 l1.length c1, I 3]⟩) :: O) (.inr rfl) rfl rfl (fun _ hs => hs) ⟨0, l1, 3, rfl, fun _ => by omega, ⟨a1, c1, rfl, kr1, kc1, (fun q => by cases q)⟩, fun _ => by decide, hl1, hB1, fun he m rest hm hm2 hl => by
         obtain ⟨q1, q2, q3⟩ := hm1 he m rest hm hl
         subst q1 q2
         omega⟩
       | exact Fin.result (O' := (r, ⟨0, false, [.slice a1 l1.length c1, I e1]⟩) :: O) (.inr rfl) rfl rfl (fun _ hs => hs) ⟨0, l1, e1, rfl, fun _ => by omega, ⟨a1, c1, rfl, kr1, kc1, ka1⟩, he1, hl1, hB1, fun he m rest hm hm2 hl => by
         obtain ⟨q1, q2, q3⟩ := hm1 he m rest hm hl
         omega⟩
       | exact absurd hc1 (by decide)
   · try simp only [aB] at hc0
     refine WX.skip (Fin.aa (WX.seq (WX.seq (WX.region rfl (zm rfl (zn rfl ?_))))))
     first | refine ae.fieldAddr Met.none rfl Tryz.underlying100 rfl cu rfl ?_ | refine ae.bQ Met.none rfl Tryz.underlying100 rfl cu ?_
     first | refine ae.ld Met.none rfl bX ?_ | refine ae.ba Met.none rfl bX ?_
     refine zb rfl rfl rfl (ae.nil (Fin.aa ?_))
     refine WX.cond rfl (fun hc1 => ?_) (fun hc1 => ?_)
     · try simp only [aB] at hc1
       refine WX.seq (WX.region rfl (za rfl (ae.nil (Fin.aa (WX.ret (Fin.az ?_))))))
       first
       | exact Fin.result (O' := (r, ⟨0, false, [.slice a1 l1.length c1, I e1]⟩) :: O) (.inr rfl) rfl rfl (fun _ hs => hs) ⟨n, l1, e1, rfl, fun _ => by omega, ⟨a1, c1, rfl, kr1, kc1, ka1⟩, he1, hl1, hB1, fun he m rest hm _ hl => hm1 he m rest hm hl⟩
       | exact Fin.result (O' := (r, ⟨0, false, [.slice a1 l1.length c1, I 3]⟩) :: O) (.inr rfl) rfl rfl (fun _ hs => hs) ⟨0, l1, 3, rfl, fun _ => by omega, ⟨a1, c1, rfl, kr1, kc1, (fun q => by cases q)⟩, fun _ => by decide, hl1, hB1, fun he m rest hm hm2 hl => by
         obtain ⟨q1, q2, q3⟩ := hm1 he m rest hm hl
         subst q1 q2
         omega⟩
       | exact Fin.result (O' := (r, ⟨0, false, [.slice a1 l1.length c1, I e1]⟩) :: O) (.inr rfl) rfl rfl (fun _ hs => hs) ⟨0, l1, e1, rfl, fun _ => by omega, ⟨a1, c1, rfl, kr1, kc1, ka1⟩, he1, hl1, hB1, fun he m rest hm hm2 hl => by
         obtain ⟨q1, q2, q3⟩ := hm1 he m rest hm hl
         omega⟩
       | exact absurd hc1 (by decide)
     · try simp only [aB] at hc1
       refine WX.skip (Fin.aa (WX.seq (WX.region rfl (zm rfl ?_))))
       refine ae.conv Met.none rfl Tryz.underlying78 Tryz.underlying3 (wrap_i64 (by omega) (by omega)) ?_
       refine za rfl (ae.nil (Fin.aa (WX.ret ?_)))
       first
       | exact Fin.result (O' := (r, ⟨0, false, [.slice a1 l1.length c1, I e1]⟩) :: O) (.inr rfl) rfl rfl (fun _ hs => hs) ⟨n, l1, e1, rfl, fun _ => by omega, ⟨a1, c1, rfl, kr1, kc1, ka1⟩, he1, hl1, hB1, fun he m rest hm _ hl => hm1 he m rest hm hl⟩
       | exact Fin.result (O' := (r, ⟨0, false, [.slice a1 l1.length c1, I 3]⟩) :: O) (.inr rfl) rfl rfl (fun _ hs => hs) ⟨0, l1, 3, rfl, fun _ => by omega, ⟨a1, c1, rfl, kr1, kc1, (fun q => by cases q)⟩, fun _ => by decide, hl1, hB1, fun he m rest hm hm2 hl => by
         obtain ⟨q1, q2, q3⟩ := hm1 he m rest hm hl
         subst q1 q2
         omega⟩
       | exact Fin.result (O' := (r, ⟨0, false, [.slice a1 l1.length c1, I e1]⟩) :: O) (.inr rfl) rfl rfl (fun _ hs => hs) ⟨0, l1, e1, rfl, fun _ => by omega, ⟨a1, c1, rfl, kr1, kc1, ka1⟩, he1, hl1, hB1, fun he m rest hm hm2 hl => by
         obtain ⟨q1, q2, q3⟩ := hm1 he m rest hm hl
         omega⟩
       | exact absurd hc1 (by decide)
 · try simp only [aB] at hg11
   refine zs 5 11 rfl rfl rfl (zs 5 11 rfl rfl rfl (zs 5 11 rfl rfl rfl (zs 5 11 rfl rfl rfl (zs 5 11 rfl rfl rfl (zs 5 11 rfl rfl rfl (zs 5 11 rfl rfl rfl (zs 5 11 rfl rfl rfl (ae.bd Met.none rfl rfl (ae.nil (Fin.aa ?_))))))))))
   refine WX.cond rfl (fun hc0 => nomatch hc0) (fun hc0 => ?_)
   refine WX.skip (Fin.aa (WX.seq (WX.seq (WX.region rfl (zm rfl (zn rfl ?_))))))
   first | refine ae.fieldAddr Met.none rfl Tryz.underlying100 rfl cu rfl ?_ | refine ae.bQ Met.none rfl Tryz.underlying100 rfl cu ?_
   first | refine ae.ld Met.none rfl bX ?_ | refine ae.ba Met.none rfl bX ?_
   refine zb rfl rfl rfl (ae.nil (Fin.aa ?_))
   refine WX.cond rfl (fun hc1 => ?_) (fun hc1 => ?_)
   · try simp only [aB] at hc1
     refine WX.seq (WX.region rfl (za rfl (ae.nil (Fin.aa (WX.ret (Fin.az ?_))))))
     first
     | exact Fin.result (O' := (r, ⟨0, false, [.slice a1 l1.length c1, I e1]⟩) :: O) (.inr rfl) rfl rfl (fun _ hs => hs) ⟨n, l1, e1, rfl, fun _ => by omega, ⟨a1, c1, rfl, kr1, kc1, ka1⟩, he1, hl1, hB1, fun he m rest hm _ hl => hm1 he m rest hm hl⟩
     | exact Fin.result (O' := (r, ⟨0, false, [.slice a1 l1.length c1, I 3]⟩) :: O) (.inr rfl) rfl rfl (fun _ hs => hs) ⟨0, l1, 3, rfl, fun _ => by omega, ⟨a1, c1, rfl, kr1, kc1, (fun q => by cases q)⟩, fun _ => by decide, hl1, hB1, fun he m rest hm hm2 hl => by
       obtain ⟨q1, q2, q3⟩ := hm1 he m rest hm hl
       subst q1 q2
       omega⟩
     | exact Fin.result (O' := (r, ⟨0, false, [.slice a1 l1.length c1, I e1]⟩) :: O) (.inr rfl) rfl rfl (fun _ hs => hs) ⟨0, l1, e1, rfl, fun _ => by omega, ⟨a1, c1, rfl, kr1, kc1, ka1⟩, he1, hl1, hB1, fun he m rest hm hm2 hl => by
       obtain ⟨q1, q2, q3⟩ := hm1 he m rest hm hl
       omega⟩
     | exact absurd hc1 (by decide)
   · try simp only [aB] at hc1
     refine WX.skip (Fin.aa (WX.seq (WX.region rfl (zm rfl ?_))))
     refine ae.conv Met.none rfl Tryz.underlying78 Tryz.underlying3 (wrap_i64 (by omega) (by omega)) ?_
     refine za rfl (ae.nil (Fin.aa (WX.ret ?_)))
     first
     | exact Fin.result (O' := (r, ⟨0, false, [.slice a1 l1.length c1, I e1]⟩) :: O) (.inr rfl) rfl rfl (fun _ hs => hs) ⟨n, l1, e1, rfl, fun _ => by omega, ⟨a1, c1, rfl, kr1, kc1, ka1⟩, he1, hl1, hB1, fun he m rest hm _ hl => hm1 he m rest hm hl⟩
     | exact Fin.result (O' := (r, ⟨0, false, [.slice a1 l1.length c1, I 3]⟩) :: O) (.inr rfl) rfl rfl (fun _ hs => hs) ⟨0, l1, 3, rfl, fun _ => by omega, ⟨a1, c1, rfl, kr1, kc1, (fun q => by cases q)⟩, fun _ => by decide, hl1, hB1, fun he m rest hm hm2 hl => by
       obtain ⟨q1, q2, q3⟩ := hm1 he m rest hm hl
       subst q1 q2
       omega⟩
     | exact Fin.result (O' := (r, ⟨0, false, [.slice a1 l1.length c1, I e1]⟩) :: O) (.inr rfl) rfl rfl (fun _ hs => hs) ⟨0, l1, e1, rfl, fun _ => by omega, ⟨a1, c1, rfl, kr1, kc1, ka1⟩, he1, hl1, hB1, fun he m rest hm hm2 hl => by
       obtain ⟨q1, q2, q3⟩ := hm1 he m rest hm hl
       omega⟩
     | exact absurd hc1 (by decide)
theorem nJ (O : an) (r : Nat) (l : List Int) (e : Int) (a : Option Addr) (c : Nat) (hB : Bytes l) (hlen : l.length ≤ 1000000000000) (hr : bK O 1 a l.length (l.map B8)) (hc : a = none → c = 0) :
  Spec Tryz.prog false 63 #[Ptr r 0] ((r, ⟨0, false, [.slice a l.length c, I e]⟩) :: O) fun v O' => ∃ x l' e' ax cx, v = .slice ax (x : List Int).length cx ∧ (∀ O2, bK O2 1 a l.length (l.map B8) → bK O2 1 ax x.length (x.map B8)) ∧ (ax = none → cx = 0) ∧ yN O r a l l' e' O' ∧ (e ≠ 0 → e' ≠ 0) ∧ x.length ≤ l.length ∧ Bytes x ∧ l'.length ≤ l.length ∧ Bytes l' ∧ (e = 0 → ∀ y rest, y.length < 18446744073709551616 → l = dI y ++ rest → x = y ∧ l' = rest ∧ e' = 0) := by
 refine Spec.enter (args := [_]) (m := 28) Tryz.func63 rfl rfl (by decide +kernel) fun h0 => ?_
 refine WX.seq (WX.region rfl (za rfl (zR rfl (zm rfl ?_))))
 refine ae.cl (O1 := _) Met.none rfl (ah Tryz.func81 (by decide +kernel)) rfl (fun _ h => h) (p5 O r l e a c hB hlen hr hc) (fun v O' hp => ?_)
 obtain ⟨n, l1, e1, rfl, hn, ⟨a1, c1, rfl, kr1, kc1, ka1⟩, he1, hl1, hB1, hm1⟩ := hp
 have hr1 := kr1 O hr
 refine za rfl (ae.nil (Fin.aa (WX.seq (WX.seq (WX.region rfl (zm rfl (zn rfl ?_)))))))
 first | refine ae.fieldAddr Met.none rfl Tryz.underlying100 rfl cu rfl ?_ | refine ae.bQ Met.none rfl Tryz.underlying100 rfl cu ?_
 first | refine ae.ld Met.none rfl bX ?_ | refine ae.ba Met.none rfl bX ?_
 refine zb rfl rfl rfl (ae.nil (Fin.aa ?_))
 refine WX.cond rfl (fun hc0 => ?_) (fun hc0 => ?_)
 · try simp only [aB] at hc0
   refine WX.seq (WX.region rfl (za rfl (ae.nil (Fin.aa (WX.ret (Fin.az ?_))))))
   first
   | exact Fin.result (O' := (r, ⟨0, false, [.slice a1 l1.length c1, I e1]⟩) :: O) (.inr rfl) rfl rfl (fun _ hs => hs) ⟨[], l1, e1, none, 0, rfl, fun _ _ => .inl ⟨rfl, rfl, rfl⟩, fun _ => rfl, ⟨a1, c1, rfl, kr1, kc1, ka1⟩, he1, Nat.zero_le _, (fun z hz => by simp at hz), hl1, hB1, fun he y rest hy hl => by
     have := (hm1 he y.length (y ++ rest) hy (by rw [List.length_append]; omega) (by rw [hl]; unfold dI; rw [List.append_assoc])).2.2
     omega⟩
   | (refine Fin.result (O' := (r, ⟨0, false, [.slice (some ⟨bb, off + n * 1, none⟩) (l1.length - n) (l1.length - n), I e1]⟩) :: O) (.inr rfl) rfl rfl (fun _ hs => hs) ⟨l1.take n, l1.drop n, e1, some ⟨bb, off, none⟩, n, by rw [htl]; rfl, fun O2 h => by have h4 := (kr1 O2 h).pre (m := n) (by omega); rw [Nat.mul_one, ← List.map_take] at h4; rw [htl]; exact h4, (fun q => by cases q), ⟨some ⟨bb, off + n * 1, none⟩, l1.length - n, by rw [hdl], fun O2 h => by rw [hdl, List.map_drop]; exact (kr1 O2 h).nn (by omega), (fun q => by cases q), fun _ => ⟨_, _, rfl⟩⟩, he1, by omega, fun z hz => hB1 z (List.mem_of_mem_take hz), by omega, fun z hz => hB1 z (List.mem_of_mem_drop hz), fun he y rest hy hl => ?_⟩
      obtain ⟨q1, q2, q3⟩ := hm1 he y.length (y ++ rest) hy (by rw [List.length_append]; omega) (by rw [hl]; unfold dI; rw [List.append_assoc])
      subst q1 q2
      exact ⟨List.take_left, List.drop_left, q3⟩)
 · try simp only [aB] at hc0
   refine WX.skip (Fin.aa (WX.seq ?_))
   have hnl := hn (by omega)
   obtain ⟨bb, off, rfl⟩ := ka1 (by omega)
   obtain ⟨⟨qsz, qro, qc⟩, hkq, hqs⟩ := hr1.known
   have hqs : qsz = 1 := hqs
   subst hqs
   have htl : (l1.take n).length = n := by rw [List.length_take]; omega
   have hdl : (l1.drop n).length = l1.length - n := List.length_drop
   refine WX.region rfl (zm rfl (zn rfl ?_))
   first | refine ae.fieldAddr Met.none rfl Tryz.underlying100 rfl aO rfl ?_ | refine ae.bQ Met.none rfl Tryz.underlying100 rfl aO ?_
   first | refine ae.ld Met.none rfl aD ?_ | refine ae.ba Met.none rfl aD ?_
   refine zm rfl ?_
   refine ae.pre (m := n) Met.none rfl rfl aQ ea hr1.cons (fun q => by cases q) ?_
   refine za rfl (zR rfl (zm rfl (zm rfl (zn rfl ?_))))
   first | refine ae.fieldAddr Met.none rfl Tryz.underlying100 rfl aO rfl ?_ | refine ae.bQ Met.none rfl Tryz.underlying100 rfl aO ?_
   first | refine ae.ld Met.none rfl aD ?_ | refine ae.ba Met.none rfl aD ?_
   refine zm rfl ?_
   refine ae.nn (cs := []) (m := n) Met.none rfl rfl aQ ea rfl hkq.cons rfl ?_
   refine zn rfl ?_
   first | refine ae.fieldAddr Met.none rfl Tryz.underlying100 rfl aO rfl ?_ | refine ae.bQ Met.none rfl Tryz.underlying100 rfl aO ?_
   refine ae.st (vs := [_]) Met.none rfl rfl rfl aO ?_
   refine zR rfl (zm rfl (za rfl (ae.nil (Fin.aa (WX.ret ?_)))))
   first
   | exact Fin.result (O' := (r, ⟨0, false, [.slice a1 l1.length c1, I e1]⟩) :: O) (.inr rfl) rfl rfl (fun _ hs => hs) ⟨[], l1, e1, none, 0, rfl, fun _ _ => .inl ⟨rfl, rfl, rfl⟩, fun _ => rfl, ⟨a1, c1, rfl, kr1, kc1, ka1⟩, he1, Nat.zero_le _, (fun z hz => by simp at hz), hl1, hB1, fun he y rest hy hl => by
     have := (hm1 he y.length (y ++ rest) hy (by rw [List.length_append]; omega) (by rw [hl]; unfold dI; rw [List.append_assoc])).2.2
     omega⟩
   | (refine Fin.result (O' := (r, ⟨0, false, [.slice (some ⟨bb, off + n * 1, none⟩) (l1.length - n) (l1.length - n), I e1]⟩) :: O) (.inr rfl) rfl rfl (fun _ hs => hs) ⟨l1.take n, l1.drop n, e1, some ⟨bb, off, none⟩, n, by rw [htl]; rfl, fun O2 h => by have h4 := (kr1 O2 h).pre (m := n) (by omega); rw [Nat.mul_one, ← List.map_take] at h4; rw [htl]; exact h4, (fun q => by cases q), ⟨some ⟨bb, off + n * 1, none⟩, l1.length - n, by rw [hdl], fun O2 h => by rw [hdl, List.map_drop]; exact (kr1 O2 h).nn (by omega), (fun q => by cases q), fun _ => ⟨_, _, rfl⟩⟩, he1, by omega, fun z hz => hB1 z (List.mem_of_mem_take hz), by omega, fun z hz => hB1 z (List.mem_of_mem_drop hz), fun he y rest hy hl => ?_⟩
      obtain ⟨q1, q2, q3⟩ := hm1 he y.length (y ++ rest) hy (by rw [List.length_append]; omega) (by rw [hl]; unfold dI; rw [List.append_assoc])
      subst q1 q2
      exact ⟨List.take_left, List.drop_left, q3⟩)
theorem rG (O : an) (z : Int) : Spec Tryz.prog true 82 #[U z] O fun v O' => ∃ n, v = I n ∧ O' = O := by
 refine Spec.enter (args := [_]) (m := 14) Tryz.func82 rfl rfl (by decide +kernel) fun h0 => ?_
 refine WX.seq (WX.region rfl (za rfl (ae.nil (Fin.aa (WX.seq (WX.seq (WX.region rfl (zm rfl ?_))))))))
 refine ae.rem Met.none rfl rfl (by decide) ?_
 refine zb rfl rfl rfl (ae.nil (Fin.aa ?_))
 refine WX.cond rfl (fun hc0 => ?_) (fun hc0 => ?_)
 · try simp only [aB] at hc0
   refine WX.seq (WX.region rfl (zm rfl ?_))
   refine ae.qu Met.none rfl rfl ?_ (hb := (by decide)) (hr := rfl)
   refine ae.conv Met.none rfl Tryz.underlying78 Tryz.underlying3 rfl ?_
   refine ae.neg Met.none rfl rfl ?_
   refine zb rfl rfl rfl (za rfl (ae.nil (Fin.aa (WX.ret (Fin.az ?_)))))
   exact Fin.result (O' := O) (.inr rfl) rfl rfl au ⟨_, rfl, rfl⟩
 · try simp only [aB] at hc0
   refine WX.skip (Fin.aa (WX.seq (WX.region rfl (zm rfl ?_))))
   refine ae.qu Met.none rfl rfl ?_ (hb := (by decide)) (hr := rfl)
   refine ae.conv Met.none rfl Tryz.underlying78 Tryz.underlying3 rfl ?_
   refine za rfl (ae.nil (Fin.aa (WX.ret ?_)))
   exact Fin.result (O' := O) (.inr rfl) rfl rfl au ⟨_, rfl, rfl⟩
theorem sm (O : an) (r : Nat) (l : List Int) (e : Int) (a : Option Addr) (c : Nat) (hB : Bytes l) (hlen : l.length ≤ 1000000000000) (hr : bK O 1 a l.length (l.map B8)) (hc : a = none → c = 0) :
  Spec Tryz.prog false 64 #[Ptr r 0] ((r, ⟨0, false, [.slice a l.length c, I e]⟩) :: O) fun v O' => ∃ l' e', yN O r a l l' e' O' ∧ (e ≠ 0 → e' ≠ 0) ∧ l'.length ≤ l.length ∧ Bytes l' ∧ (e = 0 → ∀ m rest, m < 18446744073709551616 → l = bA m ++ rest → l' = rest ∧ e' = 0) := by
 refine Spec.enter (args := [_]) (m := 6) Tryz.func64 rfl rfl (by decide +kernel) fun h0 => ?_
 refine WX.seq (WX.region rfl (za rfl (zR rfl (zm rfl ?_))))
 refine ae.cl (O1 := _) Met.none rfl (ah Tryz.func83 (by decide +kernel)) rfl (fun _ h => h) (mV O r l e a c hB hlen hr hc) (fun v O' hp => ?_)
 obtain ⟨n, l1, e1, rfl, hn, ⟨a1, c1, rfl, kr1, kc1, ka1⟩, he1, hl1, hB1, hm1⟩ := hp
 have hr1 := kr1 O hr
 refine ae.cl (O1 := _) Met.none rfl (ah Tryz.func82 (by decide +kernel)) rfl (fun _ h => h) (rG _ _) (fun v O' hp => ?_)
 obtain ⟨z, rfl, rfl⟩ := hp
 refine za rfl (ae.nil (Fin.aa (WX.ret ?_)))
 exact Fin.result (O' := (r, ⟨0, false, [.slice a1 l1.length c1, I e1]⟩) :: O) (.inr rfl) rfl rfl (fun _ hs => hs) ⟨l1, e1, ⟨a1, c1, rfl, kr1, kc1, ka1⟩, he1, hl1, hB1, fun he m rest hm hl => (hm1 he m rest hm hl).2⟩
theorem wc (O : an) (i : Int) (b : List Int) (a : Option Addr) (c : Nat) (hi : dG i) (hB : Bytes b) (hlen : b.length ≤ 100000) (hr : bK O 1 a b.length (b.map B8)) (hc : a = none → c = 0) :
  Spec Tryz.prog false 46 #[I i, .slice a b.length c] O fun v O' => O' = O ∧ ((ar i (aS b) <+: b ∧ ∃ ax cx, v = .tuple #[.slice ax (aS b).length cx, .bool true] ∧ (∀ O2, bK O2 1 a b.length (b.map B8) → bK O2 1 ax (aS b).length ((aS b).map B8)) ∧ (ax = none → cx = 0)) ∨ (¬ ar i (aS b) <+: b ∧ v = .tuple #[.slice none 0 0, .bool false])) := by
 have hzr := fw hi
 unfold mB at hzr
 obtain ⟨f1, f2⟩ := iI b
 have hcl := gW hi (b := aS b) (by omega)
 refine Spec.enter (args := [_, _]) (m := 53) Tryz.func46 rfl rfl (by decide +kernel) fun h0 => ?_
 refine WX.seq (WX.region rfl (za rfl (za rfl (zR rfl (zm rfl ?_)))))
 refine ae.build (c := [_, _]) Met.none rfl tf px rfl ?_
 refine ae.box (c := [_, _]) Met.none rfl rfl rfl (fun b13 => ?_)
 refine za rfl (zR rfl (zm rfl ?_))
 refine ae.cl (O1 := _) Met.none rfl (ah Tryz.func63 (by decide +kernel)) rfl (fun _ h => h) (nJ O b13 b 0 a c hB (by omega) hr hc) (fun v O' hp => ?_)
 obtain ⟨x, l1, e1, ax, cx, rfl, krx, kx, ⟨a1, c1, rfl, kr1, kc1, ka1⟩, he1, hxl, hxB, hl1, hB1, hm1⟩ := hp
 have hrx := krx O hr
 refine za rfl (zR rfl (zm rfl ?_))
 refine ae.build (c := [_, _]) Met.none rfl tf px rfl ?_
 refine ae.box (c := [_, _]) Met.none rfl rfl rfl (fun b18 => ?_)
 refine za rfl (zR rfl (zm rfl ?_))
 refine ae.cl (O1 := _) Met.none rfl (ah Tryz.func64 (by decide +kernel)) rfl (fun _ h => h) (sm _ b18 x 0 ax cx hxB (by omega) hrx.cons kx) (fun v O' hp => ?_)
 obtain ⟨l2, e2, ⟨a2, c2, rfl, kr2, kc2, ka2⟩, he2, hl2, hB2, hm2⟩ := hp
 have hr2 := kr2 O hrx
 refine zR rfl (zm rfl ?_)
 refine ae.cl (O1 := _) Met.none rfl (ah Tryz.func63 (by decide +kernel)) rfl (fun _ h => h) (nJ _ b18 l2 e2 a2 c2 hB2 (by omega) hr2.cons kc2) (fun v O' hp => ?_)
 obtain ⟨y, l3, e3, ay, cy, rfl, kry, ky, ⟨a3, c3, rfl, kr3, kc3, ka3⟩, he3, hyl, hyB, hl3, hB3, hm3⟩ := hp
 have hry := kry O hr2
 have hkey : ar i (aS b) <+: b → e1 = 0 ∧ e3 = 0 ∧ y = aS b := by
  rintro ⟨t, ht⟩
  obtain ⟨q1, q2, q3⟩ := hm1 rfl (aY i (aS b)) (bA (dD eE (aY i (aS b))).toNat ++ t) (by omega) (by have e := List.append_assoc (dI (aY i (aS b))) (bA (dD eE (aY i (aS b))).toNat) t; exact ht.symm.trans e)
  subst q1
  obtain ⟨q4, q5⟩ := hm2 rfl (ff i).toNat (dI (aS b)) (by omega) rfl
  obtain ⟨q6, q7, q8⟩ := hm3 q5 (aS b) [] (by omega) (by rw [q4, List.append_nil])
  exact ⟨q3, q8, q6⟩
 refine za rfl (ae.nil (Fin.aa (WX.seq (WX.seq (WX.region rfl (zm rfl (zn rfl ?_)))))))
 first | refine ae.fieldAddr Met.none rfl Tryz.underlying100 rfl cu rfl ?_ | refine ae.bQ Met.none rfl Tryz.underlying100 rfl cu ?_
 first | refine ae.ld Met.none rfl bX ?_ | refine ae.ba Met.none rfl bX ?_
 refine zb rfl rfl rfl (zm rfl ?_)
 refine ae.split (d := 28) rfl (fun hg28 => ?_) (fun hg28 => ?_)
 · try simp only [aB] at hg28
   refine zs 5 28 rfl rfl rfl (zs 5 28 rfl rfl rfl (zs 5 28 rfl rfl rfl (zs 5 28 rfl rfl rfl (zs 5 28 rfl rfl rfl (ae.bC Met.none rfl rfl (ae.nil (Fin.aa ?_)))))))
   refine WX.cond rfl (fun hc0 => ?_) (fun hc0 => nomatch hc0)
   refine WX.seq (WX.region rfl (za rfl (za rfl (ae.nil (Fin.aa (WX.ret (Fin.az ?_)))))))
   first
   | exact Fin.result (O' := O) (.inr rfl) rfl rfl aC ⟨rfl, .inr ⟨fun h => by obtain ⟨q1, q2, q3⟩ := hkey h; omega, rfl⟩⟩
   | exact Fin.result (O' := O) (.inr rfl) rfl rfl aC ⟨rfl, .inr ⟨fun h => by
     obtain ⟨q1, q2, q3⟩ := hkey h
     have := h.length_le
     rw [← q3] at this
     omega, rfl⟩⟩
   | exact Fin.result (O' := O) (.inr rfl) rfl rfl aC ⟨rfl, .inr ⟨fun h => by
     obtain ⟨q1, q2, q3⟩ := hkey h
     rw [← q3] at h
     exact hc1 (List.prefix_iff_eq_take.1 h), rfl⟩⟩
   | (have hp : ar i y <+: b := List.prefix_iff_eq_take.2 hc1
      have hy : aS b = y := eI hi (by omega) hp
      subst hy
      exact Fin.result (O' := O) (.inr rfl) rfl rfl aC ⟨rfl, .inl ⟨hp, ay, cy, rfl, fun O2 h => kry O2 (kr2 O2 (krx O2 h)), ky⟩⟩)
 · try simp only [aB] at hg28
   refine ae.move (Met.some rfl rfl rfl) rfl (ae.nilCheck (Met.some rfl rfl rfl) rfl ?_)
   first | refine ae.fieldAddr (Met.some rfl rfl rfl) rfl Tryz.underlying100 rfl cu rfl ?_ | refine ae.bQ (Met.some rfl rfl rfl) rfl Tryz.underlying100 rfl cu ?_
   first | refine ae.ld (Met.some rfl rfl rfl) rfl bX ?_ | refine ae.ba (Met.some rfl rfl rfl) rfl bX ?_
   refine ae.bin (Met.some rfl rfl rfl) rfl rfl rfl (ae.bd Met.none rfl rfl (ae.nil (Fin.aa ?_)))
   refine WX.cond rfl (fun hc0 => ?_) (fun hc0 => ?_)
   · try simp only [aB] at hc0
     refine WX.seq (WX.region rfl (za rfl (za rfl (ae.nil (Fin.aa (WX.ret (Fin.az ?_)))))))
     first
     | exact Fin.result (O' := O) (.inr rfl) rfl rfl aC ⟨rfl, .inr ⟨fun h => by obtain ⟨q1, q2, q3⟩ := hkey h; omega, rfl⟩⟩
     | exact Fin.result (O' := O) (.inr rfl) rfl rfl aC ⟨rfl, .inr ⟨fun h => by
       obtain ⟨q1, q2, q3⟩ := hkey h
       have := h.length_le
       rw [← q3] at this
       omega, rfl⟩⟩
     | exact Fin.result (O' := O) (.inr rfl) rfl rfl aC ⟨rfl, .inr ⟨fun h => by
       obtain ⟨q1, q2, q3⟩ := hkey h
       rw [← q3] at h
       exact hc1 (List.prefix_iff_eq_take.1 h), rfl⟩⟩
     | (have hp : ar i y <+: b := List.prefix_iff_eq_take.2 hc1
        have hy : aS b = y := eI hi (by omega) hp
        subst hy
        exact Fin.result (O' := O) (.inr rfl) rfl rfl aC ⟨rfl, .inl ⟨hp, ay, cy, rfl, fun O2 h => kry O2 (kr2 O2 (krx O2 h)), ky⟩⟩)
   · try simp only [aB] at hc0
     refine WX.skip (Fin.aa (WX.seq (WX.region rfl (zm rfl (zm rfl ?_)))))
     refine ae.cl (O1 := _) Met.none rfl (ah Tryz.func38 (by decide +kernel)) rfl (fun _ h => h) (ko _ i y ay cy hi hyB (by omega) ((hry.src ky).cons.cons)) (fun v O' hp => ?_)
     obtain ⟨a5, c5, G5, rfl, hG5, rfl⟩ := hp
     refine za rfl (ae.nil (Fin.aa (WX.seq (WX.seq (WX.region rfl (zm rfl (ae.len Met.none rfl Tryz.underlying39 (zm rfl (ae.len Met.none rfl Tryz.underlying39 (zb rfl rfl rfl (zm rfl ?_)))))))))))
     refine ae.split (d := 43) rfl (fun hg43 => ?_) (fun hg43 => ?_)
     · try simp only [aB] at hg43
       refine zs 5 43 rfl rfl rfl (zs 5 43 rfl rfl rfl (zs 5 43 rfl rfl rfl (zs 5 43 rfl rfl rfl (zs 5 43 rfl rfl rfl (zs 5 43 rfl rfl rfl (zs 5 43 rfl rfl rfl (ae.bC Met.none rfl rfl (ae.nil (Fin.aa ?_)))))))))
       refine WX.cond rfl (fun hc1 => ?_) (fun hc1 => nomatch hc1)
       refine WX.seq (WX.region rfl (za rfl (za rfl (ae.nil (Fin.aa (WX.ret (Fin.az ?_)))))))
       first
       | exact Fin.result (O' := O) (.inr rfl) rfl rfl aC ⟨rfl, .inr ⟨fun h => by obtain ⟨q1, q2, q3⟩ := hkey h; omega, rfl⟩⟩
       | exact Fin.result (O' := O) (.inr rfl) rfl rfl aC ⟨rfl, .inr ⟨fun h => by
         obtain ⟨q1, q2, q3⟩ := hkey h
         have := h.length_le
         rw [← q3] at this
         omega, rfl⟩⟩
       | exact Fin.result (O' := O) (.inr rfl) rfl rfl aC ⟨rfl, .inr ⟨fun h => by
         obtain ⟨q1, q2, q3⟩ := hkey h
         rw [← q3] at h
         exact hc1 (List.prefix_iff_eq_take.1 h), rfl⟩⟩
       | (have hp : ar i y <+: b := List.prefix_iff_eq_take.2 hc1
          have hy : aS b = y := eI hi (by omega) hp
          subst hy
          exact Fin.result (O' := O) (.inr rfl) rfl rfl aC ⟨rfl, .inl ⟨hp, ay, cy, rfl, fun O2 h => kry O2 (kr2 O2 (krx O2 h)), ky⟩⟩)
     · try simp only [aB] at hg43
       refine ae.move (Met.some rfl rfl rfl) rfl (ae.move (Met.some rfl rfl rfl) rfl (ae.move (Met.some rfl rfl rfl) rfl (ae.len (Met.some rfl rfl rfl) rfl Tryz.underlying39 ?_)))
       refine ae.pre (m := (ar i y).length) (Met.some rfl rfl rfl) rfl rfl aQ ea (hr.cons.cons.app) hc ?_
       have hfl : (b.take (ar i y).length).length = (ar i y).length := by rw [List.length_take]; omega
       have hr5 := hr.pre (m := (ar i y).length) (by omega)
       rw [Nat.mul_one, ← List.map_take] at hr5
       have hfy := gW hi (b := y) (by omega)
       refine ae.cl (O1 := _) (Met.some rfl rfl rfl) rfl (ah Tryz.func20 (by decide +kernel)) rfl (fun _ h => h) ((by
       have := gD (G5 ++ ((b18, ⟨0, false, [.slice a3 l3.length c3, I e3]⟩) :: (b13, ⟨0, false, [.slice a1 l1.length c1, I e1]⟩) :: O)) (ar i y) (b.take (ar i y).length) a5 a c5 (ar i y).length (by unfold hJ; omega) hG5.src (by rw [hfl]; exact Src.app (Src.cons (Src.cons (hr5.src (fun q => hr5.eh q)))))
       rw [hfl] at this
       exact this)) (fun v O' hp => ?_)
       obtain ⟨rfl, hO⟩ := hp
       subst O'
       refine ae.not (Met.some rfl rfl rfl) rfl (ae.bd Met.none rfl rfl (ae.nil (Fin.aa ?_)))
       refine WX.cond rfl (fun hc1 => ?_) (fun hc1 => ?_)
       · try simp only [aB] at hc1
         refine WX.seq (WX.region rfl (za rfl (za rfl (ae.nil (Fin.aa (WX.ret (Fin.az ?_)))))))
         first
         | exact Fin.result (O' := O) (.inr rfl) rfl rfl aC ⟨rfl, .inr ⟨fun h => by obtain ⟨q1, q2, q3⟩ := hkey h; omega, rfl⟩⟩
         | exact Fin.result (O' := O) (.inr rfl) rfl rfl aC ⟨rfl, .inr ⟨fun h => by
           obtain ⟨q1, q2, q3⟩ := hkey h
           have := h.length_le
           rw [← q3] at this
           omega, rfl⟩⟩
         | exact Fin.result (O' := O) (.inr rfl) rfl rfl aC ⟨rfl, .inr ⟨fun h => by
           obtain ⟨q1, q2, q3⟩ := hkey h
           rw [← q3] at h
           exact hc1 (List.prefix_iff_eq_take.1 h), rfl⟩⟩
         | (have hp : ar i y <+: b := List.prefix_iff_eq_take.2 hc1
            have hy : aS b = y := eI hi (by omega) hp
            subst hy
            exact Fin.result (O' := O) (.inr rfl) rfl rfl aC ⟨rfl, .inl ⟨hp, ay, cy, rfl, fun O2 h => kry O2 (kr2 O2 (krx O2 h)), ky⟩⟩)
       · try simp only [aB] at hc1
         refine WX.skip (Fin.aa (WX.seq (WX.region rfl (zm rfl (za rfl (za rfl (ae.nil (Fin.aa (WX.ret ?_)))))))))
         first
         | exact Fin.result (O' := O) (.inr rfl) rfl rfl aC ⟨rfl, .inr ⟨fun h => by obtain ⟨q1, q2, q3⟩ := hkey h; omega, rfl⟩⟩
         | exact Fin.result (O' := O) (.inr rfl) rfl rfl aC ⟨rfl, .inr ⟨fun h => by
           obtain ⟨q1, q2, q3⟩ := hkey h
           have := h.length_le
           rw [← q3] at this
           omega, rfl⟩⟩
         | exact Fin.result (O' := O) (.inr rfl) rfl rfl aC ⟨rfl, .inr ⟨fun h => by
           obtain ⟨q1, q2, q3⟩ := hkey h
           rw [← q3] at h
           exact hc1 (List.prefix_iff_eq_take.1 h), rfl⟩⟩
         | (have hp : ar i y <+: b := List.prefix_iff_eq_take.2 hc1
            have hy : aS b = y := eI hi (by omega) hp
            subst hy
            exact Fin.result (O' := O) (.inr rfl) rfl rfl aC ⟨rfl, .inl ⟨hp, ay, cy, rfl, fun O2 h => kry O2 (kr2 O2 (krx O2 h)), ky⟩⟩)
theorem rH (O : an) (b : List Int) (a : Option Addr) (c : Nat) (hB : Bytes b) (hlen : b.length ≤ 100000) (hr : bK O 1 a b.length (b.map B8)) (hc : a = none → c = 0) :
  Spec Tryz.prog false 26 #[.slice a b.length c] O fun v O' => ∃ ao co vs G, v = .tuple #[.slice ao (aG b).length co, I (cZ b (aG b).length : Nat)] ∧ Grow 1 ao (aG b).length co vs G ∧ (∀ O2, bK O2 1 a b.length (b.map B8) → fi O2 vs (aG b)) ∧ O' = G ++ O := by
 have hrl := kJ b
 have hend := nh b
 refine Spec.enter (args := [_]) (m := 36) Tryz.func26 rfl rfl (by decide +kernel) fun h0 => ?_
 refine WX.seq (WX.region rfl (za rfl (za rfl (zR rfl (za rfl (zR rfl (za rfl (ae.nil (Fin.aa (WX.seq (WX.block ?_)))))))))))
 refine WX.loop (fun q : Nat × Option Addr × Nat × List Value × an => [(0, .slice a b.length c), (4, .slice q.2.1 q.1 q.2.2.1), (5, I (cZ b q.1 : Nat))]) (fun q => q.2.2.2.2 ++ O) (fun q => q.1 ≤ (aG b).length ∧ Grow 1 q.2.1 q.1 q.2.2.1 q.2.2.2.1 q.2.2.2.2 ∧ ∀ O2, bK O2 1 a b.length (b.map B8) → fi O2 q.2.2.2.1 ((aG b).take q.1)) (fun q => (aG b).length - q.1) (0, none, 0, [], []) ⟨Nat.zero_le _, .nil, fun _ _ => .nil⟩ (fun s hs => hs.tl [] 0) (fun q hq => ?_)
 obtain ⟨k, ao, co, vs, G⟩ := q
 obtain ⟨hk, hG, hvs⟩ := hq
 simp only at hk hG hvs
 dsimp only
 have hek := hend k
 have hat := qQ b k hk
 refine WX.seq (WX.seq (WX.region rfl (zm rfl (zm rfl (ae.len Met.none rfl Tryz.underlying39 (zb rfl rfl rfl (ae.nil (Fin.aa ?_))))))))
 refine WX.cond rfl (fun hc0 => ?_) (fun hc0 => ?_)
 · try simp only [aB] at hc0
   refine WX.skip (Fin.aa (WX.block (WX.seq ?_)))
   obtain ⟨bb, off, ⟨qsz, qro, qc⟩, rfl, hkq, hqs⟩ := hr.some (by omega)
   have hqs : qsz = 1 := hqs
   subst hqs
   have hr2 := hr.nn (m := cZ b k) hek
   obtain ⟨t, ht⟩ : ∃ t, t = b.drop (cZ b k) := ⟨_, rfl⟩
   rw [← List.map_drop, ← ht] at hr2
   rw [← ht] at hat
   have htl : t.length = b.length - cZ b k := by rw [ht, List.length_drop]
   have htB : Bytes t := fun z hz => hB z (List.mem_of_mem_drop (ht ▸ hz))
   obtain ⟨f1, f2⟩ := iI t
   have htn : t ≠ [] := fun q => by rw [q] at htl; simp at htl; omega
   refine WX.region rfl (zm rfl (ae.len Met.none rfl Tryz.underlying29 (zm rfl (zm rfl ?_))))
   refine ae.nn (cs := []) (m := (cZ b k)) Met.none rfl rfl aQ ea rfl hkq.app rfl ?_
   refine ae.cl (O1 := _) Met.none rfl (ah Tryz.func46 (by decide +kernel)) rfl (fun _ h => h) ((by
   have := wc (G ++ O) (k : Int) t (some ⟨bb, off + cZ b k * 1, none⟩) (b.length - cZ b k) (by unfold dG; omega) htB (by omega) (by rw [htl]; exact hr2.app) (fun q => by cases q)
   rw [htl] at this
   exact this)) (fun v O' hp => ?_)
   obtain ⟨rfl, hf⟩ := hp
   obtain ⟨v1, y, rfl, hy⟩ : ∃ v1 y, v = .tuple #[v1, .bool y] ∧ ((y = true ∧ ar k (aS t) <+: t ∧ ∃ ax cx, v1 = .slice ax (aS t).length cx ∧ (∀ O2, bK O2 1 (some ⟨bb, off, none⟩) b.length (b.map B8) → bK O2 1 ax (aS t).length ((aS t).map B8)) ∧ (ax = none → cx = 0)) ∨ (y = false ∧ ¬ ar k (aS t) <+: t)) := by
    rcases hf with ⟨h1, ax, cx, rfl, h2, h3⟩ | ⟨h1, rfl⟩
    · exact ⟨_, _, rfl, .inl ⟨rfl, h1, ax, cx, rfl, fun O2 hO2 => h2 O2 (by have := hO2.nn (m := cZ b k) hek; rw [← List.map_drop, ← ht] at this; exact this), h3⟩⟩
    · exact ⟨_, _, rfl, .inr ⟨rfl, h1⟩⟩
   refine zm rfl (ze rfl rfl (ze rfl rfl (za rfl (za rfl (ae.nil (Fin.aa (WX.seq (WX.seq (WX.region rfl (zm rfl (ae.not Met.none rfl (ae.nil (Fin.aa ?_)))))))))))))
   refine WX.cond rfl (fun hc1 => ?_) (fun hc1 => ?_)
   · try simp only [aB] at hc1
     refine WX.exit (Fin.aF (Fin.fv rfl (Fin.aN (Fin.aK rfl (Fin.aa (WX.seq (WX.region rfl (zm rfl (zm rfl (za rfl (za rfl (ae.nil (Fin.aa (WX.ret ?_))))))))))))))
     first
     | (have hkk : k = (aG b).length := by
          have hd : b.drop (cZ b k) = [] := List.drop_eq_nil_of_le (by omega)
          rw [hd, dB, dif_neg (fun q => q.1 rfl)] at hat
          have := congrArg List.length hat
          rw [List.length_drop, List.length_nil] at this
          omega
        subst hkk
        rw [List.take_length] at hvs
        exact Fin.result (O' := G ++ O) (.inr rfl) rfl rfl (fun _ h => h) ⟨ao, co, vs, G, rfl, hG, hvs, rfl⟩)
     | (have hkk : k = (aG b).length := by
          have hnp := (hy.resolve_left (fun q => by rw [hc1] at q; exact nomatch q.1)).2
          rw [dB, dif_neg (fun q => hnp q.2)] at hat
          have := congrArg List.length hat
          rw [List.length_drop, List.length_nil] at this
          omega
        subst hkk
        rw [List.take_length] at hvs
        exact Fin.result (O' := G ++ O) (.inr rfl) rfl rfl (fun _ h => h) ⟨ao, co, vs, G, rfl, hG, hvs, rfl⟩)
   · try simp only [aB] at hc1
     refine WX.skip (Fin.aa (WX.seq ?_))
     obtain ⟨hpf, ax, cx, rfl, hrxA, kx⟩ := hy.resolve_right (fun q => by rw [hc1] at q; exact nomatch q.1) |>.2
     have hrx := hrxA O hr
     have hst : (aG b).drop k = aS t :: (dB (k + 1) (t.drop (ar k (aS t)).length)).1 := by
      rw [hat, dB, dif_pos ⟨htn, hpf⟩]
     have hk1 : k < (aG b).length := by
      have := congrArg List.length hst
      rw [List.length_drop, List.length_cons] at this
      omega
     have hnth : nth (aG b) k = aS t := by
      rw [ia hk1] at hst
      injection hst
     have hes : cZ b (k + 1) = cZ b k + (ar k (aS t)).length := by rw [mO b k hk1, hnth]
     have hek1 := hend (k + 1)
     refine WX.region rfl (zm rfl (zm rfl (ae.len Met.none rfl Tryz.underlying29 (zm rfl ?_))))
     refine ae.cl (O1 := _) Met.none rfl (ah Tryz.func38 (by decide +kernel)) rfl (fun _ h => h) (ko _ (k : Int) (aS t) ax cx (by unfold dG; omega) (f2 htB) (by omega) ((hrx.src kx).app)) (fun v O' hp => ?_)
     obtain ⟨a6, c6, G6, rfl, hG6, rfl⟩ := hp
     refine ae.len Met.none rfl Tryz.underlying39 (ae.bin Met.none rfl rfl (show _ = some (I (cZ b (k + 1) : Nat)) from (nH (by omega) (by omega)).trans (congrArg (fun n => some (I n)) (by omega))) (za rfl (ae.nil (Fin.aa ?_))))
     refine WX.re (O' := G ++ O) ?_
     refine WX.region rfl (zm rfl (zm rfl ?_))
     refine ae.buildSlice (c := [_]) Met.none rfl aR aO ki (by decide) (by decide) rfl rfl rfl rfl (fun b32 => ?_)
     refine ae.mS [_] Met.none rfl rfl p7 aR aO wJ ki (Src.lit (cs := [_])) (fun a33 c33 G33 hG33 => ?_)
     refine za rfl (ae.nil (Fin.ag ?_))
     refine Fin.aj (k + 1, a33, c33, vs ++ [.slice ax (aS t).length cx], G33) ⟨by simp only; omega, hG33, ?_⟩ (by simp only; omega) (fun s hs => hs.tl [] 1)
     rw [bG hk1]
     exact fun O2 hO2 => (hvs O2 hO2).snoc ⟨ax, cx, by rw [hnth], by rw [hnth]; exact (hrxA O2 hO2).src kx⟩
 · try simp only [aB] at hc0
   refine WX.exit (Fin.aF (Fin.aN (Fin.aK rfl (Fin.aa (WX.seq (WX.region rfl (zm rfl (zm rfl (za rfl (za rfl (ae.nil (Fin.aa (WX.ret ?_)))))))))))))
   first
   | (have hkk : k = (aG b).length := by
        have hd : b.drop (cZ b k) = [] := List.drop_eq_nil_of_le (by omega)
        rw [hd, dB, dif_neg (fun q => q.1 rfl)] at hat
        have := congrArg List.length hat
        rw [List.length_drop, List.length_nil] at this
        omega
      subst hkk
      rw [List.take_length] at hvs
      exact Fin.result (O' := G ++ O) (.inr rfl) rfl rfl (fun _ h => h) ⟨ao, co, vs, G, rfl, hG, hvs, rfl⟩)
   | (have hkk : k = (aG b).length := by
        have hnp := (hy.resolve_left (fun q => by rw [hc1] at q; exact nomatch q.1)).2
        rw [dB, dif_neg (fun q => hnp q.2)] at hat
        have := congrArg List.length hat
        rw [List.length_drop, List.length_nil] at this
        omega
      subst hkk
      rw [List.take_length] at hvs
      exact Fin.result (O' := G ++ O) (.inr rfl) rfl rfl (fun _ h => h) ⟨ao, co, vs, G, rfl, hG, hvs, rfl⟩)
theorem oN (R : an) {R0 : an} (d bm : Nat) (D : Dk) (mx : bf) (n : Int) (b : List Int) (ab : Option Addr) (cb : Nat) (hD : dX R0 D mx) (hi : ∀ g, Sat g R → Sat g R0) (hb : Src R 1 (.slice ab b.length cb) b.length (b.map B8)) (hBb : Bytes b) :
  Spec Tryz.prog false 35 #[Ptr d 0, I n, .slice ab b.length cb] (bu d bm D mx R) fun v O' => ∃ mx' N, v = I (bL D n b).1 ∧ O' = bu d bm (bL D n b).2 mx' (N ++ R) ∧ dX (N ++ R0) (bL D n b).2 mx' := by
 obtain ⟨fa, fc, hfv, hrow0, hnil, hB⟩ := hD.di.get n
 have hrow := hrow0.inc hi
 have hlen := hD.nk n
 have hu := hD.used
 have hr := hD.room
 have hn := pI D.fs
 refine Spec.enter (args := [_, _, _]) (m := 47) Tryz.func35 rfl rfl (by decide +kernel) fun h0 => ?_
 refine WX.seq (WX.region rfl (za rfl (ae.nil (Fin.aa (WX.seq (WX.block (WX.seq (WX.region rfl (zm rfl ?_)))))))))
 refine ae.cl (O1 := _) Met.none rfl (ah Tryz.func39 (by decide +kernel)) rfl (fun _ h => h) (mQ _ n) (fun v O' hp => ?_)
 obtain ⟨rfl, hO⟩ := hp
 subst O'
 refine ae.not Met.none rfl (za rfl (ae.nil (Fin.aa ?_)))
 refine WX.cond rfl (fun hc0 => ?_) (fun hc0 => ?_)
 · try simp only [aB] at hc0
   refine WX.seq (WX.region rfl (za rfl (ae.nil (Fin.aa (WX.ret (Fin.bq (Fin.az ?_)))))))
   first
   | exact Fin.result (O' := bu d bm D mx ([] ++ R)) (.inr rfl) rfl rfl au (by unfold bL; rw [if_pos (by omega)]; exact ⟨mx, [], rfl, rfl, hD⟩)
   | exact Fin.result (O' := bu d bm D mx ([] ++ R)) (.inr rfl) rfl rfl au (by unfold bL; rw [if_neg (by omega), if_pos (by assumption)]; exact ⟨mx, [], rfl, rfl, hD⟩)
   | exact Fin.result (O' := bu d bm D mx ([] ++ R)) (.inr rfl) rfl rfl au (by unfold bL; rw [if_neg (by omega), if_neg (by simp [hc1]), if_pos (by omega)]; exact ⟨mx, [], rfl, rfl, hD⟩)
   | exact Fin.result (O' := bu d bm (bE (gA D n b)).2 _ (G38 ++ R)) (.inr rfl) rfl rfl au (by unfold bL; rw [if_neg (by omega), if_neg (by simp [hc1]), if_neg (by omega), if_neg (by simpa using hc3)]; exact ⟨_, G38, rfl, rfl, hs.step⟩)
   | exact Fin.result (O' := bu d bm (bE (gA D n b)).2 _ (G38 ++ R)) (.inr rfl) rfl rfl au (by unfold bL; rw [if_neg (by omega), if_neg (by simp [hc1]), if_neg (by omega), if_pos (by simpa using hc3)]; exact ⟨_, G38, rfl, rfl, hs.step⟩)
 · try simp only [aB] at hc0
   refine WX.seq (WX.region rfl (zm rfl (zn rfl ?_)))
   first | refine ae.fieldAddr Met.none rfl Tryz.underlying62 rfl dm rfl ?_ | refine ae.bQ Met.none rfl Tryz.underlying62 rfl dm ?_
   first | refine ae.ld Met.none rfl cV ?_ | refine ae.ba Met.none rfl cV ?_
   refine za rfl (ae.nil (Fin.aa ?_))
   refine WX.cond rfl (fun hc1 => ?_) (fun hc1 => ?_)
   · try simp only [aB] at hc1
     refine WX.seq (WX.region rfl (za rfl (ae.nil (Fin.aa (WX.ret (Fin.bq (Fin.az ?_)))))))
     first
     | exact Fin.result (O' := bu d bm D mx ([] ++ R)) (.inr rfl) rfl rfl au (by unfold bL; rw [if_pos (by omega)]; exact ⟨mx, [], rfl, rfl, hD⟩)
     | exact Fin.result (O' := bu d bm D mx ([] ++ R)) (.inr rfl) rfl rfl au (by unfold bL; rw [if_neg (by omega), if_pos (by assumption)]; exact ⟨mx, [], rfl, rfl, hD⟩)
     | exact Fin.result (O' := bu d bm D mx ([] ++ R)) (.inr rfl) rfl rfl au (by unfold bL; rw [if_neg (by omega), if_neg (by simp [hc1]), if_pos (by omega)]; exact ⟨mx, [], rfl, rfl, hD⟩)
     | exact Fin.result (O' := bu d bm (bE (gA D n b)).2 _ (G38 ++ R)) (.inr rfl) rfl rfl au (by unfold bL; rw [if_neg (by omega), if_neg (by simp [hc1]), if_neg (by omega), if_neg (by simpa using hc3)]; exact ⟨_, G38, rfl, rfl, hs.step⟩)
     | exact Fin.result (O' := bu d bm (bE (gA D n b)).2 _ (G38 ++ R)) (.inr rfl) rfl rfl au (by unfold bL; rw [if_neg (by omega), if_neg (by simp [hc1]), if_neg (by omega), if_pos (by simpa using hc3)]; exact ⟨_, G38, rfl, rfl, hs.step⟩)
   · try simp only [aB] at hc1
     refine WX.seq ?_
     refine WX.draw rfl ?_
     refine zm rfl (ae.len Met.none rfl Tryz.underlying39 (zm rfl (zn rfl ?_)))
     first | refine ae.fieldAddr Met.none rfl Tryz.underlying62 rfl cj rfl ?_ | refine ae.bQ Met.none rfl Tryz.underlying62 rfl cj ?_
     first | refine ae.ld Met.none rfl bY ?_ | refine ae.ba Met.none rfl bY ?_
     refine zm rfl ?_
     refine ae.cl (O1 := _) Met.none rfl (ah Tryz.func50 (by decide +kernel)) rfl (fun _ h => h) (xe _ R d bm D mx hD) (fun v O' hp => ?_)
     obtain ⟨rfl, hO⟩ := hp
     subst O'
     refine zb rfl rfl nj (zb rfl rfl rfl (za rfl (ae.nil (Fin.aa ?_))))
     refine WX.cond rfl (fun hc2 => ?_) (fun hc2 => ?_)
     · try simp only [aB] at hc2
       refine WX.seq (WX.region rfl (za rfl (ae.nil (Fin.aa (WX.ret (Fin.bq (Fin.az ?_)))))))
       first
       | exact Fin.result (O' := bu d bm D mx ([] ++ R)) (.inr rfl) rfl rfl au (by unfold bL; rw [if_pos (by omega)]; exact ⟨mx, [], rfl, rfl, hD⟩)
       | exact Fin.result (O' := bu d bm D mx ([] ++ R)) (.inr rfl) rfl rfl au (by unfold bL; rw [if_neg (by omega), if_pos (by assumption)]; exact ⟨mx, [], rfl, rfl, hD⟩)
       | exact Fin.result (O' := bu d bm D mx ([] ++ R)) (.inr rfl) rfl rfl au (by unfold bL; rw [if_neg (by omega), if_neg (by simp [hc1]), if_pos (by omega)]; exact ⟨mx, [], rfl, rfl, hD⟩)
       | exact Fin.result (O' := bu d bm (bE (gA D n b)).2 _ (G38 ++ R)) (.inr rfl) rfl rfl au (by unfold bL; rw [if_neg (by omega), if_neg (by simp [hc1]), if_neg (by omega), if_neg (by simpa using hc3)]; exact ⟨_, G38, rfl, rfl, hs.step⟩)
       | exact Fin.result (O' := bu d bm (bE (gA D n b)).2 _ (G38 ++ R)) (.inr rfl) rfl rfl au (by unfold bL; rw [if_neg (by omega), if_neg (by simp [hc1]), if_neg (by omega), if_pos (by simpa using hc3)]; exact ⟨_, G38, rfl, rfl, hs.step⟩)
     · try simp only [aB] at hc2
       refine WX.skip (Fin.ag (Fin.aa (WX.seq (WX.region rfl (zm rfl (zn rfl ?_))))))
       first | refine ae.fieldAddr Met.none rfl Tryz.underlying62 rfl ja rfl ?_ | refine ae.bQ Met.none rfl Tryz.underlying62 rfl ja ?_
       first | refine ae.ld Met.none rfl fF ?_ | refine ae.ba Met.none rfl fF ?_
       refine zm rfl ?_
       refine ae.lookup Met.none rfl rfl lA ie at_ (show _ = cJ fa (aI D.fs n).bs.length fc (aI D.fs n).d from hfv) ?_
       refine ae.alloc (c := [_, _]) Met.none ie rfl (fun b7 => ?_)
       refine ae.st (vs := [_, _]) (c' := [_, _]) (j := 0) Met.none rfl rfl rfl pR ?_ (hj := rfl)
       refine zR rfl ?_
       refine ae.fieldAddr (off' := 0) Met.none rfl Tryz.underlying66 rfl aO rfl ?_
       first | refine ae.ld Met.none rfl aD ?_ | refine ae.ba Met.none rfl aD ?_
       refine ae.cl (O1 := _) Met.none rfl (ah Tryz.func30 (by decide +kernel)) rfl (fun _ h => h) (iW _ (aI D.fs n).bs fa fc (by omega) (fun q => by
       have := hrow.eh q
       exact List.length_eq_zero_iff.1 this) (Src.cons (Src.cons (Src.cons (hrow.src hnil))))) (fun v O' hp => ?_)
       obtain ⟨a36, c36, G36, rfl, hG36, rfl⟩ := hp
       refine zm rfl ?_
       refine ae.mS ([]) Met.none rfl rfl dQ aQ ea qt dA (Src.app (Src.cons (Src.cons (Src.cons hb)))) (fun a38 c38 G38 hG38 => ?_) (hm := (by rw [List.length_map]; omega))
       refine ae.re (O' := (b7, ⟨0, false, [.slice fa (aI D.fs n).bs.length fc, I (aI D.fs n).d]⟩) :: bu d bm D mx (G38 ++ R)) ?_
       refine ae.fieldAddr (off' := 0) Met.none rfl Tryz.underlying66 rfl aO rfl ?_
       refine ae.st (vs := [_]) (c' := [_, _]) (j := 0) Met.none rfl rfl rfl aO ?_ (hj := rfl)
       refine zR rfl (zm rfl (zm rfl ?_))
       refine ae.yP (vs := [_, _]) Met.none rfl ta pR ?_
       refine ae.cl (O1 := bu d bm D mx (G38 ++ R)) Met.none rfl (ah Tryz.func31 (by decide +kernel)) rfl aC (qh (G38 ++ R) d bm D mx n a38 ((aI D.fs n).bs.length + b.length) c38 (aI D.fs n).d) (fun v O' hp => ?_)
       obtain rfl := hp
       refine ae.nil (Fin.aa (WX.seq (WX.seq ?_)))
       have hf : eA (G38 ++ R0) (cJ a38 ((aI D.fs n).bs.length + b.length) c38 (aI D.fs n).d) ⟨(aI D.fs n).bs ++ b, (aI D.fs n).d⟩ := by
        have h1 := hG38.oK (R := R0)
        rw [← List.map_append] at h1
        exact ⟨a38, c38, by rw [List.length_append], by rw [List.length_append]; exact h1, fun q => (hG38.eh q).1, fun x hx => by
         rcases List.mem_append.1 hx with q | q
         · exact hB x q
         · exact hBb x q⟩
       have hs : dX (G38 ++ R0) (gA D n b) (iv mx n (cJ a38 ((aI D.fs n).bs.length + b.length) c38 (aI D.fs n).d) ((aI D.fs n).bs.length + b.length)) := by
        have hgd := hD.kY n
        have := (hD.app (N := G38)).set n hf (by omega) ⟨hgd.1, by simp only [List.length_append]; omega⟩ (by rw [List.length_append]; omega)
        rw [List.length_append] at this
        exact this
       refine WX.region rfl (zm rfl ?_)
       refine ae.cl (O1 := _) Met.none rfl (ah Tryz.func45 (by decide +kernel)) rfl (fun _ h => h) (pL (G38 ++ R) d bm (gA D n b) (iv mx n (cJ a38 ((aI D.fs n).bs.length + b.length) c38 (aI D.fs n).d) ((aI D.fs n).bs.length + b.length)) hs.left) (fun v O' hp => ?_)
       obtain ⟨rfl, hO⟩ := hp
       subst O'
       refine ae.not Met.none rfl (ae.nil (Fin.aa ?_))
       refine WX.cond rfl (fun hc3 => ?_) (fun hc3 => ?_)
       · try simp only [aB] at hc3
         refine WX.seq (WX.region rfl (za rfl (ae.nil (Fin.aa (WX.ret (Fin.az ?_))))))
         first
         | exact Fin.result (O' := bu d bm D mx ([] ++ R)) (.inr rfl) rfl rfl au (by unfold bL; rw [if_pos (by omega)]; exact ⟨mx, [], rfl, rfl, hD⟩)
         | exact Fin.result (O' := bu d bm D mx ([] ++ R)) (.inr rfl) rfl rfl au (by unfold bL; rw [if_neg (by omega), if_pos (by assumption)]; exact ⟨mx, [], rfl, rfl, hD⟩)
         | exact Fin.result (O' := bu d bm D mx ([] ++ R)) (.inr rfl) rfl rfl au (by unfold bL; rw [if_neg (by omega), if_neg (by simp [hc1]), if_pos (by omega)]; exact ⟨mx, [], rfl, rfl, hD⟩)
         | exact Fin.result (O' := bu d bm (bE (gA D n b)).2 _ (G38 ++ R)) (.inr rfl) rfl rfl au (by unfold bL; rw [if_neg (by omega), if_neg (by simp [hc1]), if_neg (by omega), if_neg (by simpa using hc3)]; exact ⟨_, G38, rfl, rfl, hs.step⟩)
         | exact Fin.result (O' := bu d bm (bE (gA D n b)).2 _ (G38 ++ R)) (.inr rfl) rfl rfl au (by unfold bL; rw [if_neg (by omega), if_neg (by simp [hc1]), if_neg (by omega), if_pos (by simpa using hc3)]; exact ⟨_, G38, rfl, rfl, hs.step⟩)
       · try simp only [aB] at hc3
         refine WX.skip (Fin.aa (WX.seq (WX.region rfl (za rfl (ae.nil (Fin.aa (WX.ret ?_)))))))
         first
         | exact Fin.result (O' := bu d bm D mx ([] ++ R)) (.inr rfl) rfl rfl au (by unfold bL; rw [if_pos (by omega)]; exact ⟨mx, [], rfl, rfl, hD⟩)
         | exact Fin.result (O' := bu d bm D mx ([] ++ R)) (.inr rfl) rfl rfl au (by unfold bL; rw [if_neg (by omega), if_pos (by assumption)]; exact ⟨mx, [], rfl, rfl, hD⟩)
         | exact Fin.result (O' := bu d bm D mx ([] ++ R)) (.inr rfl) rfl rfl au (by unfold bL; rw [if_neg (by omega), if_neg (by simp [hc1]), if_pos (by omega)]; exact ⟨mx, [], rfl, rfl, hD⟩)
         | exact Fin.result (O' := bu d bm (bE (gA D n b)).2 _ (G38 ++ R)) (.inr rfl) rfl rfl au (by unfold bL; rw [if_neg (by omega), if_neg (by simp [hc1]), if_neg (by omega), if_neg (by simpa using hc3)]; exact ⟨_, G38, rfl, rfl, hs.step⟩)
         | exact Fin.result (O' := bu d bm (bE (gA D n b)).2 _ (G38 ++ R)) (.inr rfl) rfl rfl au (by unfold bL; rw [if_neg (by omega), if_neg (by simp [hc1]), if_neg (by omega), if_pos (by simpa using hc3)]; exact ⟨_, G38, rfl, rfl, hs.step⟩)
def cC (D : Dk) (file : Int) : Int × Dk :=
 if cZ (aI D.fs file).bs (aG (aI D.fs file).bs).length < (aI D.fs file).bs.length then cA D file (cZ (aI D.fs file).bs (aG (aI D.fs file).bs).length : Nat) else (0, D)
def cq (D : Dk) (file : Int) : Int × Dk :=
 if (cK D file).2 ≠ 0 then ((cK D file).2, D)
 else if (cC D file).1 ≠ 0 then cC D file else bT (cC D file).2
abbrev iR (lg d : Nat) (file n : Int) (down : Bool) : Nat × gl := (lg, ⟨0, false, [Ptr d 0, I file, I n, .bool down]⟩)
theorem yb (O : an) (file : Int) : Spec Tryz.prog false 7 #[.pointer none, I file] O fun v O' => v = .tuple #[.pointer none, .slice none 0 0, I 1] ∧ O' = O := by
 refine Spec.enter (args := [_, _]) (m := 49) Tryz.func7 rfl rfl (by decide +kernel) fun h0 => ?_
 refine WX.seq (WX.region rfl (za rfl (za rfl (za rfl (ae.nil (Fin.aa (WX.seq (WX.seq (WX.region rfl (zm rfl ?_))))))))))
 refine ae.ly Met.none rfl rfl Tryz.underlying24 ?_
 refine ae.nil (Fin.aa ?_)
 refine WX.cond rfl (fun hc0 => ?_) (fun hc0 => ?_)
 · try simp only [aB] at hc0
   refine WX.seq (WX.region rfl (za rfl (za rfl (za rfl (ae.nil (Fin.aa (WX.ret (Fin.az ?_))))))))
   exact Fin.result (O' := O) (.inr rfl) rfl rfl au ⟨rfl, rfl⟩
 · try simp only [aB] at hc0
   exact (by simp at hc0)
theorem w7 (R : an) {R0 : an} (d bm : Nat) (D : Dk) (mx : bf) (file : Int) (hD : dX R0 D mx) (hi : ∀ g, Sat g R → Sat g R0) (hl : (aI D.fs file).bs.length ≤ 100000) :
  Spec Tryz.prog false 7 #[Ptr d 0, I file] (bu d bm D mx R) fun v O' => ∃ mx',
   (((cq D file).1 = 0 ∧ ∃ lg ao co vs Gg Rg, v = .tuple #[Ptr lg 0, .slice ao (aG (aI D.fs file).bs).length co, I 0] ∧ Grow 1 ao (aG (aI D.fs file).bs).length co vs Gg ∧ fi Rg vs (aG (aI D.fs file).bs) ∧
     O' = iR lg d file (aG (aI D.fs file).bs).length false :: bu d bm (cq D file).2 mx' (Gg ++ (Rg ++ R)) ∧ dX R0 (cq D file).2 mx') ∨
    ((cq D file).1 ≠ 0 ∧ ∃ N, v = .tuple #[.pointer none, .slice none 0 0, I (cq D file).1] ∧ O' = bu d bm (cq D file).2 mx' (N ++ R) ∧ dX R0 (cq D file).2 mx')) := by
 obtain ⟨fa, fc, hfv, hrow, hnil, hB⟩ := hD.di.get file
 have hrd : cK D file = ([], 1) ∨ cK D file = ([], 23) ∨ cK D file = ((aI D.fs file).bs, 0) := by
  unfold cK
  split
  · exact .inl rfl
  · split
    · exact .inr (.inl rfl)
    · exact .inr (.inr rfl)
 obtain ⟨b, hb⟩ : ∃ b, b = (aI D.fs file).bs := ⟨_, rfl⟩
 have hend := nh b (aG b).length
 have hT1 : cZ b (aG b).length < b.length → cC D file = cA D file (cZ b (aG b).length : Nat) := fun q => by
  unfold cC
  rw [← hb, if_pos q]
 have hT2 : ¬ cZ b (aG b).length < b.length → cC D file = (0, D) := fun q => by
  unfold cC
  rw [← hb, if_neg q]
 rw [← hb] at hrd hl hB ⊢
 refine Spec.enter (args := [_, _]) (m := 49) Tryz.func7 rfl rfl (by decide +kernel) fun h0 => ?_
 refine WX.seq (WX.region rfl (za rfl (za rfl (za rfl (ae.nil (Fin.aa (WX.seq (WX.seq (WX.region rfl (zm rfl ?_))))))))))
 refine ae.ly Met.none rfl rfl Tryz.underlying24 ?_
 refine ae.nil (Fin.aa ?_)
 refine WX.cond rfl (fun hc0 => ?_) (fun hc0 => ?_)
 · try simp only [aB] at hc0
   exact (by simp at hc0)
 · try simp only [aB] at hc0
   refine WX.skip (Fin.aa (WX.seq (WX.region rfl (zm rfl (zm rfl ?_)))))
   refine ae.cl (O1 := _) Met.none rfl (ah Tryz.func19 (by decide +kernel)) rfl (fun _ h => h) (fE R d bm D mx file hD hi) (fun v O' hp => ?_)
   obtain ⟨a1, c1, G1, rfl, hG1, rfl⟩ := hp
   refine zm rfl (ze rfl rfl (ze rfl rfl (za rfl (za rfl (ae.nil (Fin.aa (WX.seq (WX.seq (WX.region rfl (zm rfl (zb rfl rfl rfl (ae.nil (Fin.aa ?_)))))))))))))
   refine WX.cond rfl (fun hc1 => ?_) (fun hc1 => ?_)
   · try simp only [aB] at hc1
     refine WX.seq (WX.region rfl (zm rfl (za rfl (za rfl (za rfl (ae.nil (Fin.aa (WX.ret (Fin.az ?_)))))))))
     first
     | (exfalso; omega)
     | (exfalso; simp at hc3; done)
     | exact Fin.result (O' := bu d bm D mx ([] ++ R)) (.inr rfl) rfl rfl aC (by
       have hop : cq D file = ((cK D file).2, D) := by unfold cq; rw [if_pos hc1]
       rw [hop]
       exact ⟨mx, .inr ⟨hc1, [], rfl, rfl, hD⟩⟩)
     | exact Fin.result (O' := bu d bm (cC D file).2 mx1 ((Gg ++ Rg) ++ R)) (.inr rfl) rfl rfl aC (by
       rw [hop]
       rw [if_pos hc3]
       exact ⟨mx1, .inr ⟨hc4, Gg ++ Rg, rfl, rfl, hD1⟩⟩)
     | exact Fin.result (O' := bu d bm (bT (cC D file).2).2 mx2 ((Gg ++ Rg) ++ R)) (.inr rfl) rfl rfl aC (by
       rw [hop]
       rw [if_neg (by omega)]
       exact ⟨mx2, .inr ⟨hc4, Gg ++ Rg, rfl, rfl, hD2⟩⟩)
     | exact Fin.result (O' := bu d bm (bT D).2 mx2 ((Gg ++ Rg) ++ R)) (.inr rfl) rfl rfl aC (by
       rw [hop]
       rw [if_neg (by rw [hT]; simp), hT]
       exact ⟨mx2, .inr ⟨hc4, Gg ++ Rg, rfl, rfl, hD2⟩⟩)
     | exact Fin.result (O' := (b47, ⟨0, false, [Ptr d 0, I file, .int .i64 ((aG b).length : Nat), .bool false]⟩) :: bu d bm (bT D).2 mx2 (Gg ++ (Rg ++ R))) (.inr rfl) rfl rfl aC (by
       rw [hop]
       rw [if_neg (by rw [hT]; simp), hT]
       exact ⟨mx2, .inl ⟨by omega, b47, ao, co, vs, Gg, Rg, rfl, hGg, hRg, rfl, hD2⟩⟩)
     | exact Fin.result (O' := (b47, ⟨0, false, [Ptr d 0, I file, .int .i64 ((aG b).length : Nat), .bool false]⟩) :: bu d bm (bT (cC D file).2).2 mx2 (Gg ++ (Rg ++ R))) (.inr rfl) rfl rfl aC (by
       rw [hop]
       rw [if_neg (by omega)]
       exact ⟨mx2, .inl ⟨by omega, b47, ao, co, vs, Gg, Rg, rfl, hGg, hRg, rfl, hD2⟩⟩)
   · try simp only [aB] at hc1
     refine WX.skip (Fin.aa (WX.seq ?_))
     have hr0 : cK D file = (b, 0) := by
      rcases hrd with q | q | q
      · rw [q] at hc1; simp at hc1
      · rw [q] at hc1; simp at hc1
      · exact q
     have hop : cq D file = if (cC D file).1 ≠ 0 then cC D file else bT (cC D file).2 := by
      unfold cq
      rw [hr0, if_neg (by simp)]
     rw [hr0] at hG1 ⊢
     dsimp only at hG1 ⊢
     refine WX.region rfl (zm rfl ?_)
     refine ae.cl (O1 := _) Met.none rfl (ah Tryz.func23 (by decide +kernel)) rfl (fun _ h => h) (qG _ b a1 c1 hB hl (bK.cons (bK.cons hG1.oK)) (fun q => (hG1.eh q).1)) (fun v O' hp => ?_)
     obtain ⟨ao, co, vs, Gg, Rg, rfl, hGg, hRg, rfl⟩ := hp
     refine zm rfl (ze rfl rfl (ze rfl rfl (za rfl (za rfl (ae.nil (Fin.aa (WX.seq (WX.seq ?_))))))))
     refine WX.re (O' := bu d bm D mx (Gg ++ (Rg ++ R))) ?_
     refine WX.region rfl (zm rfl (zm rfl (ae.len Met.none rfl Tryz.underlying39 (zb rfl rfl rfl (ae.nil (Fin.aa ?_))))))
     refine WX.cond rfl (fun hc2 => ?_) (fun hc2 => ?_)
     · try simp only [aB] at hc2
       refine WX.region rfl (zm rfl (zm rfl (zm rfl ?_)))
       refine ae.cl (O1 := _) Met.none rfl (ah Tryz.func24 (by decide +kernel)) rfl (fun _ h => h) (uX (Gg ++ (Rg ++ R)) d bm D mx file (cZ b (aG b).length : Nat) hD (fun g hg => hi g hg.dY.dY)) (fun v O' hp => ?_)
       obtain ⟨mx1, rfl, rfl, hD1⟩ := hp
       have hT := hT1 (by omega)
       rw [← hT] at hD1 ⊢
       refine za rfl (ae.nil (Fin.aa (WX.seq (WX.seq (WX.region rfl (zm rfl (zb rfl rfl rfl (ae.nil (Fin.aa ?_)))))))))
       refine WX.cond rfl (fun hc3 => ?_) (fun hc3 => ?_)
       · try simp only [aB] at hc3
         refine WX.region rfl (zm rfl ?_)
         refine ae.cl (O1 := _) Met.none rfl (ah Tryz.func25 (by decide +kernel)) rfl (fun _ h => h) ((by first | exact ml (Gg ++ (Rg ++ R)) d bm (cC D file).2 mx1 hD1 | exact ml (Gg ++ (Rg ++ R)) d bm D mx hD)) (fun v O' hp => ?_)
         obtain ⟨mx2, rfl, rfl, hD2⟩ := hp
         refine za rfl (ae.nil (Fin.aa (WX.seq (WX.seq (WX.region rfl (zm rfl (zb rfl rfl rfl (ae.nil (Fin.aa ?_)))))))))
         refine WX.cond rfl (fun hc4 => ?_) (fun hc4 => ?_)
         · try simp only [aB] at hc4
           refine WX.seq (WX.region rfl (zm rfl (za rfl (za rfl (za rfl (ae.nil (Fin.aa (WX.ret (Fin.az ?_)))))))))
           first
           | (exfalso; omega)
           | (exfalso; simp at hc3; done)
           | exact Fin.result (O' := bu d bm D mx ([] ++ R)) (.inr rfl) rfl rfl aC (by
             have hop : cq D file = ((cK D file).2, D) := by unfold cq; rw [if_pos hc1]
             rw [hop]
             exact ⟨mx, .inr ⟨hc1, [], rfl, rfl, hD⟩⟩)
           | exact Fin.result (O' := bu d bm (cC D file).2 mx1 ((Gg ++ Rg) ++ R)) (.inr rfl) rfl rfl aC (by
             rw [hop]
             rw [if_pos hc3]
             exact ⟨mx1, .inr ⟨hc4, Gg ++ Rg, rfl, rfl, hD1⟩⟩)
           | exact Fin.result (O' := bu d bm (bT (cC D file).2).2 mx2 ((Gg ++ Rg) ++ R)) (.inr rfl) rfl rfl aC (by
             rw [hop]
             rw [if_neg (by omega)]
             exact ⟨mx2, .inr ⟨hc4, Gg ++ Rg, rfl, rfl, hD2⟩⟩)
           | exact Fin.result (O' := bu d bm (bT D).2 mx2 ((Gg ++ Rg) ++ R)) (.inr rfl) rfl rfl aC (by
             rw [hop]
             rw [if_neg (by rw [hT]; simp), hT]
             exact ⟨mx2, .inr ⟨hc4, Gg ++ Rg, rfl, rfl, hD2⟩⟩)
           | exact Fin.result (O' := (b47, ⟨0, false, [Ptr d 0, I file, .int .i64 ((aG b).length : Nat), .bool false]⟩) :: bu d bm (bT D).2 mx2 (Gg ++ (Rg ++ R))) (.inr rfl) rfl rfl aC (by
             rw [hop]
             rw [if_neg (by rw [hT]; simp), hT]
             exact ⟨mx2, .inl ⟨by omega, b47, ao, co, vs, Gg, Rg, rfl, hGg, hRg, rfl, hD2⟩⟩)
           | exact Fin.result (O' := (b47, ⟨0, false, [Ptr d 0, I file, .int .i64 ((aG b).length : Nat), .bool false]⟩) :: bu d bm (bT (cC D file).2).2 mx2 (Gg ++ (Rg ++ R))) (.inr rfl) rfl rfl aC (by
             rw [hop]
             rw [if_neg (by omega)]
             exact ⟨mx2, .inl ⟨by omega, b47, ao, co, vs, Gg, Rg, rfl, hGg, hRg, rfl, hD2⟩⟩)
         · try simp only [aB] at hc4
           refine WX.skip (Fin.aa (WX.seq (WX.region rfl (zm rfl (zm rfl (zm rfl (ae.len Met.none rfl Tryz.underlying29 ?_)))))))
           refine ae.build (c := [_, _, _, _]) Met.none rfl qo lK rfl ?_
           refine ae.box (c := [_, _, _, _]) Met.none rfl rfl rfl (fun b47 => ?_)
           refine zm rfl (za rfl (za rfl (za rfl (ae.nil (Fin.aa (WX.ret ?_))))))
           first
           | (exfalso; omega)
           | (exfalso; simp at hc3; done)
           | exact Fin.result (O' := bu d bm D mx ([] ++ R)) (.inr rfl) rfl rfl aC (by
             have hop : cq D file = ((cK D file).2, D) := by unfold cq; rw [if_pos hc1]
             rw [hop]
             exact ⟨mx, .inr ⟨hc1, [], rfl, rfl, hD⟩⟩)
           | exact Fin.result (O' := bu d bm (cC D file).2 mx1 ((Gg ++ Rg) ++ R)) (.inr rfl) rfl rfl aC (by
             rw [hop]
             rw [if_pos hc3]
             exact ⟨mx1, .inr ⟨hc4, Gg ++ Rg, rfl, rfl, hD1⟩⟩)
           | exact Fin.result (O' := bu d bm (bT (cC D file).2).2 mx2 ((Gg ++ Rg) ++ R)) (.inr rfl) rfl rfl aC (by
             rw [hop]
             rw [if_neg (by omega)]
             exact ⟨mx2, .inr ⟨hc4, Gg ++ Rg, rfl, rfl, hD2⟩⟩)
           | exact Fin.result (O' := bu d bm (bT D).2 mx2 ((Gg ++ Rg) ++ R)) (.inr rfl) rfl rfl aC (by
             rw [hop]
             rw [if_neg (by rw [hT]; simp), hT]
             exact ⟨mx2, .inr ⟨hc4, Gg ++ Rg, rfl, rfl, hD2⟩⟩)
           | exact Fin.result (O' := (b47, ⟨0, false, [Ptr d 0, I file, .int .i64 ((aG b).length : Nat), .bool false]⟩) :: bu d bm (bT D).2 mx2 (Gg ++ (Rg ++ R))) (.inr rfl) rfl rfl aC (by
             rw [hop]
             rw [if_neg (by rw [hT]; simp), hT]
             exact ⟨mx2, .inl ⟨by omega, b47, ao, co, vs, Gg, Rg, rfl, hGg, hRg, rfl, hD2⟩⟩)
           | exact Fin.result (O' := (b47, ⟨0, false, [Ptr d 0, I file, .int .i64 ((aG b).length : Nat), .bool false]⟩) :: bu d bm (bT (cC D file).2).2 mx2 (Gg ++ (Rg ++ R))) (.inr rfl) rfl rfl aC (by
             rw [hop]
             rw [if_neg (by omega)]
             exact ⟨mx2, .inl ⟨by omega, b47, ao, co, vs, Gg, Rg, rfl, hGg, hRg, rfl, hD2⟩⟩)
       · try simp only [aB] at hc3
         refine WX.skip (Fin.aa (WX.seq (WX.seq (WX.region rfl (zm rfl (zb rfl rfl rfl (ae.nil (Fin.aa ?_))))))))
         refine WX.cond rfl (fun hc4 => ?_) (fun hc4 => ?_)
         · try simp only [aB] at hc4
           refine WX.seq (WX.region rfl (zm rfl (za rfl (za rfl (za rfl (ae.nil (Fin.aa (WX.ret (Fin.az ?_)))))))))
           first
           | (exfalso; omega)
           | (exfalso; simp at hc3; done)
           | exact Fin.result (O' := bu d bm D mx ([] ++ R)) (.inr rfl) rfl rfl aC (by
             have hop : cq D file = ((cK D file).2, D) := by unfold cq; rw [if_pos hc1]
             rw [hop]
             exact ⟨mx, .inr ⟨hc1, [], rfl, rfl, hD⟩⟩)
           | exact Fin.result (O' := bu d bm (cC D file).2 mx1 ((Gg ++ Rg) ++ R)) (.inr rfl) rfl rfl aC (by
             rw [hop]
             rw [if_pos hc3]
             exact ⟨mx1, .inr ⟨hc4, Gg ++ Rg, rfl, rfl, hD1⟩⟩)
           | exact Fin.result (O' := bu d bm (bT (cC D file).2).2 mx2 ((Gg ++ Rg) ++ R)) (.inr rfl) rfl rfl aC (by
             rw [hop]
             rw [if_neg (by omega)]
             exact ⟨mx2, .inr ⟨hc4, Gg ++ Rg, rfl, rfl, hD2⟩⟩)
           | exact Fin.result (O' := bu d bm (bT D).2 mx2 ((Gg ++ Rg) ++ R)) (.inr rfl) rfl rfl aC (by
             rw [hop]
             rw [if_neg (by rw [hT]; simp), hT]
             exact ⟨mx2, .inr ⟨hc4, Gg ++ Rg, rfl, rfl, hD2⟩⟩)
           | exact Fin.result (O' := (b47, ⟨0, false, [Ptr d 0, I file, .int .i64 ((aG b).length : Nat), .bool false]⟩) :: bu d bm (bT D).2 mx2 (Gg ++ (Rg ++ R))) (.inr rfl) rfl rfl aC (by
             rw [hop]
             rw [if_neg (by rw [hT]; simp), hT]
             exact ⟨mx2, .inl ⟨by omega, b47, ao, co, vs, Gg, Rg, rfl, hGg, hRg, rfl, hD2⟩⟩)
           | exact Fin.result (O' := (b47, ⟨0, false, [Ptr d 0, I file, .int .i64 ((aG b).length : Nat), .bool false]⟩) :: bu d bm (bT (cC D file).2).2 mx2 (Gg ++ (Rg ++ R))) (.inr rfl) rfl rfl aC (by
             rw [hop]
             rw [if_neg (by omega)]
             exact ⟨mx2, .inl ⟨by omega, b47, ao, co, vs, Gg, Rg, rfl, hGg, hRg, rfl, hD2⟩⟩)
         · try simp only [aB] at hc4
           refine WX.skip (Fin.aa (WX.seq (WX.region rfl (zm rfl (zm rfl (zm rfl (ae.len Met.none rfl Tryz.underlying29 ?_)))))))
           refine ae.build (c := [_, _, _, _]) Met.none rfl qo lK rfl ?_
           refine ae.box (c := [_, _, _, _]) Met.none rfl rfl rfl (fun b47 => ?_)
           refine zm rfl (za rfl (za rfl (za rfl (ae.nil (Fin.aa (WX.ret ?_))))))
           first
           | (exfalso; omega)
           | (exfalso; simp at hc3; done)
           | exact Fin.result (O' := bu d bm D mx ([] ++ R)) (.inr rfl) rfl rfl aC (by
             have hop : cq D file = ((cK D file).2, D) := by unfold cq; rw [if_pos hc1]
             rw [hop]
             exact ⟨mx, .inr ⟨hc1, [], rfl, rfl, hD⟩⟩)
           | exact Fin.result (O' := bu d bm (cC D file).2 mx1 ((Gg ++ Rg) ++ R)) (.inr rfl) rfl rfl aC (by
             rw [hop]
             rw [if_pos hc3]
             exact ⟨mx1, .inr ⟨hc4, Gg ++ Rg, rfl, rfl, hD1⟩⟩)
           | exact Fin.result (O' := bu d bm (bT (cC D file).2).2 mx2 ((Gg ++ Rg) ++ R)) (.inr rfl) rfl rfl aC (by
             rw [hop]
             rw [if_neg (by omega)]
             exact ⟨mx2, .inr ⟨hc4, Gg ++ Rg, rfl, rfl, hD2⟩⟩)
           | exact Fin.result (O' := bu d bm (bT D).2 mx2 ((Gg ++ Rg) ++ R)) (.inr rfl) rfl rfl aC (by
             rw [hop]
             rw [if_neg (by rw [hT]; simp), hT]
             exact ⟨mx2, .inr ⟨hc4, Gg ++ Rg, rfl, rfl, hD2⟩⟩)
           | exact Fin.result (O' := (b47, ⟨0, false, [Ptr d 0, I file, .int .i64 ((aG b).length : Nat), .bool false]⟩) :: bu d bm (bT D).2 mx2 (Gg ++ (Rg ++ R))) (.inr rfl) rfl rfl aC (by
             rw [hop]
             rw [if_neg (by rw [hT]; simp), hT]
             exact ⟨mx2, .inl ⟨by omega, b47, ao, co, vs, Gg, Rg, rfl, hGg, hRg, rfl, hD2⟩⟩)
           | exact Fin.result (O' := (b47, ⟨0, false, [Ptr d 0, I file, .int .i64 ((aG b).length : Nat), .bool false]⟩) :: bu d bm (bT (cC D file).2).2 mx2 (Gg ++ (Rg ++ R))) (.inr rfl) rfl rfl aC (by
             rw [hop]
             rw [if_neg (by omega)]
             exact ⟨mx2, .inl ⟨by omega, b47, ao, co, vs, Gg, Rg, rfl, hGg, hRg, rfl, hD2⟩⟩)
     · try simp only [aB] at hc2
       have hT := hT2 (by omega)
       refine WX.skip (Fin.aa (WX.seq (WX.seq (WX.region rfl (zm rfl (zb rfl rfl rfl (ae.nil (Fin.aa ?_))))))))
       refine WX.cond rfl (fun hc3 => ?_) (fun hc3 => ?_)
       · try simp only [aB] at hc3
         refine WX.region rfl (zm rfl ?_)
         refine ae.cl (O1 := _) Met.none rfl (ah Tryz.func25 (by decide +kernel)) rfl (fun _ h => h) ((by first | exact ml (Gg ++ (Rg ++ R)) d bm (cC D file).2 mx1 hD1 | exact ml (Gg ++ (Rg ++ R)) d bm D mx hD)) (fun v O' hp => ?_)
         obtain ⟨mx2, rfl, rfl, hD2⟩ := hp
         refine za rfl (ae.nil (Fin.aa (WX.seq (WX.seq (WX.region rfl (zm rfl (zb rfl rfl rfl (ae.nil (Fin.aa ?_)))))))))
         refine WX.cond rfl (fun hc4 => ?_) (fun hc4 => ?_)
         · try simp only [aB] at hc4
           refine WX.seq (WX.region rfl (zm rfl (za rfl (za rfl (za rfl (ae.nil (Fin.aa (WX.ret (Fin.az ?_)))))))))
           first
           | (exfalso; omega)
           | (exfalso; simp at hc3; done)
           | exact Fin.result (O' := bu d bm D mx ([] ++ R)) (.inr rfl) rfl rfl aC (by
             have hop : cq D file = ((cK D file).2, D) := by unfold cq; rw [if_pos hc1]
             rw [hop]
             exact ⟨mx, .inr ⟨hc1, [], rfl, rfl, hD⟩⟩)
           | exact Fin.result (O' := bu d bm (cC D file).2 mx1 ((Gg ++ Rg) ++ R)) (.inr rfl) rfl rfl aC (by
             rw [hop]
             rw [if_pos hc3]
             exact ⟨mx1, .inr ⟨hc4, Gg ++ Rg, rfl, rfl, hD1⟩⟩)
           | exact Fin.result (O' := bu d bm (bT (cC D file).2).2 mx2 ((Gg ++ Rg) ++ R)) (.inr rfl) rfl rfl aC (by
             rw [hop]
             rw [if_neg (by omega)]
             exact ⟨mx2, .inr ⟨hc4, Gg ++ Rg, rfl, rfl, hD2⟩⟩)
           | exact Fin.result (O' := bu d bm (bT D).2 mx2 ((Gg ++ Rg) ++ R)) (.inr rfl) rfl rfl aC (by
             rw [hop]
             rw [if_neg (by rw [hT]; simp), hT]
             exact ⟨mx2, .inr ⟨hc4, Gg ++ Rg, rfl, rfl, hD2⟩⟩)
           | exact Fin.result (O' := (b47, ⟨0, false, [Ptr d 0, I file, .int .i64 ((aG b).length : Nat), .bool false]⟩) :: bu d bm (bT D).2 mx2 (Gg ++ (Rg ++ R))) (.inr rfl) rfl rfl aC (by
             rw [hop]
             rw [if_neg (by rw [hT]; simp), hT]
             exact ⟨mx2, .inl ⟨by omega, b47, ao, co, vs, Gg, Rg, rfl, hGg, hRg, rfl, hD2⟩⟩)
           | exact Fin.result (O' := (b47, ⟨0, false, [Ptr d 0, I file, .int .i64 ((aG b).length : Nat), .bool false]⟩) :: bu d bm (bT (cC D file).2).2 mx2 (Gg ++ (Rg ++ R))) (.inr rfl) rfl rfl aC (by
             rw [hop]
             rw [if_neg (by omega)]
             exact ⟨mx2, .inl ⟨by omega, b47, ao, co, vs, Gg, Rg, rfl, hGg, hRg, rfl, hD2⟩⟩)
         · try simp only [aB] at hc4
           refine WX.skip (Fin.aa (WX.seq (WX.region rfl (zm rfl (zm rfl (zm rfl (ae.len Met.none rfl Tryz.underlying29 ?_)))))))
           refine ae.build (c := [_, _, _, _]) Met.none rfl qo lK rfl ?_
           refine ae.box (c := [_, _, _, _]) Met.none rfl rfl rfl (fun b47 => ?_)
           refine zm rfl (za rfl (za rfl (za rfl (ae.nil (Fin.aa (WX.ret ?_))))))
           first
           | (exfalso; omega)
           | (exfalso; simp at hc3; done)
           | exact Fin.result (O' := bu d bm D mx ([] ++ R)) (.inr rfl) rfl rfl aC (by
             have hop : cq D file = ((cK D file).2, D) := by unfold cq; rw [if_pos hc1]
             rw [hop]
             exact ⟨mx, .inr ⟨hc1, [], rfl, rfl, hD⟩⟩)
           | exact Fin.result (O' := bu d bm (cC D file).2 mx1 ((Gg ++ Rg) ++ R)) (.inr rfl) rfl rfl aC (by
             rw [hop]
             rw [if_pos hc3]
             exact ⟨mx1, .inr ⟨hc4, Gg ++ Rg, rfl, rfl, hD1⟩⟩)
           | exact Fin.result (O' := bu d bm (bT (cC D file).2).2 mx2 ((Gg ++ Rg) ++ R)) (.inr rfl) rfl rfl aC (by
             rw [hop]
             rw [if_neg (by omega)]
             exact ⟨mx2, .inr ⟨hc4, Gg ++ Rg, rfl, rfl, hD2⟩⟩)
           | exact Fin.result (O' := bu d bm (bT D).2 mx2 ((Gg ++ Rg) ++ R)) (.inr rfl) rfl rfl aC (by
             rw [hop]
             rw [if_neg (by rw [hT]; simp), hT]
             exact ⟨mx2, .inr ⟨hc4, Gg ++ Rg, rfl, rfl, hD2⟩⟩)
           | exact Fin.result (O' := (b47, ⟨0, false, [Ptr d 0, I file, .int .i64 ((aG b).length : Nat), .bool false]⟩) :: bu d bm (bT D).2 mx2 (Gg ++ (Rg ++ R))) (.inr rfl) rfl rfl aC (by
             rw [hop]
             rw [if_neg (by rw [hT]; simp), hT]
             exact ⟨mx2, .inl ⟨by omega, b47, ao, co, vs, Gg, Rg, rfl, hGg, hRg, rfl, hD2⟩⟩)
           | exact Fin.result (O' := (b47, ⟨0, false, [Ptr d 0, I file, .int .i64 ((aG b).length : Nat), .bool false]⟩) :: bu d bm (bT (cC D file).2).2 mx2 (Gg ++ (Rg ++ R))) (.inr rfl) rfl rfl aC (by
             rw [hop]
             rw [if_neg (by omega)]
             exact ⟨mx2, .inl ⟨by omega, b47, ao, co, vs, Gg, Rg, rfl, hGg, hRg, rfl, hD2⟩⟩)
       · try simp only [aB] at hc3
         refine WX.skip (Fin.aa (WX.seq (WX.seq (WX.region rfl (zm rfl (zb rfl rfl rfl (ae.nil (Fin.aa ?_))))))))
         refine WX.cond rfl (fun hc4 => ?_) (fun hc4 => ?_)
         · try simp only [aB] at hc4
           refine WX.seq (WX.region rfl (zm rfl (za rfl (za rfl (za rfl (ae.nil (Fin.aa (WX.ret (Fin.az ?_)))))))))
           first
           | (exfalso; omega)
           | (exfalso; simp at hc3; done)
           | exact Fin.result (O' := bu d bm D mx ([] ++ R)) (.inr rfl) rfl rfl aC (by
             have hop : cq D file = ((cK D file).2, D) := by unfold cq; rw [if_pos hc1]
             rw [hop]
             exact ⟨mx, .inr ⟨hc1, [], rfl, rfl, hD⟩⟩)
           | exact Fin.result (O' := bu d bm (cC D file).2 mx1 ((Gg ++ Rg) ++ R)) (.inr rfl) rfl rfl aC (by
             rw [hop]
             rw [if_pos hc3]
             exact ⟨mx1, .inr ⟨hc4, Gg ++ Rg, rfl, rfl, hD1⟩⟩)
           | exact Fin.result (O' := bu d bm (bT (cC D file).2).2 mx2 ((Gg ++ Rg) ++ R)) (.inr rfl) rfl rfl aC (by
             rw [hop]
             rw [if_neg (by omega)]
             exact ⟨mx2, .inr ⟨hc4, Gg ++ Rg, rfl, rfl, hD2⟩⟩)
           | exact Fin.result (O' := bu d bm (bT D).2 mx2 ((Gg ++ Rg) ++ R)) (.inr rfl) rfl rfl aC (by
             rw [hop]
             rw [if_neg (by rw [hT]; simp), hT]
             exact ⟨mx2, .inr ⟨hc4, Gg ++ Rg, rfl, rfl, hD2⟩⟩)
           | exact Fin.result (O' := (b47, ⟨0, false, [Ptr d 0, I file, .int .i64 ((aG b).length : Nat), .bool false]⟩) :: bu d bm (bT D).2 mx2 (Gg ++ (Rg ++ R))) (.inr rfl) rfl rfl aC (by
             rw [hop]
             rw [if_neg (by rw [hT]; simp), hT]
             exact ⟨mx2, .inl ⟨by omega, b47, ao, co, vs, Gg, Rg, rfl, hGg, hRg, rfl, hD2⟩⟩)
           | exact Fin.result (O' := (b47, ⟨0, false, [Ptr d 0, I file, .int .i64 ((aG b).length : Nat), .bool false]⟩) :: bu d bm (bT (cC D file).2).2 mx2 (Gg ++ (Rg ++ R))) (.inr rfl) rfl rfl aC (by
             rw [hop]
             rw [if_neg (by omega)]
             exact ⟨mx2, .inl ⟨by omega, b47, ao, co, vs, Gg, Rg, rfl, hGg, hRg, rfl, hD2⟩⟩)
         · try simp only [aB] at hc4
           refine WX.skip (Fin.aa (WX.seq (WX.region rfl (zm rfl (zm rfl (zm rfl (ae.len Met.none rfl Tryz.underlying29 ?_)))))))
           refine ae.build (c := [_, _, _, _]) Met.none rfl qo lK rfl ?_
           refine ae.box (c := [_, _, _, _]) Met.none rfl rfl rfl (fun b47 => ?_)
           refine zm rfl (za rfl (za rfl (za rfl (ae.nil (Fin.aa (WX.ret ?_))))))
           first
           | (exfalso; omega)
           | (exfalso; simp at hc3; done)
           | exact Fin.result (O' := bu d bm D mx ([] ++ R)) (.inr rfl) rfl rfl aC (by
             have hop : cq D file = ((cK D file).2, D) := by unfold cq; rw [if_pos hc1]
             rw [hop]
             exact ⟨mx, .inr ⟨hc1, [], rfl, rfl, hD⟩⟩)
           | exact Fin.result (O' := bu d bm (cC D file).2 mx1 ((Gg ++ Rg) ++ R)) (.inr rfl) rfl rfl aC (by
             rw [hop]
             rw [if_pos hc3]
             exact ⟨mx1, .inr ⟨hc4, Gg ++ Rg, rfl, rfl, hD1⟩⟩)
           | exact Fin.result (O' := bu d bm (bT (cC D file).2).2 mx2 ((Gg ++ Rg) ++ R)) (.inr rfl) rfl rfl aC (by
             rw [hop]
             rw [if_neg (by omega)]
             exact ⟨mx2, .inr ⟨hc4, Gg ++ Rg, rfl, rfl, hD2⟩⟩)
           | exact Fin.result (O' := bu d bm (bT D).2 mx2 ((Gg ++ Rg) ++ R)) (.inr rfl) rfl rfl aC (by
             rw [hop]
             rw [if_neg (by rw [hT]; simp), hT]
             exact ⟨mx2, .inr ⟨hc4, Gg ++ Rg, rfl, rfl, hD2⟩⟩)
           | exact Fin.result (O' := (b47, ⟨0, false, [Ptr d 0, I file, .int .i64 ((aG b).length : Nat), .bool false]⟩) :: bu d bm (bT D).2 mx2 (Gg ++ (Rg ++ R))) (.inr rfl) rfl rfl aC (by
             rw [hop]
             rw [if_neg (by rw [hT]; simp), hT]
             exact ⟨mx2, .inl ⟨by omega, b47, ao, co, vs, Gg, Rg, rfl, hGg, hRg, rfl, hD2⟩⟩)
           | exact Fin.result (O' := (b47, ⟨0, false, [Ptr d 0, I file, .int .i64 ((aG b).length : Nat), .bool false]⟩) :: bu d bm (bT (cC D file).2).2 mx2 (Gg ++ (Rg ++ R))) (.inr rfl) rfl rfl aC (by
             rw [hop]
             rw [if_neg (by omega)]
             exact ⟨mx2, .inl ⟨by omega, b47, ao, co, vs, Gg, Rg, rfl, hGg, hRg, rfl, hD2⟩⟩)
theorem wC (O : an) (n : Int) (b : List Int) (a : Option Addr) (c : Nat) (hn : dG n) (hb : Bytes b) (hlen : b.length ≤ 100000) (hl : Src O 1 (.slice a b.length c) b.length (b.map B8)) :
  Spec Tryz.prog true 36 #[I n, .slice a b.length c] O fun v O' => ∃ a' c' G, v = .slice a' (ar n b).length c' ∧ Grow 1 a' (ar n b).length c' ((ar n b).map B8) G ∧ O' = G ++ O :=
 (Spec.frame (Post := fun v N => ∃ a' c', v = .slice a' (ar n b).length c' ∧ Grow 1 a' (ar n b).length c' ((ar n b).map B8) N)
  ((oC (w8 O) n b a c hn hb hlen hl.yp).mono fun v O' ⟨a', c', G, h1, h2, h3⟩ => ⟨G, ⟨a', c', h1, h2⟩, h2.own, h3⟩)).mono fun v O' ⟨N, ⟨a', c', h1, h2⟩, h3⟩ => ⟨a', c', N, h1, h2, h3⟩
theorem wz (R : an) (be bl lg d : Nat) (file n e : Int) (down : Bool) (hn : 0 ≤ n ∧ n < 1000000) :
  kn Tryz.prog 34 #[Ptr be 0, Ptr bl 0] ((be, ⟨0, false, [I e]⟩) :: (bl, ⟨0, false, [Ptr lg 0]⟩) :: iR lg d file n down :: R) fun O' => O' = (be, ⟨0, false, [I e]⟩) :: (bl, ⟨0, false, [Ptr lg 0]⟩) :: iR lg d file (if e = 0 then n + 1 else n) (decide (e = 23)) :: R := by
 refine kn.enter (args := [_, _]) (m := 16) Tryz.func34 rfl rfl (by decide +kernel) (by decide +kernel) fun h0 => ?_
 refine WX.seq (WX.region rfl ?_)
 first | refine ae.ld Met.none rfl iB ?_ | refine ae.ba Met.none rfl iB ?_
 first | refine ae.ld Met.none rfl bX ?_ | refine ae.ba Met.none rfl bX ?_
 refine zb rfl rfl rfl (zn rfl ?_)
 first | refine ae.fieldAddr Met.none rfl Tryz.underlying59 rfl dm rfl ?_ | refine ae.bQ Met.none rfl Tryz.underlying59 rfl dm ?_
 refine ae.st (vs := [_]) (j := 2) Met.none rfl rfl rfl dm ?_ (hj := rfl)
 refine zR rfl ?_
 first | refine ae.ld Met.none rfl bX ?_ | refine ae.ba Met.none rfl bX ?_
 refine zb rfl rfl rfl (ae.nil (Fin.aa ?_))
 refine WX.cond rfl (fun hc0 => ?_) (fun hc0 => ?_)
 · try simp only [aB] at hc0
   refine WX.region rfl ?_
   first | refine ae.ld Met.none rfl iB ?_ | refine ae.ba Met.none rfl iB ?_
   refine zn rfl ?_
   first | refine ae.fieldAddr Met.none rfl Tryz.underlying59 rfl cj rfl ?_ | refine ae.bQ Met.none rfl Tryz.underlying59 rfl cj ?_
   first | refine ae.ld Met.none rfl bY ?_ | refine ae.ba Met.none rfl bY ?_
   refine zb rfl rfl dH (zn rfl ?_)
   first | refine ae.fieldAddr Met.none rfl Tryz.underlying59 rfl cj rfl ?_ | refine ae.bQ Met.none rfl Tryz.underlying59 rfl cj ?_
   refine ae.st (vs := [_]) (j := 2) Met.none rfl rfl rfl cj ?_ (hj := rfl)
   refine ae.nil ?_
   first
   | exact Fin.result (O' := (be, ⟨0, false, [I e]⟩) :: (bl, ⟨0, false, [Ptr lg 0]⟩) :: (lg, ⟨0, false, [Ptr d 0, I file, I (n + 1), .bool (decide (e = 23))]⟩) :: R) (.inl rfl) rfl rfl au (by rw [if_pos hc0])
   | exact Fin.result (O' := (be, ⟨0, false, [I e]⟩) :: (bl, ⟨0, false, [Ptr lg 0]⟩) :: (lg, ⟨0, false, [Ptr d 0, I file, I n, .bool (decide (e = 23))]⟩) :: R) (.inl rfl) rfl rfl au (by rw [if_neg hc0])
 · try simp only [aB] at hc0
   refine WX.skip ?_
   first
   | exact Fin.result (O' := (be, ⟨0, false, [I e]⟩) :: (bl, ⟨0, false, [Ptr lg 0]⟩) :: (lg, ⟨0, false, [Ptr d 0, I file, I (n + 1), .bool (decide (e = 23))]⟩) :: R) (.inl rfl) rfl rfl au (by rw [if_pos hc0])
   | exact Fin.result (O' := (be, ⟨0, false, [I e]⟩) :: (bl, ⟨0, false, [Ptr lg 0]⟩) :: (lg, ⟨0, false, [Ptr d 0, I file, I n, .bool (decide (e = 23))]⟩) :: R) (.inl rfl) rfl rfl au (by rw [if_neg hc0])
theorem uY (O : an) (room : Int) (hr : 0 ≤ room ∧ room ≤ 16777216) : Spec Tryz.prog false 5 #[I room] O fun v O' => ∃ d bm, v = Ptr d 0 ∧ O' = bu d bm ⟨room, false, false, 0, []⟩ .new O := by
 refine Spec.enter (args := [_]) (m := 13) Tryz.func5 rfl rfl (by decide +kernel) fun h0 => ?_
 refine WX.seq (WX.region rfl (za rfl (zR rfl (zm rfl ?_))))
 refine ae.cl (O1 := _) Met.none rfl (ah Tryz.func22 (by decide +kernel)) rfl (fun _ h => h) ((rU O room).mono (Post' := fun v O' => ∃ d bm, v = .tuple #[Ptr d 0, I 0] ∧ O' = bu d bm ⟨room, false, false, 0, []⟩ .new O) fun v O' h => by
 rcases h with ⟨_, _, h⟩ | ⟨h, _⟩
 · exact h
 · exact absurd hr h) (fun v O' hp => ?_)
 obtain ⟨d, bm, rfl, rfl⟩ := hp
 refine zm rfl (ze rfl rfl (ze rfl rfl (za rfl (za rfl (ae.nil (Fin.aa (WX.seq (WX.seq (WX.region rfl (zm rfl (zb rfl rfl rfl (ae.nil (Fin.aa ?_)))))))))))))
 refine WX.cond rfl (fun hc0 => ?_) (fun hc0 => ?_)
 · try simp only [aB] at hc0
   exact (by simp at hc0)
 · try simp only [aB] at hc0
   refine WX.skip (Fin.aa (WX.seq (WX.region rfl (zm rfl (za rfl (ae.nil (Fin.aa (WX.ret ?_))))))))
   exact Fin.result (.inr rfl) rfl rfl au ⟨d, bm, rfl, rfl⟩
theorem Spec.sub {P : Program} {q : Bool} {f : FuncId} {args : Array Value} {O : an} {Post Post' : Value → an → Prop} (h : Spec P q f args O Post) (hp : ∀ v O', Post v O' → ∃ O2, Post' v O2 ∧ ∀ g, Sat g O' → Sat g O2) : Spec P q f args O Post' := fun g hg => by
 obtain ⟨v, h', O', h1, h2, h3, h4⟩ := h g hg
 obtain ⟨O2, h5, h6⟩ := hp v O' h2
 exact ⟨v, h', O2, h1, h5, h6 _ h3, h4⟩
def cQ (D : Dk) (file n : Int) (down : Bool) (b : List Int) : Int × Dk :=
 if down = true then (23, D)
 else if (bL D file (ar n b)).1 ≠ 0 then bL D file (ar n b)
 else bT (bL D file (ar n b)).2
theorem xI (O : an) (lg m c : Nat) (a : Option Addr) (hm : 65536 < m) : Spec Tryz.prog false 15 #[Ptr lg 0, .slice a m c] O fun v O' => v = I 4 ∧ O' = O := by
 refine Spec.enter (args := [_, _]) (m := 37) Tryz.func15 rfl rfl (by decide +kernel) fun h0 => ?_
 refine WX.seq (WX.region rfl ?_)
 refine ae.box (c := [_]) Met.none rfl rfl rfl (fun b2 => ?_)
 refine ae.alloc (c := [_]) Met.none uP rfl (fun b4 => ?_)
 refine ae.nil (Fin.aa (WX.seq (WX.seq (WX.region rfl (zm rfl (ae.len Met.none rfl Tryz.underlying39 (zb rfl rfl rfl (ae.nil (Fin.aa ?_)))))))))
 refine WX.cond rfl (fun hc0 => ?_) (fun hc0 => ?_)
 · try simp only [aB] at hc0
   refine WX.seq (WX.region rfl ?_)
   refine ae.st (vs := [_]) (c' := [_]) (j := 0) Met.none rfl rfl rfl cu ?_ (hj := rfl)
   refine ae.nil (Fin.aa (WX.ret (Fin.az ?_)))
   exact Fin.results (O' := O) (.inr rfl) rfl (vs := [I 4]) ⟨⟨b4, 0, rfl, qx at_ bX rfl⟩, trivial⟩ au ⟨rfl, rfl⟩
 · try simp only [aB] at hc0
   exact (by exfalso; omega)
theorem sx (R : an) {R0 : an} (lg d bm : Nat) (D : Dk) (mx : bf) (file n : Int) (down : Bool) (b : List Int) (ab : Option Addr) (cb : Nat) (hD : dX R0 D mx) (hi : ∀ g, Sat g R → Sat g R0) (hn : 0 ≤ n ∧ n < 1000000) (hB : Bytes b) (hl : b.length ≤ 65536) (hb : Src R 1 (.slice ab b.length cb) b.length (b.map B8)) :
  Spec Tryz.prog false 15 #[Ptr lg 0, .slice ab b.length cb] (iR lg d file n down :: bu d bm D mx R) fun v O' => ∃ b2 b4 mx' N, v = I (cQ D file n down b).1 ∧
   O' = (b4, ⟨0, false, [I (cQ D file n down b).1]⟩) :: (b2, ⟨0, false, [Ptr lg 0]⟩) :: iR lg d file (if (cQ D file n down b).1 = 0 then n + 1 else n) (decide ((cQ D file n down b).1 = 23)) :: bu d bm (cQ D file n down b).2 mx' (N ++ R) ∧ dX (N ++ R0) (cQ D file n down b).2 mx' := by
 have key : ∀ (e : Int) (D' : Dk) (mx' : bf) (N : an) (b2 b4 : Nat) (x : Cx) (L : da) (O : an), cQ D file n down b = (e, D') → dX (N ++ R0) D' mx' → jQ L 4 = some (Ptr b4 0) → (∀ h, Sat h O → Sat h ((b4, ⟨0, false, [I e]⟩) :: (b2, ⟨0, false, [Ptr lg 0]⟩) :: iR lg d file n down :: bu d bm D' mx' (N ++ R))) →
   Fin x L O .ret (xW (tb Tryz.prog Tryz.f15 fun v O' => ∃ b2 b4 mx' N, v = I (cQ D file n down b).1 ∧
   O' = (b4, ⟨0, false, [I (cQ D file n down b).1]⟩) :: (b2, ⟨0, false, [Ptr lg 0]⟩) :: iR lg d file (if (cQ D file n down b).1 = 0 then n + 1 else n) (decide ((cQ D file n down b).1 = 23)) :: bu d bm (cQ D file n down b).2 mx' (N ++ R) ∧ dX (N ++ R0) (cQ D file n down b).2 mx') 34 #[Ptr b4 0, Ptr b2 0]) := by
  intro e D' mx' N b2 b4 x L O h1 h2 h3 h4
  refine Fin.late (.inr rfl) rfl h4 (wz (bu d bm D' mx' (N ++ R)) b4 b2 lg d file n e down hn) (fun O2 h5 => ⟨[I e], ⟨⟨b4, 0, h3, by subst h5; exact qx (aU.at 0 rfl) bX rfl⟩, trivial⟩, ?_⟩)
  subst h5
  rw [h1]
  exact ⟨b2, b4, mx', N, rfl, rfl, h2⟩
 refine Spec.xY (args := [_, _]) (m := 37) Tryz.func15 rfl rfl (by decide +kernel) fun h0 => ?_
 refine xh.seq ?_
 refine WX.region rfl ?_
 refine ae.box (c := [_]) Met.none rfl rfl rfl (fun b2 => ?_)
 refine ae.alloc (c := [_]) Met.none uP rfl (fun b4 => ?_)
 refine ae.nil ?_
 refine Fin.qz ?_
 refine xh.seq ?_
 refine WX.seq (WX.region rfl (zm rfl (ae.len Met.none rfl Tryz.underlying39 (zb rfl rfl rfl (ae.nil (Fin.aa ?_))))))
 refine WX.cond rfl (fun hc0 => ?_) (fun hc0 => ?_)
 · try simp only [aB] at hc0
   exact (by exfalso; omega)
 · try simp only [aB] at hc0
   refine WX.skip ?_
   refine Fin.qz ?_
   refine xh.here rfl ?_
   refine WX.seq (WX.seq (WX.region rfl ?_))
   first | refine ae.ld Met.none rfl iB ?_ | refine ae.ba Met.none rfl iB ?_
   refine zn rfl ?_
   first | refine ae.fieldAddr Met.none rfl Tryz.underlying59 rfl dm rfl ?_ | refine ae.bQ Met.none rfl Tryz.underlying59 rfl dm ?_
   first | refine ae.ld Met.none rfl cV ?_ | refine ae.ba Met.none rfl cV ?_
   refine ae.nil (Fin.aa ?_)
   refine WX.cond rfl (fun hc1 => ?_) (fun hc1 => ?_)
   · try simp only [aB] at hc1
     refine WX.seq (WX.region rfl ?_)
     refine ae.st (vs := [_]) (c' := [_]) (j := 0) Met.none rfl rfl rfl cu ?_ (hj := rfl)
     refine ae.nil (Fin.aa (WX.ret (Fin.az ?_)))
     first
     | exact key 23 D mx [] _ _ _ _ _ (by unfold cQ; rw [if_pos (by assumption)]) hD rfl (fun _ hs => hs)
     | exact key _ _ mx1 N1 _ _ _ _ _ (by unfold cQ; rw [if_neg (by simp [hc1]), if_pos hc2]) hD1 rfl (fun _ hs => hs)
     | exact key _ _ mx2 N1 _ _ _ _ _ (by unfold cQ; rw [if_neg (by simp [hc1]), if_neg (by omega)]) hD2 rfl (fun _ hs => hs)
   · try simp only [aB] at hc1
     refine WX.skip (Fin.aa (WX.seq (WX.seq ?_)))
     refine WX.draw rfl ?_
     first | refine ae.ld Met.none rfl iB ?_ | refine ae.ba Met.none rfl iB ?_
     refine zn rfl ?_
     first | refine ae.fieldAddr Met.none rfl Tryz.underlying59 rfl xc rfl ?_ | refine ae.bQ Met.none rfl Tryz.underlying59 rfl xc ?_
     first | refine ae.ld Met.none rfl sW ?_ | refine ae.ba Met.none rfl sW ?_
     first | refine ae.ld Met.none rfl iB ?_ | refine ae.ba Met.none rfl iB ?_
     refine zn rfl ?_
     first | refine ae.fieldAddr Met.none rfl Tryz.underlying59 rfl cj rfl ?_ | refine ae.bQ Met.none rfl Tryz.underlying59 rfl cj ?_
     first | refine ae.ld Met.none rfl bY ?_ | refine ae.ba Met.none rfl bY ?_
     first | refine ae.ld Met.none rfl iB ?_ | refine ae.ba Met.none rfl iB ?_
     refine zn rfl ?_
     first | refine ae.fieldAddr Met.none rfl Tryz.underlying59 rfl cj rfl ?_ | refine ae.bQ Met.none rfl Tryz.underlying59 rfl cj ?_
     first | refine ae.ld Met.none rfl bY ?_ | refine ae.ba Met.none rfl bY ?_
     refine zm rfl ?_
     refine ae.cl (O1 := _) Met.none rfl (ah Tryz.func36 (by decide +kernel)) rfl (fun _ h => h) (wC _ n b ab cb (by unfold dG; omega) hB (by omega) (Src.cons (Src.cons (Src.cons (Src.cons (Src.cons hb)))))) (fun v O' hp => ?_)
     obtain ⟨a27, c27, G27, rfl, hG27, rfl⟩ := hp
     refine ae.cl (O1 := bu d bm D mx (G27 ++ ((b4, ⟨0, false, [.int .i64 0]⟩) :: (b2, ⟨0, false, [Ptr lg 0]⟩) :: iR lg d file n down :: R))) Met.none rfl (ah Tryz.func35 (by decide +kernel)) rfl aC (oN (G27 ++ ((b4, ⟨0, false, [.int .i64 0]⟩) :: (b2, ⟨0, false, [Ptr lg 0]⟩) :: iR lg d file n down :: R)) d bm D mx file (ar n b) a27 c27 hD (fun g hg => hi g hg.dY.tail.tail.tail) hG27.src (gS hB)) (fun v O' hp => ?_)
     obtain ⟨mx1, N1, rfl, rfl, hD1⟩ := hp
     refine za rfl (ae.nil (Fin.aa (WX.seq ?_)))
     refine WX.re (O' := (b4, ⟨0, false, [.int .i64 0]⟩) :: (b2, ⟨0, false, [Ptr lg 0]⟩) :: iR lg d file n down :: bu d bm (bL D file (ar n b)).2 mx1 (N1 ++ R)) ?_
     refine WX.region rfl (zm rfl (zb rfl rfl rfl (ae.nil (Fin.aa ?_))))
     refine WX.cond rfl (fun hc2 => ?_) (fun hc2 => ?_)
     · try simp only [aB] at hc2
       refine WX.seq (WX.region rfl (zm rfl ?_))
       refine ae.st (vs := [_]) (c' := [_]) (j := 0) Met.none rfl rfl rfl cu ?_ (hj := rfl)
       refine ae.nil (Fin.aa (WX.ret (Fin.az ?_)))
       first
       | exact key 23 D mx [] _ _ _ _ _ (by unfold cQ; rw [if_pos (by assumption)]) hD rfl (fun _ hs => hs)
       | exact key _ _ mx1 N1 _ _ _ _ _ (by unfold cQ; rw [if_neg (by simp [hc1]), if_pos hc2]) hD1 rfl (fun _ hs => hs)
       | exact key _ _ mx2 N1 _ _ _ _ _ (by unfold cQ; rw [if_neg (by simp [hc1]), if_neg (by omega)]) hD2 rfl (fun _ hs => hs)
     · try simp only [aB] at hc2
       refine WX.skip (Fin.aa (WX.seq (WX.region rfl ?_)))
       first | refine ae.ld Met.none rfl iB ?_ | refine ae.ba Met.none rfl iB ?_
       refine zn rfl ?_
       first | refine ae.fieldAddr Met.none rfl Tryz.underlying59 rfl xc rfl ?_ | refine ae.bQ Met.none rfl Tryz.underlying59 rfl xc ?_
       first | refine ae.ld Met.none rfl sW ?_ | refine ae.ba Met.none rfl sW ?_
       refine ae.cl (O1 := bu d bm (bL D file (ar n b)).2 mx1 ((b4, ⟨0, false, [.int .i64 0]⟩) :: (b2, ⟨0, false, [Ptr lg 0]⟩) :: iR lg d file n down :: (N1 ++ R))) Met.none rfl (ah Tryz.func25 (by decide +kernel)) rfl aC (ml _ d bm (bL D file (ar n b)).2 mx1 hD1) (fun v O' hp => ?_)
       obtain ⟨mx2, rfl, rfl, hD2⟩ := hp
       refine ae.re (O' := (b4, ⟨0, false, [.int .i64 0]⟩) :: (b2, ⟨0, false, [Ptr lg 0]⟩) :: iR lg d file n down :: bu d bm (bT (bL D file (ar n b)).2).2 mx2 (N1 ++ R)) ?_
       refine ae.st (vs := [_]) (c' := [_]) (j := 0) Met.none rfl rfl rfl cu ?_ (hj := rfl)
       refine ae.nil (Fin.aa (WX.ret ?_))
       first
       | exact key 23 D mx [] _ _ _ _ _ (by unfold cQ; rw [if_pos (by assumption)]) hD rfl (fun _ hs => hs)
       | exact key _ _ mx1 N1 _ _ _ _ _ (by unfold cQ; rw [if_neg (by simp [hc1]), if_pos hc2]) hD1 rfl (fun _ hs => hs)
       | exact key _ _ mx2 N1 _ _ _ _ _ (by unfold cQ; rw [if_neg (by simp [hc1]), if_neg (by omega)]) hD2 rfl (fun _ hs => hs)
theorem pV (R : an) {R0 : an} (lg d bm : Nat) (D : Dk) (mx : bf) (file n : Int) (down : Bool) (b : List Int) (ab : Option Addr) (cb : Nat) (hD : dX R0 D mx) (hi : ∀ g, Sat g R → Sat g R0) (hn : 0 ≤ n ∧ n < 1000000) (hB : Bytes b) (hl : b.length ≤ 65536) (hb : Src R 1 (.slice ab b.length cb) b.length (b.map B8)) :
  Spec Tryz.prog false 15 #[Ptr lg 0, .slice ab b.length cb] (iR lg d file n down :: bu d bm D mx R) fun v O' => ∃ mx' N, v = I (cQ D file n down b).1 ∧
   O' = iR lg d file (if (cQ D file n down b).1 = 0 then n + 1 else n) (decide ((cQ D file n down b).1 = 23)) :: bu d bm (cQ D file n down b).2 mx' (N ++ R) ∧ dX (N ++ R0) (cQ D file n down b).2 mx' :=
 (sx R lg d bm D mx file n down b ab cb hD hi hn hB hl hb).sub fun v O' ⟨b2, b4, mx', N, h1, h2, h3⟩ => ⟨_, ⟨mx', N, h1, rfl, h3⟩, fun g hg => by rw [h2] at hg; exact hg.tail.tail⟩
def bU (M : Rd) (f : Nat) : Int × Rd :=
 if cZ (nth M.B f) (aG (nth M.B f)).length < (nth M.B f).length then ct M (f : Int) (cZ (nth M.B f) (aG (nth M.B f)).length : Nat) else (0, M)
def cf (M : Rd) (f : Nat) : Int × Rd :=
 if M.off = true then (23, M) else if (bU M f).1 ≠ 0 then bU M f else bt (bU M f).2
theorem tM {R : an} {D : Dk} {M : Rd} {mx : bf} (h : mz D M) (hD : dX R D mx) {f : Nat} (hf : f < 64) : (bU M f).1 = (cC D (f : Int)).1 ∧ mz (cC D (f : Int)).2 (bU M f).2 := by
 unfold bU cC
 rw [h.file f hf]
 simp only
 split
 · exact uE h hD _ _
 · exact ⟨rfl, h⟩
theorem lS {R : an} {D : Dk} {M : Rd} {mx : bf} (h : mz D M) (hD : dX R D mx) {f : Nat} (hf : f < 64) : (cf M f).1 = (cq D (f : Int)).1 ∧ mz (cq D (f : Int)).2 (cf M f).2 := by
 unfold cf cq
 have hr : (cK D (f : Int)).2 = if D.off = true then 23 else 0 := by
  unfold cK
  rw [if_neg (by omega)]
  split <;> rfl
 rw [hr, h.off]
 by_cases ho : D.off = true
 · rw [if_pos ho, if_pos ho, if_pos (show (23 : Int) ≠ 0 by decide)]; exact ⟨rfl, h⟩
 · rw [if_neg ho, if_neg ho, if_neg (show ¬ ((0 : Int) ≠ 0) from fun q => q rfl)]
   obtain ⟨s1, s2⟩ := tM h hD hf
   rw [s1]
   split
   · exact ⟨s1, s2⟩
   · exact q9 s2
def fB (M : Rd) (f : Nat) (n : Int) (down : Bool) (b : List Int) : Int × Rd :=
 if down = true then (23, M)
 else if (aE M (f : Int) (ar n b)).1 ≠ 0 then aE M (f : Int) (ar n b)
 else bt (aE M (f : Int) (ar n b)).2
theorem uZ {R : an} {D : Dk} {M : Rd} {mx : bf} (h : mz D M) (hD : dX R D mx) (f : Nat) (n : Int) (down : Bool) (b : List Int) : (fB M f n down b).1 = (cQ D (f : Int) n down b).1 ∧ mz (cQ D (f : Int) n down b).2 (fB M f n down b).2 := by
 unfold fB cQ
 obtain ⟨s1, s2⟩ := rX h hD (f : Int) (ar n b)
 split
 · exact ⟨rfl, h⟩
 · rw [s1]
   split
   · exact ⟨s1, s2⟩
   · exact q9 s2
theorem uL (R : an) {R0 : an} (r rb rf : Nat) (M : Rd) (vs : List Value) (f : Nat) (h : fJ R0 M vs) (hi : ∀ g, Sat g R → Sat g R0) (hf : f < 64) (hl : (nth M.B f).length ≤ 100000) :
  Spec Tryz.prog false 8 #[Ptr r 0, I (f : Int)] (aW r rb rf M vs R) fun v O' => ∃ vs',
   (((cf M f).1 = 0 ∧ ∃ lg ao co ws Gg, v = .tuple #[Ptr lg 0, .slice ao (aG (nth M.B f)).length co, I 0] ∧ Grow 1 ao (aG (nth M.B f)).length co ws Gg ∧ fi R0 ws (aG (nth M.B f)) ∧
     O' = iR lg r f (aG (nth M.B f)).length false :: aW r rb rf (cf M f).2 vs' (Gg ++ R) ∧ fJ R0 (cf M f).2 vs') ∨
    ((cf M f).1 ≠ 0 ∧ ∃ N, v = .tuple #[.pointer none, .slice none 0 0, I (cf M f).1] ∧ O' = aW r rb rf (cf M f).2 vs' (N ++ R) ∧ fJ R0 (cf M f).2 vs')) := by
 obtain ⟨fa, fc, hfv, hrow0, hnil, hB⟩ := h.file f hf
 have hv : vs[f]? = some (.slice fa (nth M.B f).length fc) := by rw [← hfv]; exact dq (by rw [h.ik]; exact hf)
 obtain ⟨b, hb⟩ : ∃ b, b = nth M.B f := ⟨_, rfl⟩
 have hend := nh b (aG b).length
 have hT1 : cZ b (aG b).length < b.length → bU M f = ct M (f : Int) (cZ b (aG b).length : Nat) := fun q => by
  unfold bU
  rw [← hb, if_pos q]
 have hT2 : ¬ cZ b (aG b).length < b.length → bU M f = (0, M) := fun q => by
  unfold bU
  rw [← hb, if_neg q]
 rw [← hb] at hv hrow0 hB hl ⊢
 have hrow := hrow0.inc hi
 refine Spec.enter (args := [_, _]) (m := 53) Tryz.func8 rfl rfl (by decide +kernel) fun h0 => ?_
 refine WX.seq (WX.region rfl (za rfl (za rfl (za rfl (ae.nil (Fin.aa (WX.seq (WX.seq (WX.region rfl (zm rfl (zn rfl ?_)))))))))))
 first | refine ae.fieldAddr Met.none rfl Tryz.underlying50 rfl dm rfl ?_ | refine ae.bQ Met.none rfl Tryz.underlying50 rfl dm ?_
 first | refine ae.ld Met.none rfl cV ?_ | refine ae.ba Met.none rfl cV ?_
 refine ae.nil (Fin.aa ?_)
 refine WX.cond rfl (fun hc0 => ?_) (fun hc0 => ?_)
 · try simp only [aB] at hc0
   refine WX.seq (WX.region rfl (za rfl (za rfl (za rfl (ae.nil (Fin.aa (WX.ret (Fin.az ?_))))))))
   first
   | (exfalso; omega)
   | (exfalso; simp at hc2; done)
   | (exfalso; simp at hc3; done)
   | exact Fin.result (O' := aW r rb rf M vs ([] ++ R)) (.inr rfl) rfl rfl aC (by
     have hop : cf M f = (23, M) := by unfold cf; rw [if_pos hc0]
     rw [hop]
     exact ⟨vs, .inr ⟨show (23 : Int) ≠ 0 by decide, [], rfl, rfl, h⟩⟩)
   | exact Fin.result (O' := aW r rb rf (bU M f).2 vs1 (Gg ++ R)) (.inr rfl) rfl rfl aC (by
     rw [hop]
     rw [if_pos hc3]
     exact ⟨vs1, .inr ⟨hc3, Gg, rfl, rfl, hM1⟩⟩)
   | exact Fin.result (O' := aW r rb rf (bt (bU M f).2).2 vs1 (Gg ++ R)) (.inr rfl) rfl rfl aC (by
     rw [hop]
     rw [if_neg (by omega)]
     exact ⟨vs1, .inr ⟨hc3, Gg, rfl, rfl, hM2⟩⟩)
   | exact Fin.result (O' := aW r rb rf (bt M).2 vs (Gg ++ R)) (.inr rfl) rfl rfl aC (by
     rw [hop]
     rw [if_neg (by rw [hT]; simp), hT]
     exact ⟨vs, .inr ⟨hc3, Gg, rfl, rfl, hM2⟩⟩)
   | exact Fin.result (O' := (b51, ⟨0, false, [Ptr r 0, I (f : Int), .int .i64 ((aG b).length : Nat), .bool false]⟩) :: aW r rb rf (bt M).2 vs (Gg ++ R)) (.inr rfl) rfl rfl aC (by
     rw [hop]
     rw [if_neg (by rw [hT]; simp), hT]
     exact ⟨vs, .inl ⟨by omega, b51, ao, co, ws, Gg, rfl, hGg, hws R0 hrow0, rfl, hM2⟩⟩)
   | exact Fin.result (O' := (b51, ⟨0, false, [Ptr r 0, I (f : Int), .int .i64 ((aG b).length : Nat), .bool false]⟩) :: aW r rb rf (bt (bU M f).2).2 vs1 (Gg ++ R)) (.inr rfl) rfl rfl aC (by
     rw [hop]
     rw [if_neg (by omega)]
     exact ⟨vs1, .inl ⟨by omega, b51, ao, co, ws, Gg, rfl, hGg, hws R0 hrow0, rfl, hM2⟩⟩)
 · try simp only [aB] at hc0
   refine WX.skip (Fin.aa (WX.seq ?_))
   have ho : M.off = false := by simpa using hc0
   have hop : cf M f = if (bU M f).1 ≠ 0 then bU M f else bt (bU M f).2 := by
    unfold cf
    rw [if_neg (by rw [ho]; decide)]
   refine WX.region rfl (zm rfl (zn rfl ?_))
   first | refine ae.fieldAddr Met.none rfl Tryz.underlying50 rfl cH rfl ?_ | refine ae.bQ Met.none rfl Tryz.underlying50 rfl cH ?_
   first | refine ae.ld Met.none rfl bJ ?_ | refine ae.ba Met.none rfl bJ ?_
   refine zm rfl ?_
   first | refine ae.ix Met.none rfl rfl aR aO ?_ | refine ae.eH Met.none rfl rfl aR aO ?_
   first | refine ae.ld Met.none rfl aD ?_ (hv := hv) | refine ae.ba Met.none rfl aD ?_ (hv := hv)
   refine ae.cl (O1 := _) Met.none rfl (ah Tryz.func26 (by decide +kernel)) rfl (fun _ h => h) (rH _ b fa fc hB hl (bK.cons (bK.cons (bK.cons hrow))) hnil) (fun v O' hp => ?_)
   obtain ⟨ao, co, ws, Gg, rfl, hGg, hws, rfl⟩ := hp
   refine zm rfl (ze rfl rfl (ze rfl rfl (za rfl (za rfl (zR rfl (za rfl (ae.nil (Fin.aa (WX.seq (WX.seq ?_))))))))))
   refine WX.re (O' := aW r rb rf M vs (Gg ++ R)) ?_
   refine WX.region rfl (zm rfl (zn rfl ?_))
   first | refine ae.fieldAddr Met.none rfl Tryz.underlying50 rfl cH rfl ?_ | refine ae.bQ Met.none rfl Tryz.underlying50 rfl cH ?_
   first | refine ae.ld Met.none rfl bJ ?_ | refine ae.ba Met.none rfl bJ ?_
   refine zm rfl ?_
   first | refine ae.ix Met.none rfl rfl aR aO ?_ | refine ae.eH Met.none rfl rfl aR aO ?_
   first | refine ae.ld Met.none rfl aD ?_ (hv := hv) | refine ae.ba Met.none rfl aD ?_ (hv := hv)
   refine ae.len Met.none rfl Tryz.underlying39 (zm rfl (zb rfl rfl rfl (ae.nil (Fin.aa ?_))))
   refine WX.cond rfl (fun hc1 => ?_) (fun hc1 => ?_)
   · try simp only [aB] at hc1
     refine WX.region rfl (zm rfl (zm rfl (zm rfl ?_)))
     refine ae.cl (O1 := _) Met.none rfl (ah Tryz.func27 (by decide +kernel)) rfl (fun _ h => h) (tF (Gg ++ R) r rb rf M vs (f : Int) (cZ b (aG b).length : Nat) h (fun g hg => hi g hg.dY)) (fun v O' hp => ?_)
     obtain ⟨vs1, rfl, rfl, hM1⟩ := hp
     have hT := hT1 (by omega)
     rw [← hT] at hM1 ⊢
     refine za rfl (ae.nil (Fin.aa (WX.seq (WX.seq (WX.region rfl (zm rfl (zb rfl rfl rfl (ae.nil (Fin.aa ?_)))))))))
     refine WX.cond rfl (fun hc2 => ?_) (fun hc2 => ?_)
     · try simp only [aB] at hc2
       refine WX.region rfl (zm rfl ?_)
       refine ae.cl (O1 := _) Met.none rfl (ah Tryz.func28 (by decide +kernel)) rfl (fun _ h => h) ((by first | exact j9 (Gg ++ R) r rb rf (bU M f).2 vs1 hM1 | exact j9 (Gg ++ R) r rb rf M vs h)) (fun v O' hp => ?_)
       obtain ⟨rfl, rfl, hM2⟩ := hp
       refine za rfl (ae.nil (Fin.aa (WX.seq (WX.seq (WX.region rfl (zm rfl (zb rfl rfl rfl (ae.nil (Fin.aa ?_)))))))))
       refine WX.cond rfl (fun hc3 => ?_) (fun hc3 => ?_)
       · try simp only [aB] at hc3
         refine WX.seq (WX.region rfl (zm rfl (za rfl (za rfl (za rfl (ae.nil (Fin.aa (WX.ret (Fin.az ?_)))))))))
         first
         | (exfalso; omega)
         | (exfalso; simp at hc2; done)
         | (exfalso; simp at hc3; done)
         | exact Fin.result (O' := aW r rb rf M vs ([] ++ R)) (.inr rfl) rfl rfl aC (by
           have hop : cf M f = (23, M) := by unfold cf; rw [if_pos hc0]
           rw [hop]
           exact ⟨vs, .inr ⟨show (23 : Int) ≠ 0 by decide, [], rfl, rfl, h⟩⟩)
         | exact Fin.result (O' := aW r rb rf (bU M f).2 vs1 (Gg ++ R)) (.inr rfl) rfl rfl aC (by
           rw [hop]
           rw [if_pos hc3]
           exact ⟨vs1, .inr ⟨hc3, Gg, rfl, rfl, hM1⟩⟩)
         | exact Fin.result (O' := aW r rb rf (bt (bU M f).2).2 vs1 (Gg ++ R)) (.inr rfl) rfl rfl aC (by
           rw [hop]
           rw [if_neg (by omega)]
           exact ⟨vs1, .inr ⟨hc3, Gg, rfl, rfl, hM2⟩⟩)
         | exact Fin.result (O' := aW r rb rf (bt M).2 vs (Gg ++ R)) (.inr rfl) rfl rfl aC (by
           rw [hop]
           rw [if_neg (by rw [hT]; simp), hT]
           exact ⟨vs, .inr ⟨hc3, Gg, rfl, rfl, hM2⟩⟩)
         | exact Fin.result (O' := (b51, ⟨0, false, [Ptr r 0, I (f : Int), .int .i64 ((aG b).length : Nat), .bool false]⟩) :: aW r rb rf (bt M).2 vs (Gg ++ R)) (.inr rfl) rfl rfl aC (by
           rw [hop]
           rw [if_neg (by rw [hT]; simp), hT]
           exact ⟨vs, .inl ⟨by omega, b51, ao, co, ws, Gg, rfl, hGg, hws R0 hrow0, rfl, hM2⟩⟩)
         | exact Fin.result (O' := (b51, ⟨0, false, [Ptr r 0, I (f : Int), .int .i64 ((aG b).length : Nat), .bool false]⟩) :: aW r rb rf (bt (bU M f).2).2 vs1 (Gg ++ R)) (.inr rfl) rfl rfl aC (by
           rw [hop]
           rw [if_neg (by omega)]
           exact ⟨vs1, .inl ⟨by omega, b51, ao, co, ws, Gg, rfl, hGg, hws R0 hrow0, rfl, hM2⟩⟩)
       · try simp only [aB] at hc3
         refine WX.skip (Fin.aa (WX.seq (WX.region rfl (zm rfl (zm rfl (zm rfl (ae.len Met.none rfl Tryz.underlying29 ?_)))))))
         refine ae.build (c := [_, _, _, _]) Met.none rfl qd lV rfl ?_
         refine ae.box (c := [_, _, _, _]) Met.none rfl rfl rfl (fun b51 => ?_)
         refine zm rfl (za rfl (za rfl (za rfl (ae.nil (Fin.aa (WX.ret ?_))))))
         first
         | (exfalso; omega)
         | (exfalso; simp at hc2; done)
         | (exfalso; simp at hc3; done)
         | exact Fin.result (O' := aW r rb rf M vs ([] ++ R)) (.inr rfl) rfl rfl aC (by
           have hop : cf M f = (23, M) := by unfold cf; rw [if_pos hc0]
           rw [hop]
           exact ⟨vs, .inr ⟨show (23 : Int) ≠ 0 by decide, [], rfl, rfl, h⟩⟩)
         | exact Fin.result (O' := aW r rb rf (bU M f).2 vs1 (Gg ++ R)) (.inr rfl) rfl rfl aC (by
           rw [hop]
           rw [if_pos hc3]
           exact ⟨vs1, .inr ⟨hc3, Gg, rfl, rfl, hM1⟩⟩)
         | exact Fin.result (O' := aW r rb rf (bt (bU M f).2).2 vs1 (Gg ++ R)) (.inr rfl) rfl rfl aC (by
           rw [hop]
           rw [if_neg (by omega)]
           exact ⟨vs1, .inr ⟨hc3, Gg, rfl, rfl, hM2⟩⟩)
         | exact Fin.result (O' := aW r rb rf (bt M).2 vs (Gg ++ R)) (.inr rfl) rfl rfl aC (by
           rw [hop]
           rw [if_neg (by rw [hT]; simp), hT]
           exact ⟨vs, .inr ⟨hc3, Gg, rfl, rfl, hM2⟩⟩)
         | exact Fin.result (O' := (b51, ⟨0, false, [Ptr r 0, I (f : Int), .int .i64 ((aG b).length : Nat), .bool false]⟩) :: aW r rb rf (bt M).2 vs (Gg ++ R)) (.inr rfl) rfl rfl aC (by
           rw [hop]
           rw [if_neg (by rw [hT]; simp), hT]
           exact ⟨vs, .inl ⟨by omega, b51, ao, co, ws, Gg, rfl, hGg, hws R0 hrow0, rfl, hM2⟩⟩)
         | exact Fin.result (O' := (b51, ⟨0, false, [Ptr r 0, I (f : Int), .int .i64 ((aG b).length : Nat), .bool false]⟩) :: aW r rb rf (bt (bU M f).2).2 vs1 (Gg ++ R)) (.inr rfl) rfl rfl aC (by
           rw [hop]
           rw [if_neg (by omega)]
           exact ⟨vs1, .inl ⟨by omega, b51, ao, co, ws, Gg, rfl, hGg, hws R0 hrow0, rfl, hM2⟩⟩)
     · try simp only [aB] at hc2
       refine WX.skip (Fin.aa (WX.seq (WX.seq (WX.region rfl (zm rfl (zb rfl rfl rfl (ae.nil (Fin.aa ?_))))))))
       refine WX.cond rfl (fun hc3 => ?_) (fun hc3 => ?_)
       · try simp only [aB] at hc3
         refine WX.seq (WX.region rfl (zm rfl (za rfl (za rfl (za rfl (ae.nil (Fin.aa (WX.ret (Fin.az ?_)))))))))
         first
         | (exfalso; omega)
         | (exfalso; simp at hc2; done)
         | (exfalso; simp at hc3; done)
         | exact Fin.result (O' := aW r rb rf M vs ([] ++ R)) (.inr rfl) rfl rfl aC (by
           have hop : cf M f = (23, M) := by unfold cf; rw [if_pos hc0]
           rw [hop]
           exact ⟨vs, .inr ⟨show (23 : Int) ≠ 0 by decide, [], rfl, rfl, h⟩⟩)
         | exact Fin.result (O' := aW r rb rf (bU M f).2 vs1 (Gg ++ R)) (.inr rfl) rfl rfl aC (by
           rw [hop]
           rw [if_pos hc3]
           exact ⟨vs1, .inr ⟨hc3, Gg, rfl, rfl, hM1⟩⟩)
         | exact Fin.result (O' := aW r rb rf (bt (bU M f).2).2 vs1 (Gg ++ R)) (.inr rfl) rfl rfl aC (by
           rw [hop]
           rw [if_neg (by omega)]
           exact ⟨vs1, .inr ⟨hc3, Gg, rfl, rfl, hM2⟩⟩)
         | exact Fin.result (O' := aW r rb rf (bt M).2 vs (Gg ++ R)) (.inr rfl) rfl rfl aC (by
           rw [hop]
           rw [if_neg (by rw [hT]; simp), hT]
           exact ⟨vs, .inr ⟨hc3, Gg, rfl, rfl, hM2⟩⟩)
         | exact Fin.result (O' := (b51, ⟨0, false, [Ptr r 0, I (f : Int), .int .i64 ((aG b).length : Nat), .bool false]⟩) :: aW r rb rf (bt M).2 vs (Gg ++ R)) (.inr rfl) rfl rfl aC (by
           rw [hop]
           rw [if_neg (by rw [hT]; simp), hT]
           exact ⟨vs, .inl ⟨by omega, b51, ao, co, ws, Gg, rfl, hGg, hws R0 hrow0, rfl, hM2⟩⟩)
         | exact Fin.result (O' := (b51, ⟨0, false, [Ptr r 0, I (f : Int), .int .i64 ((aG b).length : Nat), .bool false]⟩) :: aW r rb rf (bt (bU M f).2).2 vs1 (Gg ++ R)) (.inr rfl) rfl rfl aC (by
           rw [hop]
           rw [if_neg (by omega)]
           exact ⟨vs1, .inl ⟨by omega, b51, ao, co, ws, Gg, rfl, hGg, hws R0 hrow0, rfl, hM2⟩⟩)
       · try simp only [aB] at hc3
         refine WX.skip (Fin.aa (WX.seq (WX.region rfl (zm rfl (zm rfl (zm rfl (ae.len Met.none rfl Tryz.underlying29 ?_)))))))
         refine ae.build (c := [_, _, _, _]) Met.none rfl qd lV rfl ?_
         refine ae.box (c := [_, _, _, _]) Met.none rfl rfl rfl (fun b51 => ?_)
         refine zm rfl (za rfl (za rfl (za rfl (ae.nil (Fin.aa (WX.ret ?_))))))
         first
         | (exfalso; omega)
         | (exfalso; simp at hc2; done)
         | (exfalso; simp at hc3; done)
         | exact Fin.result (O' := aW r rb rf M vs ([] ++ R)) (.inr rfl) rfl rfl aC (by
           have hop : cf M f = (23, M) := by unfold cf; rw [if_pos hc0]
           rw [hop]
           exact ⟨vs, .inr ⟨show (23 : Int) ≠ 0 by decide, [], rfl, rfl, h⟩⟩)
         | exact Fin.result (O' := aW r rb rf (bU M f).2 vs1 (Gg ++ R)) (.inr rfl) rfl rfl aC (by
           rw [hop]
           rw [if_pos hc3]
           exact ⟨vs1, .inr ⟨hc3, Gg, rfl, rfl, hM1⟩⟩)
         | exact Fin.result (O' := aW r rb rf (bt (bU M f).2).2 vs1 (Gg ++ R)) (.inr rfl) rfl rfl aC (by
           rw [hop]
           rw [if_neg (by omega)]
           exact ⟨vs1, .inr ⟨hc3, Gg, rfl, rfl, hM2⟩⟩)
         | exact Fin.result (O' := aW r rb rf (bt M).2 vs (Gg ++ R)) (.inr rfl) rfl rfl aC (by
           rw [hop]
           rw [if_neg (by rw [hT]; simp), hT]
           exact ⟨vs, .inr ⟨hc3, Gg, rfl, rfl, hM2⟩⟩)
         | exact Fin.result (O' := (b51, ⟨0, false, [Ptr r 0, I (f : Int), .int .i64 ((aG b).length : Nat), .bool false]⟩) :: aW r rb rf (bt M).2 vs (Gg ++ R)) (.inr rfl) rfl rfl aC (by
           rw [hop]
           rw [if_neg (by rw [hT]; simp), hT]
           exact ⟨vs, .inl ⟨by omega, b51, ao, co, ws, Gg, rfl, hGg, hws R0 hrow0, rfl, hM2⟩⟩)
         | exact Fin.result (O' := (b51, ⟨0, false, [Ptr r 0, I (f : Int), .int .i64 ((aG b).length : Nat), .bool false]⟩) :: aW r rb rf (bt (bU M f).2).2 vs1 (Gg ++ R)) (.inr rfl) rfl rfl aC (by
           rw [hop]
           rw [if_neg (by omega)]
           exact ⟨vs1, .inl ⟨by omega, b51, ao, co, ws, Gg, rfl, hGg, hws R0 hrow0, rfl, hM2⟩⟩)
   · try simp only [aB] at hc1
     have hT := hT2 (by omega)
     refine WX.skip (Fin.aa (WX.seq (WX.seq (WX.region rfl (zm rfl (zb rfl rfl rfl (ae.nil (Fin.aa ?_))))))))
     refine WX.cond rfl (fun hc2 => ?_) (fun hc2 => ?_)
     · try simp only [aB] at hc2
       refine WX.region rfl (zm rfl ?_)
       refine ae.cl (O1 := _) Met.none rfl (ah Tryz.func28 (by decide +kernel)) rfl (fun _ h => h) ((by first | exact j9 (Gg ++ R) r rb rf (bU M f).2 vs1 hM1 | exact j9 (Gg ++ R) r rb rf M vs h)) (fun v O' hp => ?_)
       obtain ⟨rfl, rfl, hM2⟩ := hp
       refine za rfl (ae.nil (Fin.aa (WX.seq (WX.seq (WX.region rfl (zm rfl (zb rfl rfl rfl (ae.nil (Fin.aa ?_)))))))))
       refine WX.cond rfl (fun hc3 => ?_) (fun hc3 => ?_)
       · try simp only [aB] at hc3
         refine WX.seq (WX.region rfl (zm rfl (za rfl (za rfl (za rfl (ae.nil (Fin.aa (WX.ret (Fin.az ?_)))))))))
         first
         | (exfalso; omega)
         | (exfalso; simp at hc2; done)
         | (exfalso; simp at hc3; done)
         | exact Fin.result (O' := aW r rb rf M vs ([] ++ R)) (.inr rfl) rfl rfl aC (by
           have hop : cf M f = (23, M) := by unfold cf; rw [if_pos hc0]
           rw [hop]
           exact ⟨vs, .inr ⟨show (23 : Int) ≠ 0 by decide, [], rfl, rfl, h⟩⟩)
         | exact Fin.result (O' := aW r rb rf (bU M f).2 vs1 (Gg ++ R)) (.inr rfl) rfl rfl aC (by
           rw [hop]
           rw [if_pos hc3]
           exact ⟨vs1, .inr ⟨hc3, Gg, rfl, rfl, hM1⟩⟩)
         | exact Fin.result (O' := aW r rb rf (bt (bU M f).2).2 vs1 (Gg ++ R)) (.inr rfl) rfl rfl aC (by
           rw [hop]
           rw [if_neg (by omega)]
           exact ⟨vs1, .inr ⟨hc3, Gg, rfl, rfl, hM2⟩⟩)
         | exact Fin.result (O' := aW r rb rf (bt M).2 vs (Gg ++ R)) (.inr rfl) rfl rfl aC (by
           rw [hop]
           rw [if_neg (by rw [hT]; simp), hT]
           exact ⟨vs, .inr ⟨hc3, Gg, rfl, rfl, hM2⟩⟩)
         | exact Fin.result (O' := (b51, ⟨0, false, [Ptr r 0, I (f : Int), .int .i64 ((aG b).length : Nat), .bool false]⟩) :: aW r rb rf (bt M).2 vs (Gg ++ R)) (.inr rfl) rfl rfl aC (by
           rw [hop]
           rw [if_neg (by rw [hT]; simp), hT]
           exact ⟨vs, .inl ⟨by omega, b51, ao, co, ws, Gg, rfl, hGg, hws R0 hrow0, rfl, hM2⟩⟩)
         | exact Fin.result (O' := (b51, ⟨0, false, [Ptr r 0, I (f : Int), .int .i64 ((aG b).length : Nat), .bool false]⟩) :: aW r rb rf (bt (bU M f).2).2 vs1 (Gg ++ R)) (.inr rfl) rfl rfl aC (by
           rw [hop]
           rw [if_neg (by omega)]
           exact ⟨vs1, .inl ⟨by omega, b51, ao, co, ws, Gg, rfl, hGg, hws R0 hrow0, rfl, hM2⟩⟩)
       · try simp only [aB] at hc3
         refine WX.skip (Fin.aa (WX.seq (WX.region rfl (zm rfl (zm rfl (zm rfl (ae.len Met.none rfl Tryz.underlying29 ?_)))))))
         refine ae.build (c := [_, _, _, _]) Met.none rfl qd lV rfl ?_
         refine ae.box (c := [_, _, _, _]) Met.none rfl rfl rfl (fun b51 => ?_)
         refine zm rfl (za rfl (za rfl (za rfl (ae.nil (Fin.aa (WX.ret ?_))))))
         first
         | (exfalso; omega)
         | (exfalso; simp at hc2; done)
         | (exfalso; simp at hc3; done)
         | exact Fin.result (O' := aW r rb rf M vs ([] ++ R)) (.inr rfl) rfl rfl aC (by
           have hop : cf M f = (23, M) := by unfold cf; rw [if_pos hc0]
           rw [hop]
           exact ⟨vs, .inr ⟨show (23 : Int) ≠ 0 by decide, [], rfl, rfl, h⟩⟩)
         | exact Fin.result (O' := aW r rb rf (bU M f).2 vs1 (Gg ++ R)) (.inr rfl) rfl rfl aC (by
           rw [hop]
           rw [if_pos hc3]
           exact ⟨vs1, .inr ⟨hc3, Gg, rfl, rfl, hM1⟩⟩)
         | exact Fin.result (O' := aW r rb rf (bt (bU M f).2).2 vs1 (Gg ++ R)) (.inr rfl) rfl rfl aC (by
           rw [hop]
           rw [if_neg (by omega)]
           exact ⟨vs1, .inr ⟨hc3, Gg, rfl, rfl, hM2⟩⟩)
         | exact Fin.result (O' := aW r rb rf (bt M).2 vs (Gg ++ R)) (.inr rfl) rfl rfl aC (by
           rw [hop]
           rw [if_neg (by rw [hT]; simp), hT]
           exact ⟨vs, .inr ⟨hc3, Gg, rfl, rfl, hM2⟩⟩)
         | exact Fin.result (O' := (b51, ⟨0, false, [Ptr r 0, I (f : Int), .int .i64 ((aG b).length : Nat), .bool false]⟩) :: aW r rb rf (bt M).2 vs (Gg ++ R)) (.inr rfl) rfl rfl aC (by
           rw [hop]
           rw [if_neg (by rw [hT]; simp), hT]
           exact ⟨vs, .inl ⟨by omega, b51, ao, co, ws, Gg, rfl, hGg, hws R0 hrow0, rfl, hM2⟩⟩)
         | exact Fin.result (O' := (b51, ⟨0, false, [Ptr r 0, I (f : Int), .int .i64 ((aG b).length : Nat), .bool false]⟩) :: aW r rb rf (bt (bU M f).2).2 vs1 (Gg ++ R)) (.inr rfl) rfl rfl aC (by
           rw [hop]
           rw [if_neg (by omega)]
           exact ⟨vs1, .inl ⟨by omega, b51, ao, co, ws, Gg, rfl, hGg, hws R0 hrow0, rfl, hM2⟩⟩)
     · try simp only [aB] at hc2
       refine WX.skip (Fin.aa (WX.seq (WX.seq (WX.region rfl (zm rfl (zb rfl rfl rfl (ae.nil (Fin.aa ?_))))))))
       refine WX.cond rfl (fun hc3 => ?_) (fun hc3 => ?_)
       · try simp only [aB] at hc3
         refine WX.seq (WX.region rfl (zm rfl (za rfl (za rfl (za rfl (ae.nil (Fin.aa (WX.ret (Fin.az ?_)))))))))
         first
         | (exfalso; omega)
         | (exfalso; simp at hc2; done)
         | (exfalso; simp at hc3; done)
         | exact Fin.result (O' := aW r rb rf M vs ([] ++ R)) (.inr rfl) rfl rfl aC (by
           have hop : cf M f = (23, M) := by unfold cf; rw [if_pos hc0]
           rw [hop]
           exact ⟨vs, .inr ⟨show (23 : Int) ≠ 0 by decide, [], rfl, rfl, h⟩⟩)
         | exact Fin.result (O' := aW r rb rf (bU M f).2 vs1 (Gg ++ R)) (.inr rfl) rfl rfl aC (by
           rw [hop]
           rw [if_pos hc3]
           exact ⟨vs1, .inr ⟨hc3, Gg, rfl, rfl, hM1⟩⟩)
         | exact Fin.result (O' := aW r rb rf (bt (bU M f).2).2 vs1 (Gg ++ R)) (.inr rfl) rfl rfl aC (by
           rw [hop]
           rw [if_neg (by omega)]
           exact ⟨vs1, .inr ⟨hc3, Gg, rfl, rfl, hM2⟩⟩)
         | exact Fin.result (O' := aW r rb rf (bt M).2 vs (Gg ++ R)) (.inr rfl) rfl rfl aC (by
           rw [hop]
           rw [if_neg (by rw [hT]; simp), hT]
           exact ⟨vs, .inr ⟨hc3, Gg, rfl, rfl, hM2⟩⟩)
         | exact Fin.result (O' := (b51, ⟨0, false, [Ptr r 0, I (f : Int), .int .i64 ((aG b).length : Nat), .bool false]⟩) :: aW r rb rf (bt M).2 vs (Gg ++ R)) (.inr rfl) rfl rfl aC (by
           rw [hop]
           rw [if_neg (by rw [hT]; simp), hT]
           exact ⟨vs, .inl ⟨by omega, b51, ao, co, ws, Gg, rfl, hGg, hws R0 hrow0, rfl, hM2⟩⟩)
         | exact Fin.result (O' := (b51, ⟨0, false, [Ptr r 0, I (f : Int), .int .i64 ((aG b).length : Nat), .bool false]⟩) :: aW r rb rf (bt (bU M f).2).2 vs1 (Gg ++ R)) (.inr rfl) rfl rfl aC (by
           rw [hop]
           rw [if_neg (by omega)]
           exact ⟨vs1, .inl ⟨by omega, b51, ao, co, ws, Gg, rfl, hGg, hws R0 hrow0, rfl, hM2⟩⟩)
       · try simp only [aB] at hc3
         refine WX.skip (Fin.aa (WX.seq (WX.region rfl (zm rfl (zm rfl (zm rfl (ae.len Met.none rfl Tryz.underlying29 ?_)))))))
         refine ae.build (c := [_, _, _, _]) Met.none rfl qd lV rfl ?_
         refine ae.box (c := [_, _, _, _]) Met.none rfl rfl rfl (fun b51 => ?_)
         refine zm rfl (za rfl (za rfl (za rfl (ae.nil (Fin.aa (WX.ret ?_))))))
         first
         | (exfalso; omega)
         | (exfalso; simp at hc2; done)
         | (exfalso; simp at hc3; done)
         | exact Fin.result (O' := aW r rb rf M vs ([] ++ R)) (.inr rfl) rfl rfl aC (by
           have hop : cf M f = (23, M) := by unfold cf; rw [if_pos hc0]
           rw [hop]
           exact ⟨vs, .inr ⟨show (23 : Int) ≠ 0 by decide, [], rfl, rfl, h⟩⟩)
         | exact Fin.result (O' := aW r rb rf (bU M f).2 vs1 (Gg ++ R)) (.inr rfl) rfl rfl aC (by
           rw [hop]
           rw [if_pos hc3]
           exact ⟨vs1, .inr ⟨hc3, Gg, rfl, rfl, hM1⟩⟩)
         | exact Fin.result (O' := aW r rb rf (bt (bU M f).2).2 vs1 (Gg ++ R)) (.inr rfl) rfl rfl aC (by
           rw [hop]
           rw [if_neg (by omega)]
           exact ⟨vs1, .inr ⟨hc3, Gg, rfl, rfl, hM2⟩⟩)
         | exact Fin.result (O' := aW r rb rf (bt M).2 vs (Gg ++ R)) (.inr rfl) rfl rfl aC (by
           rw [hop]
           rw [if_neg (by rw [hT]; simp), hT]
           exact ⟨vs, .inr ⟨hc3, Gg, rfl, rfl, hM2⟩⟩)
         | exact Fin.result (O' := (b51, ⟨0, false, [Ptr r 0, I (f : Int), .int .i64 ((aG b).length : Nat), .bool false]⟩) :: aW r rb rf (bt M).2 vs (Gg ++ R)) (.inr rfl) rfl rfl aC (by
           rw [hop]
           rw [if_neg (by rw [hT]; simp), hT]
           exact ⟨vs, .inl ⟨by omega, b51, ao, co, ws, Gg, rfl, hGg, hws R0 hrow0, rfl, hM2⟩⟩)
         | exact Fin.result (O' := (b51, ⟨0, false, [Ptr r 0, I (f : Int), .int .i64 ((aG b).length : Nat), .bool false]⟩) :: aW r rb rf (bt (bU M f).2).2 vs1 (Gg ++ R)) (.inr rfl) rfl rfl aC (by
           rw [hop]
           rw [if_neg (by omega)]
           exact ⟨vs1, .inl ⟨by omega, b51, ao, co, ws, Gg, rfl, hGg, hws R0 hrow0, rfl, hM2⟩⟩)
theorem sF (O : an) (n : Int) (b : List Int) (a : Option Addr) (c : Nat) (hn : dG n) (hb : Bytes b) (hlen : b.length ≤ 100000) (hl : Src O 1 (.slice a b.length c) b.length (b.map B8)) :
  Spec Tryz.prog true 38 #[I n, .slice a b.length c] O fun v O' => ∃ a' c' G, v = .slice a' (ar n b).length c' ∧ Grow 1 a' (ar n b).length c' ((ar n b).map B8) G ∧ O' = G ++ O :=
 (Spec.frame (Post := fun v N => ∃ a' c', v = .slice a' (ar n b).length c' ∧ Grow 1 a' (ar n b).length c' ((ar n b).map B8) N)
  ((ko (w8 O) n b a c hn hb hlen hl.yp).mono fun v O' ⟨a', c', G, h1, h2, h3⟩ => ⟨G, ⟨a', c', h1, h2⟩, h2.own, h3⟩)).mono fun v O' ⟨N, ⟨a', c', h1, h2⟩, h3⟩ => ⟨a', c', N, h1, h2, h3⟩
theorem vk (R : an) {R0 : an} (lg r rb rf : Nat) (M : Rd) (vs : List Value) (f : Nat) (n : Int) (down : Bool) (b : List Int) (ab : Option Addr) (cb : Nat) (h : fJ R0 M vs) (hi : ∀ g, Sat g R → Sat g R0) (hn : 0 ≤ n ∧ n < 1000000) (hB : Bytes b) (hl : b.length ≤ 1000) (hb : Src R 1 (.slice ab b.length cb) b.length (b.map B8)) :
  Spec Tryz.prog false 16 #[Ptr lg 0, .slice ab b.length cb] (iR lg r f n down :: aW r rb rf M vs R) fun v O' => ∃ vs' N, v = I (fB M f n down b).1 ∧
   O' = iR lg r f (if (fB M f n down b).1 = 0 then n + 1 else n) (decide ((fB M f n down b).1 = 23)) :: aW r rb rf (fB M f n down b).2 vs' (N ++ R) ∧ fJ (N ++ R0) (fB M f n down b).2 vs' := by
 have hfl := rZ (i := n) (x := b) (by unfold dG; omega) hl
 refine Spec.enter (args := [_, _]) (m := 51) Tryz.func16 rfl rfl (by decide +kernel) fun h0 => ?_
 refine WX.seq (WX.region rfl (za rfl (ae.nil (Fin.aa (WX.seq (WX.seq (WX.region rfl (zm rfl (ae.len Met.none rfl Tryz.underlying39 (zb rfl rfl rfl (ae.nil (Fin.aa ?_))))))))))))
 refine WX.cond rfl (fun hc0 => ?_) (fun hc0 => ?_)
 · try simp only [aB] at hc0
   exact (by exfalso; omega)
 · try simp only [aB] at hc0
   refine WX.skip (Fin.aa (WX.seq (WX.seq (WX.region rfl (zm rfl (zn rfl ?_))))))
   first | refine ae.fieldAddr Met.none rfl Tryz.underlying44 rfl dm rfl ?_ | refine ae.bQ Met.none rfl Tryz.underlying44 rfl dm ?_
   first | refine ae.ld Met.none rfl cV ?_ | refine ae.ba Met.none rfl cV ?_
   refine ae.nil (Fin.aa ?_)
   refine WX.cond rfl (fun hc1 => ?_) (fun hc1 => ?_)
   · try simp only [aB] at hc1
     refine WX.seq (WX.region rfl (za rfl (ae.nil (Fin.aa (WX.ret (Fin.az ?_))))))
     first
     | (exfalso; omega)
     | exact Fin.result (O' := iR lg r f n true :: aW r rb rf M vs ([] ++ R)) (.inr rfl) rfl rfl (by rw [show down = true from by assumption]; exact aC) (by unfold fB; rw [if_pos (by assumption)]; exact ⟨vs, [], rfl, rfl, h⟩)
     | exact Fin.result (O' := (lg, ⟨0, false, [Ptr r 0, I (f : Int), I (n + 1), .bool (decide ((bt (aE M (f : Int) (ar n b)).2).1 = 23))]⟩) :: aW r rb rf (bt (aE M (f : Int) (ar n b)).2).2 vs1 ((N1 ++ G26) ++ R)) (.inr rfl) rfl rfl aC (by
       rw [hl0, if_neg (by omega), if_pos hc3]
       exact ⟨vs1, N1 ++ G26, rfl, rfl, hM2.inc fun g hg => hg.sub (by intro Q; simp only [List.countP_append]; omega)⟩)
     | exact Fin.result (O' := (lg, ⟨0, false, [Ptr r 0, I (f : Int), I n, .bool (decide ((bt (aE M (f : Int) (ar n b)).2).1 = 23))]⟩) :: aW r rb rf (bt (aE M (f : Int) (ar n b)).2).2 vs1 ((N1 ++ G26) ++ R)) (.inr rfl) rfl rfl aC (by
       rw [hl0, if_neg (by omega), if_neg hc3]
       exact ⟨vs1, N1 ++ G26, rfl, rfl, hM2.inc fun g hg => hg.sub (by intro Q; simp only [List.countP_append]; omega)⟩)
     | exact Fin.result (O' := (lg, ⟨0, false, [Ptr r 0, I (f : Int), I n, .bool (decide ((aE M (f : Int) (ar n b)).1 = 23))]⟩) :: aW r rb rf (aE M (f : Int) (ar n b)).2 vs1 ((N1 ++ G26) ++ R)) (.inr rfl) rfl rfl aC (by
       rw [hl0, if_pos hc2, if_neg hc3]
       exact ⟨vs1, N1 ++ G26, rfl, rfl, hM1.inc fun g hg => hg.sub (by intro Q; simp only [List.countP_append]; omega)⟩)
   · try simp only [aB] at hc1
     refine WX.skip (Fin.aa (WX.seq ?_))
     refine WX.draw rfl ?_
     refine zm rfl (zn rfl ?_)
     first | refine ae.fieldAddr Met.none rfl Tryz.underlying44 rfl wM rfl ?_ | refine ae.bQ Met.none rfl Tryz.underlying44 rfl wM ?_
     first | refine ae.ld Met.none rfl sX ?_ | refine ae.ba Met.none rfl sX ?_
     refine zm rfl (zn rfl ?_)
     first | refine ae.fieldAddr Met.none rfl Tryz.underlying44 rfl cj rfl ?_ | refine ae.bQ Met.none rfl Tryz.underlying44 rfl cj ?_
     first | refine ae.ld Met.none rfl bY ?_ | refine ae.ba Met.none rfl bY ?_
     refine zm rfl (zn rfl ?_)
     first | refine ae.fieldAddr Met.none rfl Tryz.underlying44 rfl cj rfl ?_ | refine ae.bQ Met.none rfl Tryz.underlying44 rfl cj ?_
     first | refine ae.ld Met.none rfl bY ?_ | refine ae.ba Met.none rfl bY ?_
     refine zm rfl ?_
     refine ae.cl (O1 := _) Met.none rfl (ah Tryz.func38 (by decide +kernel)) rfl (fun _ h => h) (sF _ n b ab cb (by unfold dG; omega) hB (by omega) (Src.cons (Src.cons (Src.cons (Src.cons hb))))) (fun v O' hp => ?_)
     obtain ⟨a26, c26, G26, rfl, hG26, rfl⟩ := hp
     refine ae.cl (O1 := aW r rb rf M vs (G26 ++ (iR lg r f n down :: R))) Met.none rfl (ah Tryz.func37 (by decide +kernel)) rfl aC (sj (G26 ++ (iR lg r f n down :: R)) r rb rf M vs (f : Int) (ar n b) a26 c26 h (fun g hg => hi g hg.dY.tail) hG26.src (gS hB) (by omega)) (fun v O' hp => ?_)
     obtain ⟨vs1, N1, rfl, rfl, hM1⟩ := hp
     refine za rfl (ae.nil (Fin.aa (WX.seq (WX.seq ?_))))
     refine WX.re (O' := iR lg r f n down :: aW r rb rf (aE M (f : Int) (ar n b)).2 vs1 ((N1 ++ G26) ++ R)) ?_
     refine WX.region rfl (zm rfl (zb rfl rfl rfl (ae.nil (Fin.aa ?_))))
     refine WX.cond rfl (fun hc2 => ?_) (fun hc2 => ?_)
     · try simp only [aB] at hc2
       refine WX.region rfl (zm rfl (zn rfl ?_))
       first | refine ae.fieldAddr Met.none rfl Tryz.underlying44 rfl wM rfl ?_ | refine ae.bQ Met.none rfl Tryz.underlying44 rfl wM ?_
       first | refine ae.ld Met.none rfl sX ?_ | refine ae.ba Met.none rfl sX ?_
       refine ae.cl (O1 := aW r rb rf (aE M (f : Int) (ar n b)).2 vs1 (iR lg r f n down :: ((N1 ++ G26) ++ R))) Met.none rfl (ah Tryz.func28 (by decide +kernel)) rfl aC (j9 _ r rb rf (aE M (f : Int) (ar n b)).2 vs1 hM1) (fun v O' hp => ?_)
       obtain ⟨rfl, rfl, hM2⟩ := hp
       refine za rfl (ae.nil (Fin.aa (WX.seq ?_)))
       first | refine WX.re (O' := iR lg r f n down :: aW r rb rf (bt (aE M (f : Int) (ar n b)).2).2 vs1 ((N1 ++ G26) ++ R)) ?_ | skip
       have hd : down = false := by simpa using hc1
       have hl0 : fB M f n down b = if (aE M (f : Int) (ar n b)).1 ≠ 0 then aE M (f : Int) (ar n b) else bt (aE M (f : Int) (ar n b)).2 := by
        unfold fB
        rw [if_neg (by rw [hd]; decide)]
       refine WX.region rfl (zm rfl (zm rfl (zb rfl rfl rfl (zn rfl ?_))))
       first | refine ae.fieldAddr Met.none rfl Tryz.underlying44 rfl dm rfl ?_ | refine ae.bQ Met.none rfl Tryz.underlying44 rfl dm ?_
       refine ae.st (vs := [_]) (j := 0) Met.none rfl rfl rfl dm ?_ (hj := rfl) (hc := (show _ = [_, _, _, _] from rfl))
       refine ae.nil (Fin.aa (WX.seq (WX.seq (WX.region rfl (zm rfl (zb rfl rfl rfl (ae.nil (Fin.aa ?_))))))))
       refine WX.cond rfl (fun hc3 => ?_) (fun hc3 => ?_)
       · try simp only [aB] at hc3
         refine WX.region rfl (zm rfl (zm rfl (zn rfl ?_)))
         first | refine ae.fieldAddr Met.none rfl Tryz.underlying44 rfl cj rfl ?_ | refine ae.bQ Met.none rfl Tryz.underlying44 rfl cj ?_
         first | refine ae.ld Met.none rfl bY ?_ | refine ae.ba Met.none rfl bY ?_
         refine zb rfl rfl dH (zn rfl ?_)
         first | refine ae.fieldAddr Met.none rfl Tryz.underlying44 rfl cj rfl ?_ | refine ae.bQ Met.none rfl Tryz.underlying44 rfl cj ?_
         refine ae.st (vs := [_]) (j := 0) Met.none rfl rfl rfl cj ?_ (hj := rfl) (hc := (show _ = [_, _, _, _] from rfl))
         refine zR rfl (zm rfl (za rfl (ae.nil (Fin.aa (WX.ret ?_)))))
         first
         | (exfalso; omega)
         | exact Fin.result (O' := iR lg r f n true :: aW r rb rf M vs ([] ++ R)) (.inr rfl) rfl rfl (by rw [show down = true from by assumption]; exact aC) (by unfold fB; rw [if_pos (by assumption)]; exact ⟨vs, [], rfl, rfl, h⟩)
         | exact Fin.result (O' := (lg, ⟨0, false, [Ptr r 0, I (f : Int), I (n + 1), .bool (decide ((bt (aE M (f : Int) (ar n b)).2).1 = 23))]⟩) :: aW r rb rf (bt (aE M (f : Int) (ar n b)).2).2 vs1 ((N1 ++ G26) ++ R)) (.inr rfl) rfl rfl aC (by
           rw [hl0, if_neg (by omega), if_pos hc3]
           exact ⟨vs1, N1 ++ G26, rfl, rfl, hM2.inc fun g hg => hg.sub (by intro Q; simp only [List.countP_append]; omega)⟩)
         | exact Fin.result (O' := (lg, ⟨0, false, [Ptr r 0, I (f : Int), I n, .bool (decide ((bt (aE M (f : Int) (ar n b)).2).1 = 23))]⟩) :: aW r rb rf (bt (aE M (f : Int) (ar n b)).2).2 vs1 ((N1 ++ G26) ++ R)) (.inr rfl) rfl rfl aC (by
           rw [hl0, if_neg (by omega), if_neg hc3]
           exact ⟨vs1, N1 ++ G26, rfl, rfl, hM2.inc fun g hg => hg.sub (by intro Q; simp only [List.countP_append]; omega)⟩)
         | exact Fin.result (O' := (lg, ⟨0, false, [Ptr r 0, I (f : Int), I n, .bool (decide ((aE M (f : Int) (ar n b)).1 = 23))]⟩) :: aW r rb rf (aE M (f : Int) (ar n b)).2 vs1 ((N1 ++ G26) ++ R)) (.inr rfl) rfl rfl aC (by
           rw [hl0, if_pos hc2, if_neg hc3]
           exact ⟨vs1, N1 ++ G26, rfl, rfl, hM1.inc fun g hg => hg.sub (by intro Q; simp only [List.countP_append]; omega)⟩)
       · try simp only [aB] at hc3
         refine WX.skip (Fin.aa (WX.seq (WX.region rfl (zm rfl (za rfl (ae.nil (Fin.aa (WX.ret ?_))))))))
         first
         | (exfalso; omega)
         | exact Fin.result (O' := iR lg r f n true :: aW r rb rf M vs ([] ++ R)) (.inr rfl) rfl rfl (by rw [show down = true from by assumption]; exact aC) (by unfold fB; rw [if_pos (by assumption)]; exact ⟨vs, [], rfl, rfl, h⟩)
         | exact Fin.result (O' := (lg, ⟨0, false, [Ptr r 0, I (f : Int), I (n + 1), .bool (decide ((bt (aE M (f : Int) (ar n b)).2).1 = 23))]⟩) :: aW r rb rf (bt (aE M (f : Int) (ar n b)).2).2 vs1 ((N1 ++ G26) ++ R)) (.inr rfl) rfl rfl aC (by
           rw [hl0, if_neg (by omega), if_pos hc3]
           exact ⟨vs1, N1 ++ G26, rfl, rfl, hM2.inc fun g hg => hg.sub (by intro Q; simp only [List.countP_append]; omega)⟩)
         | exact Fin.result (O' := (lg, ⟨0, false, [Ptr r 0, I (f : Int), I n, .bool (decide ((bt (aE M (f : Int) (ar n b)).2).1 = 23))]⟩) :: aW r rb rf (bt (aE M (f : Int) (ar n b)).2).2 vs1 ((N1 ++ G26) ++ R)) (.inr rfl) rfl rfl aC (by
           rw [hl0, if_neg (by omega), if_neg hc3]
           exact ⟨vs1, N1 ++ G26, rfl, rfl, hM2.inc fun g hg => hg.sub (by intro Q; simp only [List.countP_append]; omega)⟩)
         | exact Fin.result (O' := (lg, ⟨0, false, [Ptr r 0, I (f : Int), I n, .bool (decide ((aE M (f : Int) (ar n b)).1 = 23))]⟩) :: aW r rb rf (aE M (f : Int) (ar n b)).2 vs1 ((N1 ++ G26) ++ R)) (.inr rfl) rfl rfl aC (by
           rw [hl0, if_pos hc2, if_neg hc3]
           exact ⟨vs1, N1 ++ G26, rfl, rfl, hM1.inc fun g hg => hg.sub (by intro Q; simp only [List.countP_append]; omega)⟩)
     · try simp only [aB] at hc2
       refine WX.skip (Fin.aa (WX.seq ?_))
       first | refine WX.re (O' := iR lg r f n down :: aW r rb rf (bt (aE M (f : Int) (ar n b)).2).2 vs1 ((N1 ++ G26) ++ R)) ?_ | skip
       have hd : down = false := by simpa using hc1
       have hl0 : fB M f n down b = if (aE M (f : Int) (ar n b)).1 ≠ 0 then aE M (f : Int) (ar n b) else bt (aE M (f : Int) (ar n b)).2 := by
        unfold fB
        rw [if_neg (by rw [hd]; decide)]
       refine WX.region rfl (zm rfl (zm rfl (zb rfl rfl rfl (zn rfl ?_))))
       first | refine ae.fieldAddr Met.none rfl Tryz.underlying44 rfl dm rfl ?_ | refine ae.bQ Met.none rfl Tryz.underlying44 rfl dm ?_
       refine ae.st (vs := [_]) (j := 0) Met.none rfl rfl rfl dm ?_ (hj := rfl) (hc := (show _ = [_, _, _, _] from rfl))
       refine ae.nil (Fin.aa (WX.seq (WX.seq (WX.region rfl (zm rfl (zb rfl rfl rfl (ae.nil (Fin.aa ?_))))))))
       refine WX.cond rfl (fun hc3 => ?_) (fun hc3 => ?_)
       · try simp only [aB] at hc3
         refine WX.region rfl (zm rfl (zm rfl (zn rfl ?_)))
         first | refine ae.fieldAddr Met.none rfl Tryz.underlying44 rfl cj rfl ?_ | refine ae.bQ Met.none rfl Tryz.underlying44 rfl cj ?_
         first | refine ae.ld Met.none rfl bY ?_ | refine ae.ba Met.none rfl bY ?_
         refine zb rfl rfl dH (zn rfl ?_)
         first | refine ae.fieldAddr Met.none rfl Tryz.underlying44 rfl cj rfl ?_ | refine ae.bQ Met.none rfl Tryz.underlying44 rfl cj ?_
         refine ae.st (vs := [_]) (j := 0) Met.none rfl rfl rfl cj ?_ (hj := rfl) (hc := (show _ = [_, _, _, _] from rfl))
         refine zR rfl (zm rfl (za rfl (ae.nil (Fin.aa (WX.ret ?_)))))
         first
         | (exfalso; omega)
         | exact Fin.result (O' := iR lg r f n true :: aW r rb rf M vs ([] ++ R)) (.inr rfl) rfl rfl (by rw [show down = true from by assumption]; exact aC) (by unfold fB; rw [if_pos (by assumption)]; exact ⟨vs, [], rfl, rfl, h⟩)
         | exact Fin.result (O' := (lg, ⟨0, false, [Ptr r 0, I (f : Int), I (n + 1), .bool (decide ((bt (aE M (f : Int) (ar n b)).2).1 = 23))]⟩) :: aW r rb rf (bt (aE M (f : Int) (ar n b)).2).2 vs1 ((N1 ++ G26) ++ R)) (.inr rfl) rfl rfl aC (by
           rw [hl0, if_neg (by omega), if_pos hc3]
           exact ⟨vs1, N1 ++ G26, rfl, rfl, hM2.inc fun g hg => hg.sub (by intro Q; simp only [List.countP_append]; omega)⟩)
         | exact Fin.result (O' := (lg, ⟨0, false, [Ptr r 0, I (f : Int), I n, .bool (decide ((bt (aE M (f : Int) (ar n b)).2).1 = 23))]⟩) :: aW r rb rf (bt (aE M (f : Int) (ar n b)).2).2 vs1 ((N1 ++ G26) ++ R)) (.inr rfl) rfl rfl aC (by
           rw [hl0, if_neg (by omega), if_neg hc3]
           exact ⟨vs1, N1 ++ G26, rfl, rfl, hM2.inc fun g hg => hg.sub (by intro Q; simp only [List.countP_append]; omega)⟩)
         | exact Fin.result (O' := (lg, ⟨0, false, [Ptr r 0, I (f : Int), I n, .bool (decide ((aE M (f : Int) (ar n b)).1 = 23))]⟩) :: aW r rb rf (aE M (f : Int) (ar n b)).2 vs1 ((N1 ++ G26) ++ R)) (.inr rfl) rfl rfl aC (by
           rw [hl0, if_pos hc2, if_neg hc3]
           exact ⟨vs1, N1 ++ G26, rfl, rfl, hM1.inc fun g hg => hg.sub (by intro Q; simp only [List.countP_append]; omega)⟩)
       · try simp only [aB] at hc3
         refine WX.skip (Fin.aa (WX.seq (WX.region rfl (zm rfl (za rfl (ae.nil (Fin.aa (WX.ret ?_))))))))
         first
         | (exfalso; omega)
         | exact Fin.result (O' := iR lg r f n true :: aW r rb rf M vs ([] ++ R)) (.inr rfl) rfl rfl (by rw [show down = true from by assumption]; exact aC) (by unfold fB; rw [if_pos (by assumption)]; exact ⟨vs, [], rfl, rfl, h⟩)
         | exact Fin.result (O' := (lg, ⟨0, false, [Ptr r 0, I (f : Int), I (n + 1), .bool (decide ((bt (aE M (f : Int) (ar n b)).2).1 = 23))]⟩) :: aW r rb rf (bt (aE M (f : Int) (ar n b)).2).2 vs1 ((N1 ++ G26) ++ R)) (.inr rfl) rfl rfl aC (by
           rw [hl0, if_neg (by omega), if_pos hc3]
           exact ⟨vs1, N1 ++ G26, rfl, rfl, hM2.inc fun g hg => hg.sub (by intro Q; simp only [List.countP_append]; omega)⟩)
         | exact Fin.result (O' := (lg, ⟨0, false, [Ptr r 0, I (f : Int), I n, .bool (decide ((bt (aE M (f : Int) (ar n b)).2).1 = 23))]⟩) :: aW r rb rf (bt (aE M (f : Int) (ar n b)).2).2 vs1 ((N1 ++ G26) ++ R)) (.inr rfl) rfl rfl aC (by
           rw [hl0, if_neg (by omega), if_neg hc3]
           exact ⟨vs1, N1 ++ G26, rfl, rfl, hM2.inc fun g hg => hg.sub (by intro Q; simp only [List.countP_append]; omega)⟩)
         | exact Fin.result (O' := (lg, ⟨0, false, [Ptr r 0, I (f : Int), I n, .bool (decide ((aE M (f : Int) (ar n b)).1 = 23))]⟩) :: aW r rb rf (aE M (f : Int) (ar n b)).2 vs1 ((N1 ++ G26) ++ R)) (.inr rfl) rfl rfl aC (by
           rw [hl0, if_pos hc2, if_neg hc3]
           exact ⟨vs1, N1 ++ G26, rfl, rfl, hM1.inc fun g hg => hg.sub (by intro Q; simp only [List.countP_append]; omega)⟩)
def ir (o : Option Nat) (d : Nat) (n : Int) (down : Bool) : an := match o with
 | none => []
 | some a => [iR a d 2 n down]
def yr (o : Option Nat) : Option Addr := o.map fun a => ⟨a, 0, none⟩
theorem fi.inc {R0 R : an} {vs : List Value} {xs : List (List Int)} (h : fi R0 vs xs) (hi : ∀ g, Sat g R → Sat g R0) : fi R vs xs := ⟨h.1, fun k hk => by
 obtain ⟨a, c, h1, h2⟩ := h.2 k hk
 exact ⟨a, c, h1, fun g hg => h2 g (hi g hg)⟩⟩
theorem lR (R : an) {R0 : an} (d bm : Nat) (D : Dk) (mx : bf) (hD : dX R0 D mx) (hi : ∀ Q : Nat × gl → Bool, R0.countP Q ≤ R.countP Q) (hl : (aI D.fs 2).bs.length ≤ 100000) :
  Spec Tryz.prog false 7 #[Ptr d 0, I 2] (bu d bm D mx R) fun v O' => ∃ (lo : Option Nat) (ao : Option Addr) (co : Nat) (xs : List (List Int)) (ws : List Value) (mx' : bf) (N : an),
   v = .tuple #[.pointer (yr lo), .slice ao xs.length co, I (cq D 2).1] ∧ Src N 1 (.slice ao xs.length co) xs.length ws ∧ fi N ws xs ∧ O' = ir lo d (aG (aI D.fs 2).bs).length false ++ bu d bm (cq D 2).2 mx' (N ++ R) ∧
   dX R0 (cq D 2).2 mx' ∧ lo.isSome = decide ((cq D 2).1 = 0) ∧ xs = if (cq D 2).1 = 0 then aG (aI D.fs 2).bs else [] :=
 (w7 R d bm D mx 2 hD (vJ hi) hl).mono fun v O' ⟨mx', h⟩ => by
  rcases h with ⟨h0, lg, ao, co, vs, Gg, Rg, h1, h2, h3, h4, h5⟩ | ⟨h0, N, h1, h2, h3⟩
  · refine ⟨some lg, ao, co, aG (aI D.fs 2).bs, vs, mx', Gg ++ Rg, by rw [h1, h0]; rfl, ?_, ?_, by rw [h4, List.append_assoc]; rfl, h5, by rw [h0]; rfl, by rw [if_pos h0]⟩
    · exact fun g hg => h2.src (R := Rg) g hg
    · exact h3.inc fun g hg => hg.sub (by intro Q; simp only [List.countP_append]; omega)
  · refine ⟨none, none, 0, [], [], mx', N, h1, Src.nil, ⟨rfl, fun k hk => by simp at hk⟩, h2, h3, by simp [h0], by rw [if_neg h0]⟩
theorem kz (R : an) {R0 : an} (r rb rf : Nat) (M : Rd) (vs : List Value) (h : fJ R0 M vs) (hi : ∀ Q : Nat × gl → Bool, R0.countP Q ≤ R.countP Q) (hl : (nth M.B 2).length ≤ 100000) :
  Spec Tryz.prog false 8 #[Ptr r 0, I 2] (aW r rb rf M vs R) fun v O' => ∃ (lo : Option Nat) (ao : Option Addr) (co : Nat) (xs : List (List Int)) (ws : List Value) (vs' : List Value) (N : an),
   v = .tuple #[.pointer (yr lo), .slice ao xs.length co, I (cf M 2).1] ∧ Src (N ++ R0) 1 (.slice ao xs.length co) xs.length ws ∧ fi (N ++ R0) ws xs ∧ O' = ir lo r (aG (nth M.B 2)).length false ++ aW r rb rf (cf M 2).2 vs' (N ++ R) ∧
   fJ R0 (cf M 2).2 vs' ∧ lo.isSome = decide ((cf M 2).1 = 0) ∧ xs = if (cf M 2).1 = 0 then aG (nth M.B 2) else [] :=
 (uL R r rb rf M vs 2 h (vJ hi) (by decide) hl).mono fun v O' ⟨vs', h⟩ => by
  rcases h with ⟨h0, lg, ao, co, ws, Gg, h1, h2, h3, h4, h5⟩ | ⟨h0, N, h1, h2, h3⟩
  · refine ⟨some lg, ao, co, aG (nth M.B 2), ws, vs', Gg, by rw [h1, h0]; rfl, h2.src, h3.inc fun g hg => hg.dY, by rw [h4]; rfl, h5, by rw [h0]; rfl, by rw [if_pos h0]⟩
  · refine ⟨none, none, 0, [], [], vs', N, h1, Src.nil, ⟨rfl, fun k hk => by simp at hk⟩, h2, h3, by simp [h0], by rw [if_neg h0]⟩
theorem np {a b : Option Nat} (h : a.isSome = b.isSome) : ∃ lo : Option (Nat × Nat), a = lo.map (·.1) ∧ b = lo.map (·.2) := by
 cases a <;> cases b
 · exact ⟨none, rfl, rfl⟩
 · cases h
 · cases h
 · rename_i x y; exact ⟨some (x, y), rfl, rfl⟩
theorem gq (b : List Int) : (aG b).length ≤ b.length := kJ b
end Go.Proofs.YthekokdpplobhaaGreat.Eng

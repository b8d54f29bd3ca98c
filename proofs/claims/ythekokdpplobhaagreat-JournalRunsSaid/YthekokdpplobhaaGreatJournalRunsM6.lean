/- The law JournalRuns, walked. Own work; no condition. -/
import Derived.Test.YthekokdpplobhaaGreatJournalRunsM1
import Derived.Test.YthekokdpplobhaaGreatJournalRunsM2
import Derived.Test.YthekokdpplobhaaGreatJournalRunsM3
import Derived.Test.YthekokdpplobhaaGreatJournalRunsM4
import Derived.Test.YthekokdpplobhaaGreatJournalRunsM5
set_option linter.unusedVariables false
set_option linter.unusedSimpArgs false
set_option maxRecDepth 8000
namespace Go.Proofs.YthekokdpplobhaaGreat.Eng
theorem mT (D : Dk) (n : Int) (b : List Int) : (bL D n b).2.room = D.room := by
 unfold bL
 split
 · rfl
 · split
   · rfl
   · split
     · rfl
     · rw [(eV _).2]; rfl
theorem pg (D : Dk) : (bT D).2.room = D.room := by
 unfold bT
 split
 · rfl
 · split <;> exact (eV D).2
theorem sI (D : Dk) (n s : Int) : (cA D n s).2.room = D.room := by
 unfold cA
 split
 · rfl
 · split
   · rfl
   · split <;> exact (eV D).2
theorem kE (D : Dk) (n : Int) : (cq D n).2.room = D.room := by
 have h : (cC D n).2.room = D.room := by
  unfold cC
  split
  · exact sI _ _ _
  · rfl
 unfold cq
 split
 · rfl
 · split
   · exact h
   · rw [pg, h]
theorem tD (D : Dk) (f n : Int) (dn : Bool) (b : List Int) : (cQ D f n dn b).2.room = D.room := by
 unfold cQ
 split
 · rfl
 · split
   · exact mT _ _ _
   · rw [pg, mT]
theorem yy (R : an) (lg d : Nat) (file n : Int) (down : Bool) : Spec Tryz.prog true 17 #[Ptr lg 0] (iR lg d file n down :: R) fun v O' => v = I n ∧ O' = iR lg d file n down :: R := by
 refine Spec.enter (args := [_]) (m := 7) Tryz.func17 rfl rfl (by decide +kernel) fun h0 => ?_
 refine WX.seq (WX.region rfl (za rfl (zR rfl (zm rfl (zn rfl ?_)))))
 first | refine ae.fieldAddr Met.none rfl Tryz.underlying59 rfl cj rfl ?_ | refine ae.bQ Met.none rfl Tryz.underlying59 rfl cj ?_
 first | refine ae.ld Met.none rfl bY ?_ | refine ae.ba Met.none rfl bY ?_
 refine za rfl (ae.nil (Fin.aa (WX.ret ?_)))
 exact Fin.result (.inr rfl) rfl rfl au ⟨rfl, rfl⟩
theorem yZ (R : an) (lg d : Nat) (file n : Int) (down : Bool) : Spec Tryz.prog true 18 #[Ptr lg 0] (iR lg d file n down :: R) fun v O' => v = .bool (!down) ∧ O' = iR lg d file n down :: R := by
 refine Spec.enter (args := [_]) (m := 8) Tryz.func18 rfl rfl (by decide +kernel) fun h0 => ?_
 refine WX.seq (WX.region rfl (za rfl (zR rfl (zm rfl (zn rfl ?_)))))
 first | refine ae.fieldAddr Met.none rfl Tryz.underlying59 rfl dm rfl ?_ | refine ae.bQ Met.none rfl Tryz.underlying59 rfl dm ?_
 first | refine ae.ld Met.none rfl cV ?_ | refine ae.ba Met.none rfl cV ?_
 refine ae.not Met.none rfl (za rfl (ae.nil (Fin.aa (WX.ret ?_))))
 exact Fin.result (.inr rfl) rfl rfl au ⟨rfl, rfl⟩
theorem wB {x b : Int} (h : dG x) (hb : 0 < b) : dG (x.tdiv b) := by
 unfold dG at h ⊢
 rcases Int.le_total 0 x with h0 | h0
 · have h1 : 0 ≤ x.tdiv b := Int.tdiv_nonneg h0 (by omega)
   have h2 : x.tdiv b ≤ x := by rw [Int.tdiv_eq_ediv_of_nonneg h0]; exact Int.ediv_le_self _ h0
   omega
 · have e : x.tdiv b = -((-x).tdiv b) := by rw [Int.neg_tdiv]; omega
   have h1 : 0 ≤ (-x).tdiv b := Int.tdiv_nonneg (by omega) (by omega)
   have h2 : (-x).tdiv b ≤ -x := by rw [Int.tdiv_eq_ediv_of_nonneg (by omega)]; exact Int.ediv_le_self _ (by omega)
   omega
structure ke where
 i : Nat
 D : Dk
 mx : bf
 M : Rd
 vs : List Value
 N : an
 e : Int
 lo : Option (Nat × Nat)
 n : Int
 dn : Bool
structure uK (k : Int) (m : Nat) (q : ke) : Prop where
 dk : dX q.N q.D q.mx
 rd : fJ q.N q.M q.vs
 nT : mz q.D q.M
 room : q.D.room = k
 n : 0 ≤ q.n ∧ q.n ≤ 300 + m
theorem uK.len {k : Int} {m : Nat} {q : ke} (h : uK k m q) (hk : k ≤ 239) : (aI q.D.fs 2).bs.length ≤ 239 ∧ (nth q.M.B 2).length ≤ 239 ∧ nth q.M.B 2 = (aI q.D.fs 2).bs := by
 have h1 := mn q.D.fs 2
 have h2 := h.dk.used
 have h3 := h.room
 have h4 := congrArg Fi.bs (h.nT.file 2 (by decide))
 simp only at h4
 have h5 : (aI q.D.fs ((2 : Nat) : Int)).bs = (aI q.D.fs 2).bs := rfl
 rw [h5] at h4
 rw [← h4]
 exact ⟨by omega, by omega, rfl⟩
abbrev xX (d r : Nat) (a : Option Addr) (m c : Nat) (q : ke) : da := [(1, .slice a m c), (6, Ptr d 0), (7, Ptr r 0), (8, .pointer (yr (q.lo.map (·.1)))), (10, I q.e), (11, .pointer (yr (q.lo.map (·.2)))), (13, I q.e), (14, I (q.i : Int))]
abbrev jP (d bm r rb rf : Nat) (O : an) (q : ke) : an := ir (q.lo.map (·.1)) d q.n q.dn ++ (ir (q.lo.map (·.2)) r q.n q.dn ++ bu d bm q.D q.mx (aW r rb rf q.M q.vs (q.N ++ O)))
theorem vN (O : an) (room : Int) (ops : List Int) (a : Option Addr) (c : Nat) (hr64 : dG room) (hll : hJ ops) (h64 : ∀ x ∈ ops, dG x) (hl : Src O 1 (.slice a ops.length c) ops.length (ops.map I)) :
  Spec Tryz.prog false 3 #[I room, .slice a ops.length c] O fun v _ => v = .bool true := by
 have hrr := js (n := room) (m := 200) (by decide)
 obtain ⟨k, hk⟩ : ∃ k, k = 40 + il room 200 := ⟨_, rfl⟩
 have hk2 : 40 ≤ k ∧ k ≤ 239 := by omega
 have hll2 : ops.length ≤ 4611686018427387904 := hll
 refine Spec.enter (args := [_, _]) (m := 203) Tryz.func3 rfl rfl (by decide +kernel) fun h0 => ?_
 refine WX.seq (WX.region rfl (za rfl (zR rfl (zm rfl ?_))))
 refine ae.cl (O1 := _) Met.none rfl (ah Tryz.func4 (by decide +kernel)) rfl (fun _ h => h) (kM _ room 200 hr64 (by decide)) (fun v O' hp => ?_)
 obtain ⟨rfl, hO⟩ := hp
 subst O'
 refine zb rfl rfl dH (za rfl (zR rfl (zm rfl ?_)))
 refine ae.cl (O1 := _) Met.none rfl (ah Tryz.func5 (by decide +kernel)) rfl (fun _ h => h) (uY _ (40 + il room 200) (by omega)) (fun v O' hp => ?_)
 obtain ⟨d, bm, rfl, rfl⟩ := hp
 refine za rfl (ae.nil (Fin.aa (WX.seq (WX.seq (WX.region rfl (zm rfl ?_))))))
 refine ae.ly Met.none rfl rfl Tryz.underlying24 ?_
 refine ae.nil (Fin.aa ?_)
 refine WX.cond rfl (fun hc0 => ?_) (fun hc0 => ?_)
 · try simp only [aB] at hc0
   exact (by simp at hc0)
 · try simp only [aB] at hc0
   refine WX.skip (Fin.aa (WX.seq (WX.region rfl (zm rfl ?_))))
   refine ae.cl (O1 := _) Met.none rfl (ah Tryz.func6 (by decide +kernel)) rfl (fun _ h => h) (wv _ (40 + il room 200)) (fun v O' hp => ?_)
   obtain ⟨r, rb, rf, rfl, rfl⟩ := hp
   refine za rfl (ae.nil (Fin.aa (WX.seq ?_)))
   rw [← hk]
   have hD0 : dX [] ⟨k, false, false, 0, []⟩ .new := dX.new ⟨by omega, by omega⟩
   have hM0 : fJ [] (iO k) wR := fJ.new ⟨by omega, by omega⟩
   have hS0 : mz ⟨k, false, false, 0, []⟩ (iO k) := xf
   have hf0 : nth (iO k).B 2 = [] := (congrArg Fi.bs (hS0.file 2 (by decide))).symm
   refine WX.region rfl (zm rfl ?_)
   refine ae.cl (O1 := bu d bm ⟨k, false, false, 0, []⟩ .new (aW r rb rf (iO k) wR O)) Met.none rfl (ah Tryz.func7 (by decide +kernel)) rfl aC (lR _ d bm ⟨k, false, false, 0, []⟩ .new hD0 (fun Q => by simp) (show ([] : List Int).length ≤ 100000 from Nat.zero_le _)) (fun v O' hp => ?_)
   obtain ⟨lo1, ao1, co1, xs1, ws1, mx1, N1, rfl, hs1, ha1, rfl, hD1, hlo1, hxs1⟩ := hp
   refine zm rfl (ze rfl rfl (ze rfl rfl (ze rfl rfl (za rfl (za rfl (za rfl (zR rfl (zm rfl ?_))))))))
   refine ae.cl (O1 := aW r rb rf (iO k) wR (ir lo1 d (aG (aI ([] : List (Int × Fi)) 2).bs).length false ++ bu d bm (cq ⟨k, false, false, 0, []⟩ 2).2 mx1 (N1 ++ O))) Met.none rfl (ah Tryz.func8 (by decide +kernel)) rfl aC (kz _ r rb rf (iO k) wR hM0 (fun Q => by simp) (by rw [hf0]; exact Nat.zero_le _)) (fun v O' hp => ?_)
   obtain ⟨lo2, ao2, co2, xs2, ws2, vs2, N2, rfl, hs2, ha2, rfl, hM1, hlo2, hxs2⟩ := hp
   refine zm rfl (ze rfl rfl (ze rfl rfl (ze rfl rfl (za rfl (za rfl (za rfl (ae.nil (Fin.aa (WX.seq (WX.seq ?_))))))))))
   obtain ⟨s1, s2⟩ := lS hS0 hD0 (f := 2) (by decide)
   rw [s1] at hlo2
   rw [s1]
   obtain ⟨lo, rfl, rfl⟩ := np (hlo1.trans hlo2.symm)
   rw [hf0, show (aI (⟨k, false, false, 0, []⟩ : Dk).fs 2).bs = [] from rfl]
   refine WX.region rfl (za rfl (ae.nil (Fin.aa (WX.block ?_))))
   obtain ⟨st0, hst0⟩ : ∃ st : ke, st = ⟨0, (cq ⟨k, false, false, 0, []⟩ 2).2, mx1, (cf (iO k) 2).2, vs2, N1 ++ N2, (cq ⟨k, false, false, 0, []⟩ 2).1, lo, (aG []).length, false⟩ := ⟨_, rfl⟩
   have hT0 : uK k st0.i st0 := by
    subst hst0
    exact ⟨hD1.inc (fun g hg => hg.sub (by intro Q; simp)), hM1.inc (fun g hg => hg.sub (by intro Q; simp)), s2, by rw [kE], by have := gq []; simp only [List.length_nil] at this; simp only; omega⟩
   refine WX.loop (fun q : ke => xX d r a ops.length c q) (fun q => jP d bm r rb rf O q) (fun q => q.i ≤ ops.length ∧ q.i ≤ 14 ∧ uK k q.i q) (fun q => 14 - q.i) st0 ⟨by rw [hst0]; exact Nat.zero_le _, by rw [hst0]; exact Nat.zero_le _, hT0⟩ (fun s hs => ⟨hs.m, hs.t.told (by subst hst0; exact ⟨bo, bo, bo, bo, bo, bo, bo, bo, trivial⟩), by subst hst0; exact hs.sat.sub (by intro Q; simp only [jP, List.countP_append, List.countP_cons]; omega), hs.old⟩) (fun q hq => ?_)
   obtain ⟨i, D, mx, M, vs, N, e, lo, n, dn⟩ := q
   obtain ⟨hi, hi14, hT⟩ := hq
   obtain ⟨hD, hM, hS, hroom, hn⟩ := hT
   obtain ⟨hl1, hl2, hl3⟩ := uK.len (m := i) (q := ⟨i, D, mx, M, vs, N, e, lo, n, dn⟩) ⟨hD, hM, hS, hroom, hn⟩ hk2.2
   simp only at hi hi14 hD hM hS hroom hn hl1 hl2 hl3
   dsimp only [xX, jP]
   refine WX.seq (WX.seq (WX.region rfl (zm rfl (zm rfl (ae.len Met.none rfl Tryz.underlying22 (zb rfl rfl rfl (zm rfl ?_)))))))
   refine ae.split (d := 47) rfl (fun hg47 => ?_) (fun hg47 => ?_)
   · try simp only [aB] at hg47
     refine ae.move (Met.some rfl rfl rfl) rfl (ae.bin (Met.some rfl rfl rfl) rfl rfl rfl (ae.bC Met.none rfl rfl (ae.nil (Fin.aa ?_))))
     refine WX.cond rfl (fun hc1 => ?_) (fun hc1 => ?_)
     · try simp only [aB] at hc1
       refine WX.skip (Fin.aa (WX.seq (WX.block (WX.seq ?_))))
       have hio : i < ops.length := by omega
       have hx64 := h64 _ (dK hio)
       have hx8 := wB hx64 (b := 8) (by decide)
       have hxb := hx64
       unfold dG at hxb
       refine WX.region rfl (zm rfl (zm rfl ?_))
       first | refine ae.ix Met.none rfl rfl bh cj ?_ | refine ae.eH Met.none rfl rfl bh cj ?_
       first | refine ae.ld Met.none rfl bY ?_ | refine ae.ba Met.none rfl bY ?_
       refine ae.qu Met.none rfl rfl ?_
       refine ae.cl (O1 := _) Met.none rfl (ah Tryz.func4 (by decide +kernel)) rfl (fun _ h => h) (kM _ ((nth ops i).tdiv 8) 1048576 hx8 (by decide)) (fun v O' hp => ?_)
       obtain ⟨rfl, hO⟩ := hp
       subst O'
       refine za rfl (ae.nil (Fin.aa (WX.seq (WX.seq ?_))))
       have hxr := js (n := (nth ops i).tdiv 8) (m := 1048576) (by decide)
       obtain ⟨x, hx⟩ : ∃ x, x = il ((nth ops i).tdiv 8) 1048576 := ⟨_, rfl⟩
       rw [← hx] at hxr ⊢
       refine WX.region rfl (zm rfl (zm rfl (zb rfl rfl rfl (zm rfl ?_))))
       refine ae.split (d := 62) rfl (fun hg62 => ?_) (fun hg62 => ?_)
       · try simp only [aB] at hg62
         exact (by simp at hg62)
       · try simp only [aB] at hg62
         refine ae.move (Met.some rfl rfl rfl) rfl ?_
         refine ae.ly (Met.some rfl rfl rfl) rfl rfl Tryz.underlying28 ?_
         refine ae.move (Met.some rfl rfl rfl) rfl ?_
         refine ae.ly (Met.some rfl rfl rfl) rfl rfl Tryz.underlying33 ?_
         refine ae.vu (Met.some rfl rfl rfl) rfl rfl Tryz.underlying4 ?_
         refine ae.bd Met.none rfl rfl (ae.nil (Fin.aa ?_))
         refine WX.cond rfl (fun hc2 => ?_) (fun hc2 => ?_)
         · try simp only [aB] at hc2
           exact (by cases lo <;> simp [yr] at hc2)
         · try simp only [aB] at hc2
           refine WX.skip (Fin.aa (WX.seq (WX.seq (WX.region rfl (zm rfl (zm rfl ?_))))))
           first | refine ae.ix Met.none rfl rfl bh cj ?_ | refine ae.eH Met.none rfl rfl bh cj ?_
           first | refine ae.ld Met.none rfl bY ?_ | refine ae.ba Met.none rfl bY ?_
           refine ae.cl (O1 := _) Met.none rfl (ah Tryz.func4 (by decide +kernel)) rfl (fun _ h => h) (kM _ (nth ops i) 8 hx64 (by decide)) (fun v O' hp => ?_)
           obtain ⟨rfl, hO⟩ := hp
           subst O'
           refine ae.nil (Fin.aa (WX.block (WX.seq (WX.region rfl (zb rfl rfl rfl (za rfl (ae.nil (Fin.aa ?_))))))))
           refine WX.cond rfl (fun hc3 => ?_) (fun hc3 => ?_)
           · try simp only [aB] at hc3
             refine WX.seq (WX.region rfl (zm rfl (zm rfl ?_)))
             refine ae.rem Met.none rfl rfl (by omega) ?_
             refine ae.cl (O1 := bu d bm D mx (ir (lo.map (·.1)) d n dn ++ (ir (lo.map (·.2)) r n dn ++ aW r rb rf M vs (N ++ O)))) Met.none rfl (ah Tryz.func9 (by decide +kernel)) rfl aC (yd _ d bm D mx (x.tmod 5)) (fun v O' hp => ?_)
             obtain rfl := hp
             refine ae.nil (Fin.aa (WX.region rfl (zm rfl (zm rfl ?_))))
             refine ae.rem Met.none rfl rfl (by omega) ?_
             refine ae.cl (O1 := aW r rb rf M vs (bu d bm (ng D (x.tmod 5)) mx (ir (lo.map (·.1)) d n dn ++ (ir (lo.map (·.2)) r n dn ++ (N ++ O))))) Met.none rfl (ah Tryz.func10 (by decide +kernel)) rfl aC (wT _ r rb rf M vs (x.tmod 5)) (fun v O' hp => ?_)
             obtain rfl := hp
             have h5 : x.tmod 5 < 5 := Int.tmod_lt_of_pos _ (by decide)
             obtain ⟨st4, hst4⟩ : ∃ st : ke, st = ⟨i, ng D (x.tmod 5), mx, oP M (x.tmod 5), vs, N, e, lo, n, dn⟩ := ⟨_, rfl⟩
             have hT4 : uK k (i + 1) st4 := by
              subst hst4
              exact ⟨hD.arm (by omega), hM.arm (by omega), wy hS _, by simp only; unfold ng; split <;> exact hroom, by simp only; omega⟩
             have hi4 : st4.i = i := by rw [hst4]
             refine ae.nil (Fin.ag (Fin.aa (WX.seq ?_)))
             refine WX.of (L' := xX d r a ops.length c st4) (O' := jP d bm r rb rf O st4) (fun s hs => ⟨hs.m, hs.t.told (by subst hst4; exact ⟨bo, bo, bo, bo, bo, bo, bo, bo, trivial⟩), by subst hst4; exact hs.sat.sub (by intro Q; simp only [ir, Option.map_some, jP, List.countP_append, List.countP_cons, List.countP_nil]; omega), hs.old⟩) ?_
             obtain ⟨y1, y2, y3⟩ := hT4.len hk2.2
             have hrd : ∃ y e9, cK st4.D 2 = (y, e9) ∧ ((e9 = 0 ∧ st4.D.off = false ∧ y = nth st4.M.B 2) ∨ (e9 = 23 ∧ st4.D.off = true ∧ y = [])) := by
              unfold cK
              rw [if_neg (by decide), y3]
              cases ho : st4.D.off with
              | true => exact ⟨[], 23, rfl, .inr ⟨rfl, rfl, rfl⟩⟩
              | false => exact ⟨_, 0, rfl, .inl ⟨rfl, rfl, rfl⟩⟩
             obtain ⟨y, e9, hrd, hye⟩ := hrd
             obtain ⟨fx, cx, hvx, hrx, hnx, hBx⟩ := hT4.rd.file 2 (by decide)
             have hvv : st4.vs[2]? = some (.slice fx (nth st4.M.B 2).length cx) := by rw [← hvx]; exact dq (by rw [hT4.rd.ik]; decide)
             refine WX.region rfl (zm rfl ?_)
             refine ae.cl (O1 := bu d bm st4.D st4.mx (aW r rb rf st4.M st4.vs (ir (st4.lo.map (·.1)) d st4.n st4.dn ++ (ir (st4.lo.map (·.2)) r st4.n st4.dn ++ (st4.N ++ O))))) Met.none rfl (ah Tryz.func19 (by decide +kernel)) rfl aC (fE _ d bm st4.D st4.mx 2 hT4.dk (fun g hg => hg.sub (by intro Q; simp only [List.countP_append, List.countP_cons]; omega))) (fun v O' hp => ?_)
             obtain ⟨a9, c9, G9, rfl, hG9, rfl⟩ := hp
             rw [hrd] at hG9 ⊢
             dsimp only at hG9 ⊢
             refine zm rfl (ze rfl rfl (ze rfl rfl (za rfl (za rfl (ae.nil (Fin.aa (WX.seq ?_)))))))
             refine WX.re (O' := aW r rb rf st4.M st4.vs (G9 ++ (bu d bm st4.D st4.mx (ir (st4.lo.map (·.1)) d st4.n st4.dn ++ (ir (st4.lo.map (·.2)) r st4.n st4.dn ++ (st4.N ++ O)))))) ?_
             refine WX.region rfl (zm rfl (zb rfl rfl rfl (zm rfl ?_)))
             refine ae.split (d := 177) rfl (fun hg177 => ?_) (fun hg177 => ?_)
             · try simp only [aB] at hg177
               refine ae.move (Met.some rfl rfl rfl) rfl (ae.move (Met.some rfl rfl rfl) rfl (ae.nilCheck (Met.some rfl rfl rfl) rfl ?_))
               first | refine ae.fieldAddr (Met.some rfl rfl rfl) rfl Tryz.underlying50 rfl cH rfl ?_ | refine ae.bQ (Met.some rfl rfl rfl) rfl Tryz.underlying50 rfl cH ?_
               first | refine ae.ld (Met.some rfl rfl rfl) rfl bJ ?_ | refine ae.ba (Met.some rfl rfl rfl) rfl bJ ?_
               first | refine ae.ix (Met.some rfl rfl rfl) rfl rfl aR aO ?_ | refine ae.eH (Met.some rfl rfl rfl) rfl rfl aR aO ?_
               first | refine ae.ld (Met.some rfl rfl rfl) rfl aD ?_ (hv := hvv) | refine ae.ba (Met.some rfl rfl rfl) rfl aD ?_ (hv := hvv)
               refine ae.cl (O1 := _) (Met.some rfl rfl rfl) rfl (ah Tryz.func20 (by decide +kernel)) rfl (fun _ h => h) (gD _ y (nth st4.M.B 2) a9 fx c9 cx (by unfold hJ; rcases hye with ⟨_, _, q⟩ | ⟨_, _, q⟩ <;> (rw [q]; (try simp only [List.length_nil]); omega)) iY (fun g hg => (hrx.src hnx) g (hg.sub (by intro Q; simp only [List.countP_append, List.countP_cons]; omega)))) (fun v O' hp => ?_)
               obtain ⟨rfl, hO⟩ := hp
               subst O'
               refine ae.not (Met.some rfl rfl rfl) rfl (ae.bC Met.none rfl rfl (zm rfl ?_))
               refine ae.split (d := 188) rfl (fun hg188 => ?_) (fun hg188 => ?_)
               · try simp only [aB] at hg188
                 exact (by rcases hye with ⟨_, _, q⟩ | ⟨q, _, _⟩ <;> first | omega | (rw [q] at hg188; simp at hg188; done))
               · try simp only [aB] at hg188
                 refine ae.move (Met.some rfl rfl rfl) rfl (ae.bin (Met.some rfl rfl rfl) rfl rfl rfl (ae.move (Met.some rfl rfl rfl) rfl (ae.nilCheck (Met.some rfl rfl rfl) rfl ?_)))
                 first | refine ae.fieldAddr (Met.some rfl rfl rfl) rfl Tryz.underlying50 rfl dm rfl ?_ | refine ae.bQ (Met.some rfl rfl rfl) rfl Tryz.underlying50 rfl dm ?_
                 first | refine ae.ld (Met.some rfl rfl rfl) rfl cV ?_ | refine ae.ba (Met.some rfl rfl rfl) rfl cV ?_
                 refine ae.vu (Met.some rfl rfl rfl) rfl rfl Tryz.underlying4 ?_
                 refine ae.bd Met.none rfl rfl (ae.nil (Fin.aa ?_))
                 refine WX.cond rfl (fun hc10 => ?_) (fun hc10 => ?_)
                 · try simp only [aB] at hc10
                   exact (by rw [hT4.nT.off] at hc10; rcases hye with ⟨q1, q2, _⟩ | ⟨q1, q2, _⟩ <;> (rw [q1, q2] at hc10; simp at hc10))
                 · try simp only [aB] at hc10
                   refine WX.skip (Fin.ag (Fin.aa (WX.region rfl (zm rfl (zb rfl rfl dH (za rfl (ae.nil ?_)))))))
                   first
                   | exact Fin.aj (⟨st4.i + 1, st4.D, st4.mx, st4.M, st4.vs, st4.N, st4.e, st4.lo, st4.n, st4.dn⟩ : ke) ⟨by simp only; omega, by simp only; omega, ⟨hT4.dk, hT4.rd, hT4.nT, hT4.room, by have := hT4.n; simp only; omega⟩⟩ (by simp only; omega) (fun s hs => ⟨hs.m, hs.t.told ⟨bo, bo, bo, bo, bo, bo, bo, bo, trivial⟩, hs.sat.sub (by intro Q; simp only [jP, List.countP_append, List.countP_cons]; omega), hs.old⟩)
                   | exact Fin.aj (⟨i + 1, D, mx, M, vs, N, e, lo, n, dn⟩ : ke) ⟨by simp only; omega, by simp only; omega, ⟨hD, hM, hS, hroom, by simp only; omega⟩⟩ (by simp only; omega) (fun s hs => ⟨hs.m, hs.t.told ⟨bo, bo, bo, bo, bo, bo, bo, bo, trivial⟩, hs.sat.sub (by intro Q; simp only [jP, List.countP_append, List.countP_cons]; omega), hs.old⟩)
             · try simp only [aB] at hg177
               refine zs 2 177 rfl rfl rfl (zs 2 177 rfl rfl rfl (zs 2 177 rfl rfl rfl (zs 2 177 rfl rfl rfl (zs 2 177 rfl rfl rfl (zs 2 177 rfl rfl rfl (zs 2 177 rfl rfl rfl (zs 2 177 rfl rfl rfl (zs 2 177 rfl rfl rfl (ae.bd Met.none rfl rfl (zm rfl (ae.move (Met.some rfl rfl rfl) rfl (ae.bin (Met.some rfl rfl rfl) rfl rfl rfl (ae.move (Met.some rfl rfl rfl) rfl (ae.nilCheck (Met.some rfl rfl rfl) rfl ?_))))))))))))))
               first | refine ae.fieldAddr (Met.some rfl rfl rfl) rfl Tryz.underlying50 rfl dm rfl ?_ | refine ae.bQ (Met.some rfl rfl rfl) rfl Tryz.underlying50 rfl dm ?_
               first | refine ae.ld (Met.some rfl rfl rfl) rfl cV ?_ | refine ae.ba (Met.some rfl rfl rfl) rfl cV ?_
               refine ae.vu (Met.some rfl rfl rfl) rfl rfl Tryz.underlying4 ?_
               refine ae.bd Met.none rfl rfl (ae.nil (Fin.aa ?_))
               refine WX.cond rfl (fun hc10 => ?_) (fun hc10 => ?_)
               · try simp only [aB] at hc10
                 exact (by rw [hT4.nT.off] at hc10; rcases hye with ⟨q1, q2, _⟩ | ⟨q1, q2, _⟩ <;> (rw [q1, q2] at hc10; simp at hc10))
               · try simp only [aB] at hc10
                 refine WX.skip (Fin.ag (Fin.aa (WX.region rfl (zm rfl (zb rfl rfl dH (za rfl (ae.nil ?_)))))))
                 first
                 | exact Fin.aj (⟨st4.i + 1, st4.D, st4.mx, st4.M, st4.vs, st4.N, st4.e, st4.lo, st4.n, st4.dn⟩ : ke) ⟨by simp only; omega, by simp only; omega, ⟨hT4.dk, hT4.rd, hT4.nT, hT4.room, by have := hT4.n; simp only; omega⟩⟩ (by simp only; omega) (fun s hs => ⟨hs.m, hs.t.told ⟨bo, bo, bo, bo, bo, bo, bo, bo, trivial⟩, hs.sat.sub (by intro Q; simp only [jP, List.countP_append, List.countP_cons]; omega), hs.old⟩)
                 | exact Fin.aj (⟨i + 1, D, mx, M, vs, N, e, lo, n, dn⟩ : ke) ⟨by simp only; omega, by simp only; omega, ⟨hD, hM, hS, hroom, by simp only; omega⟩⟩ (by simp only; omega) (fun s hs => ⟨hs.m, hs.t.told ⟨bo, bo, bo, bo, bo, bo, bo, bo, trivial⟩, hs.sat.sub (by intro Q; simp only [jP, List.countP_append, List.countP_cons]; omega), hs.old⟩)
           · try simp only [aB] at hc3
             refine WX.seq (WX.seq (WX.region rfl (zb rfl rfl rfl (za rfl (ae.nil (Fin.aa ?_))))))
             refine WX.cond rfl (fun hc4 => ?_) (fun hc4 => ?_)
             · try simp only [aB] at hc4
               rw [decide_eq_true hc4]
               refine WX.skip (Fin.aa ?_)
               refine WX.cond rfl (fun hc5 => ?_) (fun hc5 => nomatch hc5)
               refine WX.seq ?_
               have hx30 : 0 ≤ x.tdiv 30 ∧ x.tdiv 30 ≤ 1048576 := ⟨Int.tdiv_nonneg hxr.1 (by decide), by rw [Int.tdiv_eq_ediv_of_nonneg hxr.1]; omega⟩
               have hx300 : 0 ≤ (x.tdiv 30).tmod 300 ∧ (x.tdiv 30).tmod 300 < 300 := ⟨Int.tmod_nonneg _ hx30.1, Int.tmod_lt_of_pos _ (by decide)⟩
               have hxm : 0 ≤ x.tmod 30 ∧ x.tmod 30 < 30 := ⟨Int.tmod_nonneg _ hxr.1, Int.tmod_lt_of_pos _ (by decide)⟩
               refine WX.region rfl (zm rfl ?_)
               refine ae.rem Met.none rfl rfl (by omega) ?_
               refine ae.buildSlice (c := [_]) Met.none rfl bh cj ij (by decide) (by decide) rfl rfl rfl rfl (fun b125 => ?_)
               refine za rfl (zR rfl (zm rfl (zm rfl (zm rfl ?_))))
               refine ae.qu Met.none rfl rfl ?_
               refine ae.rem Met.none rfl rfl (by omega) ?_
               refine zb rfl rfl nj ?_
               refine ae.cl (O1 := bu d bm D mx ((b125, ⟨1, false, [.int .i64 (x.tmod 30)]⟩) :: (ir (lo.map (·.1)) d n dn ++ (ir (lo.map (·.2)) r n dn ++ aW r rb rf M vs (N ++ O))))) Met.none rfl (ah Tryz.func11 (by decide +kernel)) rfl aC (rD _ d bm D mx [x.tmod 30] (some ⟨b125, 0, none⟩) 1 ((x.tdiv 30).tmod 300 - 100) hD (by intro Q; simp only [List.countP_append, List.countP_cons]; omega) (by rw [hroom]; omega) (by unfold dG; omega) (fun z hz => by simp at hz; subst hz; unfold dG; omega) (show (1 : Nat) ≤ 4611686018427387904 by decide) (Src.tH rfl)) (fun v O' hp => ?_)
               obtain ⟨mx1, N1, D1, rfl, hD1, q1, q2, q3, q4⟩ := hp
               refine zR rfl (zm rfl (zm rfl (zm rfl ?_)))
               refine ae.qu Met.none rfl rfl ?_
               refine ae.rem Met.none rfl rfl (by omega) ?_
               refine zb rfl rfl nj ?_
               refine ae.cl (O1 := aW r rb rf M vs ((b125, ⟨1, false, [.int .i64 (x.tmod 30)]⟩) :: (ir (lo.map (·.1)) d n dn ++ (ir (lo.map (·.2)) r n dn ++ bu d bm D1 mx1 (N1 ++ (N ++ O)))))) Met.none rfl (ah Tryz.func12 (by decide +kernel)) rfl aC (pc _ r rb rf M vs [x.tmod 30] (some ⟨b125, 0, none⟩) 1 ((x.tdiv 30).tmod 300 - 100) hM (by intro Q; simp only [List.countP_append, List.countP_cons]; omega) (by unfold dG; omega) (show (1 : Nat) ≤ 4611686018427387904 by decide) (Src.tH rfl)) (fun v O' hp => ?_)
               obtain ⟨vs1, N2, rfl, hM1⟩ := hp
               refine ae.nil (Fin.aa (WX.seq ?_))
               obtain ⟨M1, hM1e⟩ : ∃ M1, M1 = bV M [x.tmod 30] ((x.tdiv 30).tmod 300 - 100) := ⟨_, rfl⟩
               rw [← hM1e] at hM1 ⊢
               have hS1 : mz D1 M1 := by rw [hM1e]; exact o0 hS hD q1 q2 q3 q4
               obtain ⟨z1, z2, z3⟩ := uK.len (k := k) (m := i) (q := ⟨i, D1, mx1, M1, vs1, N2 ++ (N1 ++ N), e, lo, n, dn⟩) ⟨hD1.inc (fun g hg => hg.sub (by intro Q; simp only [List.countP_append]; omega)), hM1.inc (fun g hg => hg.sub (by intro Q; simp only [List.countP_append]; omega)), hS1, by simp only; rw [q1]; exact hroom, hn⟩ hk2.2
               simp only at z1 z2 z3
               refine WX.region rfl (zm rfl ?_)
               refine ae.cl (O1 := bu d bm D1 mx1 (aW r rb rf M1 vs1 (N2 ++ (N1 ++ (N ++ O))))) Met.none rfl (ah Tryz.func7 (by decide +kernel)) rfl aC (lR _ d bm D1 mx1 hD1 (by intro Q; simp only [List.countP_append, List.countP_cons]; omega) (by omega)) (fun v O' hp => ?_)
               obtain ⟨lo1, ao1, co1, xs1, ws1, mx2, N3, rfl, hs1, ha1, rfl, hD2, hlo1, hxs1⟩ := hp
               refine zm rfl (ze rfl rfl (ze rfl rfl (ze rfl rfl (za rfl (za rfl (ae.nil (Fin.aa (WX.region rfl (zm rfl ?_)))))))))
               refine ae.cl (O1 := aW r rb rf M1 vs1 (ir lo1 d (aG (aI D1.fs 2).bs).length false ++ bu d bm (cq D1 2).2 mx2 (N3 ++ (N2 ++ (N1 ++ (N ++ O)))))) Met.none rfl (ah Tryz.func8 (by decide +kernel)) rfl aC (kz _ r rb rf M1 vs1 hM1 (by intro Q; simp only [List.countP_append, List.countP_cons]; omega) (by omega)) (fun v O' hp => ?_)
               obtain ⟨lo2, ao2, co2, xs2, ws2, vs2, N4, rfl, hs2, ha2, rfl, hM2, hlo2, hxs2⟩ := hp
               obtain ⟨s1, s2⟩ := lS hS1 hD1 (f := 2) (by decide)
               rw [s1] at hlo2
               rw [s1]
               obtain ⟨lo5, rfl, rfl⟩ := np (hlo1.trans hlo2.symm)
               rw [z3]
               have hrl := gq (aI D1.fs 2).bs
               obtain ⟨st4, hst4⟩ : ∃ st : ke, st = ⟨i, (cq D1 2).2, mx2, (cf M1 2).2, vs2, N4 ++ (N3 ++ (N2 ++ (N1 ++ N))), (cq D1 2).1, lo5, (aG (aI D1.fs 2).bs).length, false⟩ := ⟨_, rfl⟩
               have hT4 : uK k (i + 1) st4 := by
                subst hst4
                exact ⟨hD2.inc (fun g hg => hg.sub (by intro Q; simp only [List.countP_append]; omega)), hM2.inc (fun g hg => hg.sub (by intro Q; simp only [List.countP_append]; omega)), s2, by rw [kE, q1]; exact hroom, by simp only; omega⟩
               have hi4 : st4.i = i := by rw [hst4]
               refine zm rfl (ze rfl rfl (ze rfl rfl (ze rfl rfl (za rfl (za rfl (ae.nil (Fin.ag (Fin.aa (WX.seq ?_)))))))))
               refine WX.of (L' := xX d r a ops.length c st4) (O' := jP d bm r rb rf O st4) (fun s hs => ⟨hs.m, hs.t.told (by subst hst4; exact ⟨bo, bo, bo, bo, bo, bo, bo, bo, trivial⟩), by subst hst4; exact hs.sat.sub (by intro Q; simp only [ir, Option.map_some, jP, List.countP_append, List.countP_cons, List.countP_nil]; omega), hs.old⟩) ?_
               obtain ⟨y1, y2, y3⟩ := hT4.len hk2.2
               have hrd : ∃ y e9, cK st4.D 2 = (y, e9) ∧ ((e9 = 0 ∧ st4.D.off = false ∧ y = nth st4.M.B 2) ∨ (e9 = 23 ∧ st4.D.off = true ∧ y = [])) := by
                unfold cK
                rw [if_neg (by decide), y3]
                cases ho : st4.D.off with
                | true => exact ⟨[], 23, rfl, .inr ⟨rfl, rfl, rfl⟩⟩
                | false => exact ⟨_, 0, rfl, .inl ⟨rfl, rfl, rfl⟩⟩
               obtain ⟨y, e9, hrd, hye⟩ := hrd
               obtain ⟨fx, cx, hvx, hrx, hnx, hBx⟩ := hT4.rd.file 2 (by decide)
               have hvv : st4.vs[2]? = some (.slice fx (nth st4.M.B 2).length cx) := by rw [← hvx]; exact dq (by rw [hT4.rd.ik]; decide)
               refine WX.region rfl (zm rfl ?_)
               refine ae.cl (O1 := bu d bm st4.D st4.mx (aW r rb rf st4.M st4.vs (ir (st4.lo.map (·.1)) d st4.n st4.dn ++ (ir (st4.lo.map (·.2)) r st4.n st4.dn ++ (st4.N ++ O))))) Met.none rfl (ah Tryz.func19 (by decide +kernel)) rfl aC (fE _ d bm st4.D st4.mx 2 hT4.dk (fun g hg => hg.sub (by intro Q; simp only [List.countP_append, List.countP_cons]; omega))) (fun v O' hp => ?_)
               obtain ⟨a9, c9, G9, rfl, hG9, rfl⟩ := hp
               rw [hrd] at hG9 ⊢
               dsimp only at hG9 ⊢
               refine zm rfl (ze rfl rfl (ze rfl rfl (za rfl (za rfl (ae.nil (Fin.aa (WX.seq ?_)))))))
               refine WX.re (O' := aW r rb rf st4.M st4.vs (G9 ++ (bu d bm st4.D st4.mx (ir (st4.lo.map (·.1)) d st4.n st4.dn ++ (ir (st4.lo.map (·.2)) r st4.n st4.dn ++ (st4.N ++ O)))))) ?_
               refine WX.region rfl (zm rfl (zb rfl rfl rfl (zm rfl ?_)))
               refine ae.split (d := 177) rfl (fun hg177 => ?_) (fun hg177 => ?_)
               · try simp only [aB] at hg177
                 refine ae.move (Met.some rfl rfl rfl) rfl (ae.move (Met.some rfl rfl rfl) rfl (ae.nilCheck (Met.some rfl rfl rfl) rfl ?_))
                 first | refine ae.fieldAddr (Met.some rfl rfl rfl) rfl Tryz.underlying50 rfl cH rfl ?_ | refine ae.bQ (Met.some rfl rfl rfl) rfl Tryz.underlying50 rfl cH ?_
                 first | refine ae.ld (Met.some rfl rfl rfl) rfl bJ ?_ | refine ae.ba (Met.some rfl rfl rfl) rfl bJ ?_
                 first | refine ae.ix (Met.some rfl rfl rfl) rfl rfl aR aO ?_ | refine ae.eH (Met.some rfl rfl rfl) rfl rfl aR aO ?_
                 first | refine ae.ld (Met.some rfl rfl rfl) rfl aD ?_ (hv := hvv) | refine ae.ba (Met.some rfl rfl rfl) rfl aD ?_ (hv := hvv)
                 refine ae.cl (O1 := _) (Met.some rfl rfl rfl) rfl (ah Tryz.func20 (by decide +kernel)) rfl (fun _ h => h) (gD _ y (nth st4.M.B 2) a9 fx c9 cx (by unfold hJ; rcases hye with ⟨_, _, q⟩ | ⟨_, _, q⟩ <;> (rw [q]; (try simp only [List.length_nil]); omega)) iY (fun g hg => (hrx.src hnx) g (hg.sub (by intro Q; simp only [List.countP_append, List.countP_cons]; omega)))) (fun v O' hp => ?_)
                 obtain ⟨rfl, hO⟩ := hp
                 subst O'
                 refine ae.not (Met.some rfl rfl rfl) rfl (ae.bC Met.none rfl rfl (zm rfl ?_))
                 refine ae.split (d := 188) rfl (fun hg188 => ?_) (fun hg188 => ?_)
                 · try simp only [aB] at hg188
                   exact (by rcases hye with ⟨_, _, q⟩ | ⟨q, _, _⟩ <;> first | omega | (rw [q] at hg188; simp at hg188; done))
                 · try simp only [aB] at hg188
                   refine ae.move (Met.some rfl rfl rfl) rfl (ae.bin (Met.some rfl rfl rfl) rfl rfl rfl (ae.move (Met.some rfl rfl rfl) rfl (ae.nilCheck (Met.some rfl rfl rfl) rfl ?_)))
                   first | refine ae.fieldAddr (Met.some rfl rfl rfl) rfl Tryz.underlying50 rfl dm rfl ?_ | refine ae.bQ (Met.some rfl rfl rfl) rfl Tryz.underlying50 rfl dm ?_
                   first | refine ae.ld (Met.some rfl rfl rfl) rfl cV ?_ | refine ae.ba (Met.some rfl rfl rfl) rfl cV ?_
                   refine ae.vu (Met.some rfl rfl rfl) rfl rfl Tryz.underlying4 ?_
                   refine ae.bd Met.none rfl rfl (ae.nil (Fin.aa ?_))
                   refine WX.cond rfl (fun hc10 => ?_) (fun hc10 => ?_)
                   · try simp only [aB] at hc10
                     exact (by rw [hT4.nT.off] at hc10; rcases hye with ⟨q1, q2, _⟩ | ⟨q1, q2, _⟩ <;> (rw [q1, q2] at hc10; simp at hc10))
                   · try simp only [aB] at hc10
                     refine WX.skip (Fin.ag (Fin.aa (WX.region rfl (zm rfl (zb rfl rfl dH (za rfl (ae.nil ?_)))))))
                     first
                     | exact Fin.aj (⟨st4.i + 1, st4.D, st4.mx, st4.M, st4.vs, st4.N, st4.e, st4.lo, st4.n, st4.dn⟩ : ke) ⟨by simp only; omega, by simp only; omega, ⟨hT4.dk, hT4.rd, hT4.nT, hT4.room, by have := hT4.n; simp only; omega⟩⟩ (by simp only; omega) (fun s hs => ⟨hs.m, hs.t.told ⟨bo, bo, bo, bo, bo, bo, bo, bo, trivial⟩, hs.sat.sub (by intro Q; simp only [jP, List.countP_append, List.countP_cons]; omega), hs.old⟩)
                     | exact Fin.aj (⟨i + 1, D, mx, M, vs, N, e, lo, n, dn⟩ : ke) ⟨by simp only; omega, by simp only; omega, ⟨hD, hM, hS, hroom, by simp only; omega⟩⟩ (by simp only; omega) (fun s hs => ⟨hs.m, hs.t.told ⟨bo, bo, bo, bo, bo, bo, bo, bo, trivial⟩, hs.sat.sub (by intro Q; simp only [jP, List.countP_append, List.countP_cons]; omega), hs.old⟩)
               · try simp only [aB] at hg177
                 refine zs 2 177 rfl rfl rfl (zs 2 177 rfl rfl rfl (zs 2 177 rfl rfl rfl (zs 2 177 rfl rfl rfl (zs 2 177 rfl rfl rfl (zs 2 177 rfl rfl rfl (zs 2 177 rfl rfl rfl (zs 2 177 rfl rfl rfl (zs 2 177 rfl rfl rfl (ae.bd Met.none rfl rfl (zm rfl (ae.move (Met.some rfl rfl rfl) rfl (ae.bin (Met.some rfl rfl rfl) rfl rfl rfl (ae.move (Met.some rfl rfl rfl) rfl (ae.nilCheck (Met.some rfl rfl rfl) rfl ?_))))))))))))))
                 first | refine ae.fieldAddr (Met.some rfl rfl rfl) rfl Tryz.underlying50 rfl dm rfl ?_ | refine ae.bQ (Met.some rfl rfl rfl) rfl Tryz.underlying50 rfl dm ?_
                 first | refine ae.ld (Met.some rfl rfl rfl) rfl cV ?_ | refine ae.ba (Met.some rfl rfl rfl) rfl cV ?_
                 refine ae.vu (Met.some rfl rfl rfl) rfl rfl Tryz.underlying4 ?_
                 refine ae.bd Met.none rfl rfl (ae.nil (Fin.aa ?_))
                 refine WX.cond rfl (fun hc10 => ?_) (fun hc10 => ?_)
                 · try simp only [aB] at hc10
                   exact (by rw [hT4.nT.off] at hc10; rcases hye with ⟨q1, q2, _⟩ | ⟨q1, q2, _⟩ <;> (rw [q1, q2] at hc10; simp at hc10))
                 · try simp only [aB] at hc10
                   refine WX.skip (Fin.ag (Fin.aa (WX.region rfl (zm rfl (zb rfl rfl dH (za rfl (ae.nil ?_)))))))
                   first
                   | exact Fin.aj (⟨st4.i + 1, st4.D, st4.mx, st4.M, st4.vs, st4.N, st4.e, st4.lo, st4.n, st4.dn⟩ : ke) ⟨by simp only; omega, by simp only; omega, ⟨hT4.dk, hT4.rd, hT4.nT, hT4.room, by have := hT4.n; simp only; omega⟩⟩ (by simp only; omega) (fun s hs => ⟨hs.m, hs.t.told ⟨bo, bo, bo, bo, bo, bo, bo, bo, trivial⟩, hs.sat.sub (by intro Q; simp only [jP, List.countP_append, List.countP_cons]; omega), hs.old⟩)
                   | exact Fin.aj (⟨i + 1, D, mx, M, vs, N, e, lo, n, dn⟩ : ke) ⟨by simp only; omega, by simp only; omega, ⟨hD, hM, hS, hroom, by simp only; omega⟩⟩ (by simp only; omega) (fun s hs => ⟨hs.m, hs.t.told ⟨bo, bo, bo, bo, bo, bo, bo, bo, trivial⟩, hs.sat.sub (by intro Q; simp only [jP, List.countP_append, List.countP_cons]; omega), hs.old⟩)
             · try simp only [aB] at hc4
               refine WX.region rfl (zb rfl rfl rfl (za rfl (ae.nil (Fin.aa ?_))))
               refine WX.cond rfl (fun hc5 => ?_) (fun hc5 => ?_)
               · try simp only [aB] at hc5
                 refine WX.seq ?_
                 have hx30 : 0 ≤ x.tdiv 30 ∧ x.tdiv 30 ≤ 1048576 := ⟨Int.tdiv_nonneg hxr.1 (by decide), by rw [Int.tdiv_eq_ediv_of_nonneg hxr.1]; omega⟩
                 have hx300 : 0 ≤ (x.tdiv 30).tmod 300 ∧ (x.tdiv 30).tmod 300 < 300 := ⟨Int.tmod_nonneg _ hx30.1, Int.tmod_lt_of_pos _ (by decide)⟩
                 have hxm : 0 ≤ x.tmod 30 ∧ x.tmod 30 < 30 := ⟨Int.tmod_nonneg _ hxr.1, Int.tmod_lt_of_pos _ (by decide)⟩
                 refine WX.region rfl (zm rfl ?_)
                 refine ae.rem Met.none rfl rfl (by omega) ?_
                 refine ae.buildSlice (c := [_]) Met.none rfl bh cj ij (by decide) (by decide) rfl rfl rfl rfl (fun b125 => ?_)
                 refine za rfl (zR rfl (zm rfl (zm rfl (zm rfl ?_))))
                 refine ae.qu Met.none rfl rfl ?_
                 refine ae.rem Met.none rfl rfl (by omega) ?_
                 refine zb rfl rfl nj ?_
                 refine ae.cl (O1 := bu d bm D mx ((b125, ⟨1, false, [.int .i64 (x.tmod 30)]⟩) :: (ir (lo.map (·.1)) d n dn ++ (ir (lo.map (·.2)) r n dn ++ aW r rb rf M vs (N ++ O))))) Met.none rfl (ah Tryz.func11 (by decide +kernel)) rfl aC (rD _ d bm D mx [x.tmod 30] (some ⟨b125, 0, none⟩) 1 ((x.tdiv 30).tmod 300 - 100) hD (by intro Q; simp only [List.countP_append, List.countP_cons]; omega) (by rw [hroom]; omega) (by unfold dG; omega) (fun z hz => by simp at hz; subst hz; unfold dG; omega) (show (1 : Nat) ≤ 4611686018427387904 by decide) (Src.tH rfl)) (fun v O' hp => ?_)
                 obtain ⟨mx1, N1, D1, rfl, hD1, q1, q2, q3, q4⟩ := hp
                 refine zR rfl (zm rfl (zm rfl (zm rfl ?_)))
                 refine ae.qu Met.none rfl rfl ?_
                 refine ae.rem Met.none rfl rfl (by omega) ?_
                 refine zb rfl rfl nj ?_
                 refine ae.cl (O1 := aW r rb rf M vs ((b125, ⟨1, false, [.int .i64 (x.tmod 30)]⟩) :: (ir (lo.map (·.1)) d n dn ++ (ir (lo.map (·.2)) r n dn ++ bu d bm D1 mx1 (N1 ++ (N ++ O)))))) Met.none rfl (ah Tryz.func12 (by decide +kernel)) rfl aC (pc _ r rb rf M vs [x.tmod 30] (some ⟨b125, 0, none⟩) 1 ((x.tdiv 30).tmod 300 - 100) hM (by intro Q; simp only [List.countP_append, List.countP_cons]; omega) (by unfold dG; omega) (show (1 : Nat) ≤ 4611686018427387904 by decide) (Src.tH rfl)) (fun v O' hp => ?_)
                 obtain ⟨vs1, N2, rfl, hM1⟩ := hp
                 refine ae.nil (Fin.aa (WX.seq ?_))
                 obtain ⟨M1, hM1e⟩ : ∃ M1, M1 = bV M [x.tmod 30] ((x.tdiv 30).tmod 300 - 100) := ⟨_, rfl⟩
                 rw [← hM1e] at hM1 ⊢
                 have hS1 : mz D1 M1 := by rw [hM1e]; exact o0 hS hD q1 q2 q3 q4
                 obtain ⟨z1, z2, z3⟩ := uK.len (k := k) (m := i) (q := ⟨i, D1, mx1, M1, vs1, N2 ++ (N1 ++ N), e, lo, n, dn⟩) ⟨hD1.inc (fun g hg => hg.sub (by intro Q; simp only [List.countP_append]; omega)), hM1.inc (fun g hg => hg.sub (by intro Q; simp only [List.countP_append]; omega)), hS1, by simp only; rw [q1]; exact hroom, hn⟩ hk2.2
                 simp only at z1 z2 z3
                 refine WX.region rfl (zm rfl ?_)
                 refine ae.cl (O1 := bu d bm D1 mx1 (aW r rb rf M1 vs1 (N2 ++ (N1 ++ (N ++ O))))) Met.none rfl (ah Tryz.func7 (by decide +kernel)) rfl aC (lR _ d bm D1 mx1 hD1 (by intro Q; simp only [List.countP_append, List.countP_cons]; omega) (by omega)) (fun v O' hp => ?_)
                 obtain ⟨lo1, ao1, co1, xs1, ws1, mx2, N3, rfl, hs1, ha1, rfl, hD2, hlo1, hxs1⟩ := hp
                 refine zm rfl (ze rfl rfl (ze rfl rfl (ze rfl rfl (za rfl (za rfl (ae.nil (Fin.aa (WX.region rfl (zm rfl ?_)))))))))
                 refine ae.cl (O1 := aW r rb rf M1 vs1 (ir lo1 d (aG (aI D1.fs 2).bs).length false ++ bu d bm (cq D1 2).2 mx2 (N3 ++ (N2 ++ (N1 ++ (N ++ O)))))) Met.none rfl (ah Tryz.func8 (by decide +kernel)) rfl aC (kz _ r rb rf M1 vs1 hM1 (by intro Q; simp only [List.countP_append, List.countP_cons]; omega) (by omega)) (fun v O' hp => ?_)
                 obtain ⟨lo2, ao2, co2, xs2, ws2, vs2, N4, rfl, hs2, ha2, rfl, hM2, hlo2, hxs2⟩ := hp
                 obtain ⟨s1, s2⟩ := lS hS1 hD1 (f := 2) (by decide)
                 rw [s1] at hlo2
                 rw [s1]
                 obtain ⟨lo5, rfl, rfl⟩ := np (hlo1.trans hlo2.symm)
                 rw [z3]
                 have hrl := gq (aI D1.fs 2).bs
                 obtain ⟨st4, hst4⟩ : ∃ st : ke, st = ⟨i, (cq D1 2).2, mx2, (cf M1 2).2, vs2, N4 ++ (N3 ++ (N2 ++ (N1 ++ N))), (cq D1 2).1, lo5, (aG (aI D1.fs 2).bs).length, false⟩ := ⟨_, rfl⟩
                 have hT4 : uK k (i + 1) st4 := by
                  subst hst4
                  exact ⟨hD2.inc (fun g hg => hg.sub (by intro Q; simp only [List.countP_append]; omega)), hM2.inc (fun g hg => hg.sub (by intro Q; simp only [List.countP_append]; omega)), s2, by rw [kE, q1]; exact hroom, by simp only; omega⟩
                 have hi4 : st4.i = i := by rw [hst4]
                 refine zm rfl (ze rfl rfl (ze rfl rfl (ze rfl rfl (za rfl (za rfl (ae.nil (Fin.ag (Fin.aa (WX.seq ?_)))))))))
                 refine WX.of (L' := xX d r a ops.length c st4) (O' := jP d bm r rb rf O st4) (fun s hs => ⟨hs.m, hs.t.told (by subst hst4; exact ⟨bo, bo, bo, bo, bo, bo, bo, bo, trivial⟩), by subst hst4; exact hs.sat.sub (by intro Q; simp only [ir, Option.map_some, jP, List.countP_append, List.countP_cons, List.countP_nil]; omega), hs.old⟩) ?_
                 obtain ⟨y1, y2, y3⟩ := hT4.len hk2.2
                 have hrd : ∃ y e9, cK st4.D 2 = (y, e9) ∧ ((e9 = 0 ∧ st4.D.off = false ∧ y = nth st4.M.B 2) ∨ (e9 = 23 ∧ st4.D.off = true ∧ y = [])) := by
                  unfold cK
                  rw [if_neg (by decide), y3]
                  cases ho : st4.D.off with
                  | true => exact ⟨[], 23, rfl, .inr ⟨rfl, rfl, rfl⟩⟩
                  | false => exact ⟨_, 0, rfl, .inl ⟨rfl, rfl, rfl⟩⟩
                 obtain ⟨y, e9, hrd, hye⟩ := hrd
                 obtain ⟨fx, cx, hvx, hrx, hnx, hBx⟩ := hT4.rd.file 2 (by decide)
                 have hvv : st4.vs[2]? = some (.slice fx (nth st4.M.B 2).length cx) := by rw [← hvx]; exact dq (by rw [hT4.rd.ik]; decide)
                 refine WX.region rfl (zm rfl ?_)
                 refine ae.cl (O1 := bu d bm st4.D st4.mx (aW r rb rf st4.M st4.vs (ir (st4.lo.map (·.1)) d st4.n st4.dn ++ (ir (st4.lo.map (·.2)) r st4.n st4.dn ++ (st4.N ++ O))))) Met.none rfl (ah Tryz.func19 (by decide +kernel)) rfl aC (fE _ d bm st4.D st4.mx 2 hT4.dk (fun g hg => hg.sub (by intro Q; simp only [List.countP_append, List.countP_cons]; omega))) (fun v O' hp => ?_)
                 obtain ⟨a9, c9, G9, rfl, hG9, rfl⟩ := hp
                 rw [hrd] at hG9 ⊢
                 dsimp only at hG9 ⊢
                 refine zm rfl (ze rfl rfl (ze rfl rfl (za rfl (za rfl (ae.nil (Fin.aa (WX.seq ?_)))))))
                 refine WX.re (O' := aW r rb rf st4.M st4.vs (G9 ++ (bu d bm st4.D st4.mx (ir (st4.lo.map (·.1)) d st4.n st4.dn ++ (ir (st4.lo.map (·.2)) r st4.n st4.dn ++ (st4.N ++ O)))))) ?_
                 refine WX.region rfl (zm rfl (zb rfl rfl rfl (zm rfl ?_)))
                 refine ae.split (d := 177) rfl (fun hg177 => ?_) (fun hg177 => ?_)
                 · try simp only [aB] at hg177
                   refine ae.move (Met.some rfl rfl rfl) rfl (ae.move (Met.some rfl rfl rfl) rfl (ae.nilCheck (Met.some rfl rfl rfl) rfl ?_))
                   first | refine ae.fieldAddr (Met.some rfl rfl rfl) rfl Tryz.underlying50 rfl cH rfl ?_ | refine ae.bQ (Met.some rfl rfl rfl) rfl Tryz.underlying50 rfl cH ?_
                   first | refine ae.ld (Met.some rfl rfl rfl) rfl bJ ?_ | refine ae.ba (Met.some rfl rfl rfl) rfl bJ ?_
                   first | refine ae.ix (Met.some rfl rfl rfl) rfl rfl aR aO ?_ | refine ae.eH (Met.some rfl rfl rfl) rfl rfl aR aO ?_
                   first | refine ae.ld (Met.some rfl rfl rfl) rfl aD ?_ (hv := hvv) | refine ae.ba (Met.some rfl rfl rfl) rfl aD ?_ (hv := hvv)
                   refine ae.cl (O1 := _) (Met.some rfl rfl rfl) rfl (ah Tryz.func20 (by decide +kernel)) rfl (fun _ h => h) (gD _ y (nth st4.M.B 2) a9 fx c9 cx (by unfold hJ; rcases hye with ⟨_, _, q⟩ | ⟨_, _, q⟩ <;> (rw [q]; (try simp only [List.length_nil]); omega)) iY (fun g hg => (hrx.src hnx) g (hg.sub (by intro Q; simp only [List.countP_append, List.countP_cons]; omega)))) (fun v O' hp => ?_)
                   obtain ⟨rfl, hO⟩ := hp
                   subst O'
                   refine ae.not (Met.some rfl rfl rfl) rfl (ae.bC Met.none rfl rfl (zm rfl ?_))
                   refine ae.split (d := 188) rfl (fun hg188 => ?_) (fun hg188 => ?_)
                   · try simp only [aB] at hg188
                     exact (by rcases hye with ⟨_, _, q⟩ | ⟨q, _, _⟩ <;> first | omega | (rw [q] at hg188; simp at hg188; done))
                   · try simp only [aB] at hg188
                     refine ae.move (Met.some rfl rfl rfl) rfl (ae.bin (Met.some rfl rfl rfl) rfl rfl rfl (ae.move (Met.some rfl rfl rfl) rfl (ae.nilCheck (Met.some rfl rfl rfl) rfl ?_)))
                     first | refine ae.fieldAddr (Met.some rfl rfl rfl) rfl Tryz.underlying50 rfl dm rfl ?_ | refine ae.bQ (Met.some rfl rfl rfl) rfl Tryz.underlying50 rfl dm ?_
                     first | refine ae.ld (Met.some rfl rfl rfl) rfl cV ?_ | refine ae.ba (Met.some rfl rfl rfl) rfl cV ?_
                     refine ae.vu (Met.some rfl rfl rfl) rfl rfl Tryz.underlying4 ?_
                     refine ae.bd Met.none rfl rfl (ae.nil (Fin.aa ?_))
                     refine WX.cond rfl (fun hc10 => ?_) (fun hc10 => ?_)
                     · try simp only [aB] at hc10
                       exact (by rw [hT4.nT.off] at hc10; rcases hye with ⟨q1, q2, _⟩ | ⟨q1, q2, _⟩ <;> (rw [q1, q2] at hc10; simp at hc10))
                     · try simp only [aB] at hc10
                       refine WX.skip (Fin.ag (Fin.aa (WX.region rfl (zm rfl (zb rfl rfl dH (za rfl (ae.nil ?_)))))))
                       first
                       | exact Fin.aj (⟨st4.i + 1, st4.D, st4.mx, st4.M, st4.vs, st4.N, st4.e, st4.lo, st4.n, st4.dn⟩ : ke) ⟨by simp only; omega, by simp only; omega, ⟨hT4.dk, hT4.rd, hT4.nT, hT4.room, by have := hT4.n; simp only; omega⟩⟩ (by simp only; omega) (fun s hs => ⟨hs.m, hs.t.told ⟨bo, bo, bo, bo, bo, bo, bo, bo, trivial⟩, hs.sat.sub (by intro Q; simp only [jP, List.countP_append, List.countP_cons]; omega), hs.old⟩)
                       | exact Fin.aj (⟨i + 1, D, mx, M, vs, N, e, lo, n, dn⟩ : ke) ⟨by simp only; omega, by simp only; omega, ⟨hD, hM, hS, hroom, by simp only; omega⟩⟩ (by simp only; omega) (fun s hs => ⟨hs.m, hs.t.told ⟨bo, bo, bo, bo, bo, bo, bo, bo, trivial⟩, hs.sat.sub (by intro Q; simp only [jP, List.countP_append, List.countP_cons]; omega), hs.old⟩)
                 · try simp only [aB] at hg177
                   refine zs 2 177 rfl rfl rfl (zs 2 177 rfl rfl rfl (zs 2 177 rfl rfl rfl (zs 2 177 rfl rfl rfl (zs 2 177 rfl rfl rfl (zs 2 177 rfl rfl rfl (zs 2 177 rfl rfl rfl (zs 2 177 rfl rfl rfl (zs 2 177 rfl rfl rfl (ae.bd Met.none rfl rfl (zm rfl (ae.move (Met.some rfl rfl rfl) rfl (ae.bin (Met.some rfl rfl rfl) rfl rfl rfl (ae.move (Met.some rfl rfl rfl) rfl (ae.nilCheck (Met.some rfl rfl rfl) rfl ?_))))))))))))))
                   first | refine ae.fieldAddr (Met.some rfl rfl rfl) rfl Tryz.underlying50 rfl dm rfl ?_ | refine ae.bQ (Met.some rfl rfl rfl) rfl Tryz.underlying50 rfl dm ?_
                   first | refine ae.ld (Met.some rfl rfl rfl) rfl cV ?_ | refine ae.ba (Met.some rfl rfl rfl) rfl cV ?_
                   refine ae.vu (Met.some rfl rfl rfl) rfl rfl Tryz.underlying4 ?_
                   refine ae.bd Met.none rfl rfl (ae.nil (Fin.aa ?_))
                   refine WX.cond rfl (fun hc10 => ?_) (fun hc10 => ?_)
                   · try simp only [aB] at hc10
                     exact (by rw [hT4.nT.off] at hc10; rcases hye with ⟨q1, q2, _⟩ | ⟨q1, q2, _⟩ <;> (rw [q1, q2] at hc10; simp at hc10))
                   · try simp only [aB] at hc10
                     refine WX.skip (Fin.ag (Fin.aa (WX.region rfl (zm rfl (zb rfl rfl dH (za rfl (ae.nil ?_)))))))
                     first
                     | exact Fin.aj (⟨st4.i + 1, st4.D, st4.mx, st4.M, st4.vs, st4.N, st4.e, st4.lo, st4.n, st4.dn⟩ : ke) ⟨by simp only; omega, by simp only; omega, ⟨hT4.dk, hT4.rd, hT4.nT, hT4.room, by have := hT4.n; simp only; omega⟩⟩ (by simp only; omega) (fun s hs => ⟨hs.m, hs.t.told ⟨bo, bo, bo, bo, bo, bo, bo, bo, trivial⟩, hs.sat.sub (by intro Q; simp only [jP, List.countP_append, List.countP_cons]; omega), hs.old⟩)
                     | exact Fin.aj (⟨i + 1, D, mx, M, vs, N, e, lo, n, dn⟩ : ke) ⟨by simp only; omega, by simp only; omega, ⟨hD, hM, hS, hroom, by simp only; omega⟩⟩ (by simp only; omega) (fun s hs => ⟨hs.m, hs.t.told ⟨bo, bo, bo, bo, bo, bo, bo, bo, trivial⟩, hs.sat.sub (by intro Q; simp only [jP, List.countP_append, List.countP_cons]; omega), hs.old⟩)
               · try simp only [aB] at hc5
                 refine WX.seq (WX.region rfl (zb rfl rfl rfl (za rfl (ae.nil (Fin.aa ?_)))))
                 refine WX.cond rfl (fun hc6 => ?_) (fun hc6 => ?_)
                 · try simp only [aB] at hc6
                   refine WX.seq (WX.region rfl (za rfl (zR rfl (za rfl (zR rfl (zm rfl ?_))))))
                   refine ae.cl (O1 := bu d bm D mx (aW r rb rf M vs (N ++ O))) Met.none rfl (ah Tryz.func7 (by decide +kernel)) rfl aC (lR _ d bm D mx hD (by intro Q; simp only [List.countP_append, List.countP_cons]; omega) (by omega)) (fun v O' hp => ?_)
                   obtain ⟨lo1, ao1, co1, xs1, ws1, mx2, N3, rfl, hs1, ha1, rfl, hD2, hlo1, hxs1⟩ := hp
                   refine zm rfl (ze rfl rfl (ze rfl rfl (ze rfl rfl (za rfl (za rfl (za rfl (zR rfl (zm rfl ?_))))))))
                   refine ae.cl (O1 := aW r rb rf M vs (ir lo1 d (aG (aI D.fs 2).bs).length false ++ bu d bm (cq D 2).2 mx2 (N3 ++ (N ++ O)))) Met.none rfl (ah Tryz.func8 (by decide +kernel)) rfl aC (kz _ r rb rf M vs hM (by intro Q; simp only [List.countP_append, List.countP_cons]; omega) (by omega)) (fun v O' hp => ?_)
                   obtain ⟨lo2, ao2, co2, xs2, ws2, vs2, N4, rfl, hs2, ha2, rfl, hM2, hlo2, hxs2⟩ := hp
                   obtain ⟨s1, s2⟩ := lS hS hD (f := 2) (by decide)
                   rw [s1] at hlo2 hxs2
                   rw [s1]
                   obtain ⟨lo5, rfl, rfl⟩ := np (hlo1.trans hlo2.symm)
                   rw [hl3] at hxs2 ⊢
                   have hrl := gq (aI D.fs 2).bs
                   have hxe : xs2 = xs1 := hxs2.trans hxs1.symm
                   have hxl : xs1.length ≤ 239 ∧ ∀ z ∈ xs1, z.length ≤ 239 := by
                    rw [hxs1]
                    split
                    · exact ⟨by omega, fun z hz => by have := uD hz; omega⟩
                    · exact ⟨by simp, fun z hz => by simp at hz⟩
                   obtain ⟨st4, hst4⟩ : ∃ st : ke, st = ⟨i, (cq D 2).2, mx2, (cf M 2).2, vs2, N4 ++ (N3 ++ N), (cq D 2).1, lo5, (aG (aI D.fs 2).bs).length, false⟩ := ⟨_, rfl⟩
                   have hT4 : uK k (i + 1) st4 := by
                    subst hst4
                    exact ⟨hD2.inc (fun g hg => hg.sub (by intro Q; simp only [List.countP_append]; omega)), hM2.inc (fun g hg => hg.sub (by intro Q; simp only [List.countP_append]; omega)), s2, by rw [kE]; exact hroom, by simp only; omega⟩
                   have hi4 : st4.i = i := by rw [hst4]
                   refine zm rfl (ze rfl rfl (ze rfl rfl (ze rfl rfl (za rfl (za rfl (za rfl (zR rfl (zm rfl (zm rfl ?_)))))))))
                   refine ae.cl (O1 := _) Met.none rfl (ah Tryz.func13 (by decide +kernel)) rfl (fun _ h => h) (lP _ xs1 xs2 ws1 ws2 ao1 ao2 co1 co2 (by omega) (fun z hz => by have := hxl.2 z hz; omega) (fun g hg => hs1 g (hg.sub (by intro Q; simp only [List.countP_append, List.countP_cons]; omega))) (fun g hg => hs2 g (hg.sub (by intro Q; simp only [List.countP_append, List.countP_cons]; omega))) (ha1.inc fun g hg => hg.sub (by intro Q; simp only [List.countP_append, List.countP_cons]; omega)) (ha2.inc fun g hg => hg.sub (by intro Q; simp only [List.countP_append, List.countP_cons]; omega))) (fun v O' hp => ?_)
                   obtain ⟨zz, rfl, hzz, rfl⟩ := hp
                   refine ae.not Met.none rfl (ae.nil (Fin.aa ?_))
                   refine WX.cond rfl (fun hc7 => ?_) (fun hc7 => ?_)
                   · try simp only [aB] at hc7
                     exact (by rw [hzz, hxe] at hc7; simp at hc7)
                   · try simp only [aB] at hc7
                     refine WX.skip (Fin.ag (Fin.aa (WX.seq ?_)))
                     refine WX.of (L' := xX d r a ops.length c st4) (O' := jP d bm r rb rf O st4) (fun s hs => ⟨hs.m, hs.t.told (by subst hst4; exact ⟨bo, bo, bo, bo, bo, bo, bo, bo, trivial⟩), by subst hst4; exact hs.sat.sub (by intro Q; simp only [ir, Option.map_some, jP, List.countP_append, List.countP_cons, List.countP_nil]; omega), hs.old⟩) ?_
                     obtain ⟨y1, y2, y3⟩ := hT4.len hk2.2
                     have hrd : ∃ y e9, cK st4.D 2 = (y, e9) ∧ ((e9 = 0 ∧ st4.D.off = false ∧ y = nth st4.M.B 2) ∨ (e9 = 23 ∧ st4.D.off = true ∧ y = [])) := by
                      unfold cK
                      rw [if_neg (by decide), y3]
                      cases ho : st4.D.off with
                      | true => exact ⟨[], 23, rfl, .inr ⟨rfl, rfl, rfl⟩⟩
                      | false => exact ⟨_, 0, rfl, .inl ⟨rfl, rfl, rfl⟩⟩
                     obtain ⟨y, e9, hrd, hye⟩ := hrd
                     obtain ⟨fx, cx, hvx, hrx, hnx, hBx⟩ := hT4.rd.file 2 (by decide)
                     have hvv : st4.vs[2]? = some (.slice fx (nth st4.M.B 2).length cx) := by rw [← hvx]; exact dq (by rw [hT4.rd.ik]; decide)
                     refine WX.region rfl (zm rfl ?_)
                     refine ae.cl (O1 := bu d bm st4.D st4.mx (aW r rb rf st4.M st4.vs (ir (st4.lo.map (·.1)) d st4.n st4.dn ++ (ir (st4.lo.map (·.2)) r st4.n st4.dn ++ (st4.N ++ O))))) Met.none rfl (ah Tryz.func19 (by decide +kernel)) rfl aC (fE _ d bm st4.D st4.mx 2 hT4.dk (fun g hg => hg.sub (by intro Q; simp only [List.countP_append, List.countP_cons]; omega))) (fun v O' hp => ?_)
                     obtain ⟨a9, c9, G9, rfl, hG9, rfl⟩ := hp
                     rw [hrd] at hG9 ⊢
                     dsimp only at hG9 ⊢
                     refine zm rfl (ze rfl rfl (ze rfl rfl (za rfl (za rfl (ae.nil (Fin.aa (WX.seq ?_)))))))
                     refine WX.re (O' := aW r rb rf st4.M st4.vs (G9 ++ (bu d bm st4.D st4.mx (ir (st4.lo.map (·.1)) d st4.n st4.dn ++ (ir (st4.lo.map (·.2)) r st4.n st4.dn ++ (st4.N ++ O)))))) ?_
                     refine WX.region rfl (zm rfl (zb rfl rfl rfl (zm rfl ?_)))
                     refine ae.split (d := 177) rfl (fun hg177 => ?_) (fun hg177 => ?_)
                     · try simp only [aB] at hg177
                       refine ae.move (Met.some rfl rfl rfl) rfl (ae.move (Met.some rfl rfl rfl) rfl (ae.nilCheck (Met.some rfl rfl rfl) rfl ?_))
                       first | refine ae.fieldAddr (Met.some rfl rfl rfl) rfl Tryz.underlying50 rfl cH rfl ?_ | refine ae.bQ (Met.some rfl rfl rfl) rfl Tryz.underlying50 rfl cH ?_
                       first | refine ae.ld (Met.some rfl rfl rfl) rfl bJ ?_ | refine ae.ba (Met.some rfl rfl rfl) rfl bJ ?_
                       first | refine ae.ix (Met.some rfl rfl rfl) rfl rfl aR aO ?_ | refine ae.eH (Met.some rfl rfl rfl) rfl rfl aR aO ?_
                       first | refine ae.ld (Met.some rfl rfl rfl) rfl aD ?_ (hv := hvv) | refine ae.ba (Met.some rfl rfl rfl) rfl aD ?_ (hv := hvv)
                       refine ae.cl (O1 := _) (Met.some rfl rfl rfl) rfl (ah Tryz.func20 (by decide +kernel)) rfl (fun _ h => h) (gD _ y (nth st4.M.B 2) a9 fx c9 cx (by unfold hJ; rcases hye with ⟨_, _, q⟩ | ⟨_, _, q⟩ <;> (rw [q]; (try simp only [List.length_nil]); omega)) iY (fun g hg => (hrx.src hnx) g (hg.sub (by intro Q; simp only [List.countP_append, List.countP_cons]; omega)))) (fun v O' hp => ?_)
                       obtain ⟨rfl, hO⟩ := hp
                       subst O'
                       refine ae.not (Met.some rfl rfl rfl) rfl (ae.bC Met.none rfl rfl (zm rfl ?_))
                       refine ae.split (d := 188) rfl (fun hg188 => ?_) (fun hg188 => ?_)
                       · try simp only [aB] at hg188
                         exact (by rcases hye with ⟨_, _, q⟩ | ⟨q, _, _⟩ <;> first | omega | (rw [q] at hg188; simp at hg188; done))
                       · try simp only [aB] at hg188
                         refine ae.move (Met.some rfl rfl rfl) rfl (ae.bin (Met.some rfl rfl rfl) rfl rfl rfl (ae.move (Met.some rfl rfl rfl) rfl (ae.nilCheck (Met.some rfl rfl rfl) rfl ?_)))
                         first | refine ae.fieldAddr (Met.some rfl rfl rfl) rfl Tryz.underlying50 rfl dm rfl ?_ | refine ae.bQ (Met.some rfl rfl rfl) rfl Tryz.underlying50 rfl dm ?_
                         first | refine ae.ld (Met.some rfl rfl rfl) rfl cV ?_ | refine ae.ba (Met.some rfl rfl rfl) rfl cV ?_
                         refine ae.vu (Met.some rfl rfl rfl) rfl rfl Tryz.underlying4 ?_
                         refine ae.bd Met.none rfl rfl (ae.nil (Fin.aa ?_))
                         refine WX.cond rfl (fun hc10 => ?_) (fun hc10 => ?_)
                         · try simp only [aB] at hc10
                           exact (by rw [hT4.nT.off] at hc10; rcases hye with ⟨q1, q2, _⟩ | ⟨q1, q2, _⟩ <;> (rw [q1, q2] at hc10; simp at hc10))
                         · try simp only [aB] at hc10
                           refine WX.skip (Fin.ag (Fin.aa (WX.region rfl (zm rfl (zb rfl rfl dH (za rfl (ae.nil ?_)))))))
                           first
                           | exact Fin.aj (⟨st4.i + 1, st4.D, st4.mx, st4.M, st4.vs, st4.N, st4.e, st4.lo, st4.n, st4.dn⟩ : ke) ⟨by simp only; omega, by simp only; omega, ⟨hT4.dk, hT4.rd, hT4.nT, hT4.room, by have := hT4.n; simp only; omega⟩⟩ (by simp only; omega) (fun s hs => ⟨hs.m, hs.t.told ⟨bo, bo, bo, bo, bo, bo, bo, bo, trivial⟩, hs.sat.sub (by intro Q; simp only [jP, List.countP_append, List.countP_cons]; omega), hs.old⟩)
                           | exact Fin.aj (⟨i + 1, D, mx, M, vs, N, e, lo, n, dn⟩ : ke) ⟨by simp only; omega, by simp only; omega, ⟨hD, hM, hS, hroom, by simp only; omega⟩⟩ (by simp only; omega) (fun s hs => ⟨hs.m, hs.t.told ⟨bo, bo, bo, bo, bo, bo, bo, bo, trivial⟩, hs.sat.sub (by intro Q; simp only [jP, List.countP_append, List.countP_cons]; omega), hs.old⟩)
                     · try simp only [aB] at hg177
                       refine zs 2 177 rfl rfl rfl (zs 2 177 rfl rfl rfl (zs 2 177 rfl rfl rfl (zs 2 177 rfl rfl rfl (zs 2 177 rfl rfl rfl (zs 2 177 rfl rfl rfl (zs 2 177 rfl rfl rfl (zs 2 177 rfl rfl rfl (zs 2 177 rfl rfl rfl (ae.bd Met.none rfl rfl (zm rfl (ae.move (Met.some rfl rfl rfl) rfl (ae.bin (Met.some rfl rfl rfl) rfl rfl rfl (ae.move (Met.some rfl rfl rfl) rfl (ae.nilCheck (Met.some rfl rfl rfl) rfl ?_))))))))))))))
                       first | refine ae.fieldAddr (Met.some rfl rfl rfl) rfl Tryz.underlying50 rfl dm rfl ?_ | refine ae.bQ (Met.some rfl rfl rfl) rfl Tryz.underlying50 rfl dm ?_
                       first | refine ae.ld (Met.some rfl rfl rfl) rfl cV ?_ | refine ae.ba (Met.some rfl rfl rfl) rfl cV ?_
                       refine ae.vu (Met.some rfl rfl rfl) rfl rfl Tryz.underlying4 ?_
                       refine ae.bd Met.none rfl rfl (ae.nil (Fin.aa ?_))
                       refine WX.cond rfl (fun hc10 => ?_) (fun hc10 => ?_)
                       · try simp only [aB] at hc10
                         exact (by rw [hT4.nT.off] at hc10; rcases hye with ⟨q1, q2, _⟩ | ⟨q1, q2, _⟩ <;> (rw [q1, q2] at hc10; simp at hc10))
                       · try simp only [aB] at hc10
                         refine WX.skip (Fin.ag (Fin.aa (WX.region rfl (zm rfl (zb rfl rfl dH (za rfl (ae.nil ?_)))))))
                         first
                         | exact Fin.aj (⟨st4.i + 1, st4.D, st4.mx, st4.M, st4.vs, st4.N, st4.e, st4.lo, st4.n, st4.dn⟩ : ke) ⟨by simp only; omega, by simp only; omega, ⟨hT4.dk, hT4.rd, hT4.nT, hT4.room, by have := hT4.n; simp only; omega⟩⟩ (by simp only; omega) (fun s hs => ⟨hs.m, hs.t.told ⟨bo, bo, bo, bo, bo, bo, bo, bo, trivial⟩, hs.sat.sub (by intro Q; simp only [jP, List.countP_append, List.countP_cons]; omega), hs.old⟩)
                         | exact Fin.aj (⟨i + 1, D, mx, M, vs, N, e, lo, n, dn⟩ : ke) ⟨by simp only; omega, by simp only; omega, ⟨hD, hM, hS, hroom, by simp only; omega⟩⟩ (by simp only; omega) (fun s hs => ⟨hs.m, hs.t.told ⟨bo, bo, bo, bo, bo, bo, bo, bo, trivial⟩, hs.sat.sub (by intro Q; simp only [jP, List.countP_append, List.countP_cons]; omega), hs.old⟩)
                 · try simp only [aB] at hc6
                   refine WX.seq (WX.seq (WX.region rfl (zm rfl ?_)))
                   refine ae.ly Met.none rfl rfl Tryz.underlying28 ?_
                   refine zm rfl ?_
                   refine ae.split (d := 76) rfl (fun hg76 => ?_) (fun hg76 => ?_)
                   · try simp only [aB] at hg76
                     refine zs 2 76 rfl rfl rfl (zs 2 76 rfl rfl rfl (ae.bC Met.none rfl rfl (ae.nil (Fin.aa ?_))))
                     refine WX.cond rfl (fun hc8 => ?_) (fun hc8 => nomatch hc8)
                     refine WX.exit (Fin.aF (Fin.fv rfl (Fin.aF (Fin.aK rfl (Fin.aa (WX.region rfl (zm rfl (zb rfl rfl dH (za rfl (ae.nil ?_))))))))))
                     first
                     | exact Fin.aj (⟨st4.i + 1, st4.D, st4.mx, st4.M, st4.vs, st4.N, st4.e, st4.lo, st4.n, st4.dn⟩ : ke) ⟨by simp only; omega, by simp only; omega, ⟨hT4.dk, hT4.rd, hT4.nT, hT4.room, by have := hT4.n; simp only; omega⟩⟩ (by simp only; omega) (fun s hs => ⟨hs.m, hs.t.told ⟨bo, bo, bo, bo, bo, bo, bo, bo, trivial⟩, hs.sat.sub (by intro Q; simp only [jP, List.countP_append, List.countP_cons]; omega), hs.old⟩)
                     | exact Fin.aj (⟨i + 1, D, mx, M, vs, N, e, lo, n, dn⟩ : ke) ⟨by simp only; omega, by simp only; omega, ⟨hD, hM, hS, hroom, by simp only; omega⟩⟩ (by simp only; omega) (fun s hs => ⟨hs.m, hs.t.told ⟨bo, bo, bo, bo, bo, bo, bo, bo, trivial⟩, hs.sat.sub (by intro Q; simp only [jP, List.countP_append, List.countP_cons]; omega), hs.old⟩)
                   · try simp only [aB] at hg76
                     refine ae.move (Met.some rfl rfl rfl) rfl ?_
                     refine ae.ly (Met.some rfl rfl rfl) rfl rfl Tryz.underlying33 ?_
                     refine ae.bd Met.none rfl rfl (ae.nil (Fin.aa ?_))
                     refine WX.cond rfl (fun hc8 => ?_) (fun hc8 => ?_)
                     · try simp only [aB] at hc8
                       refine WX.exit (Fin.aF (Fin.fv rfl (Fin.aF (Fin.aK rfl (Fin.aa (WX.region rfl (zm rfl (zb rfl rfl dH (za rfl (ae.nil ?_))))))))))
                       first
                       | exact Fin.aj (⟨st4.i + 1, st4.D, st4.mx, st4.M, st4.vs, st4.N, st4.e, st4.lo, st4.n, st4.dn⟩ : ke) ⟨by simp only; omega, by simp only; omega, ⟨hT4.dk, hT4.rd, hT4.nT, hT4.room, by have := hT4.n; simp only; omega⟩⟩ (by simp only; omega) (fun s hs => ⟨hs.m, hs.t.told ⟨bo, bo, bo, bo, bo, bo, bo, bo, trivial⟩, hs.sat.sub (by intro Q; simp only [jP, List.countP_append, List.countP_cons]; omega), hs.old⟩)
                       | exact Fin.aj (⟨i + 1, D, mx, M, vs, N, e, lo, n, dn⟩ : ke) ⟨by simp only; omega, by simp only; omega, ⟨hD, hM, hS, hroom, by simp only; omega⟩⟩ (by simp only; omega) (fun s hs => ⟨hs.m, hs.t.told ⟨bo, bo, bo, bo, bo, bo, bo, bo, trivial⟩, hs.sat.sub (by intro Q; simp only [jP, List.countP_append, List.countP_cons]; omega), hs.old⟩)
                     · try simp only [aB] at hc8
                       refine WX.skip (Fin.aa (WX.seq ?_))
                       obtain ⟨⟨la, lb⟩, rfl⟩ : ∃ p, lo = some p := by
                        cases lo with
                        | none => simp [yr] at hg76
                        | some p => exact ⟨p, rfl⟩
                       refine WX.re (O' := iR la d 2 n dn :: bu d bm D mx (iR lb r 2 n dn :: aW r rb rf M vs (N ++ O))) ?_ (fun g hg => hg.sub (by intro Q; simp only [ir, Option.map_some, List.countP_append, List.countP_cons, List.countP_nil]; omega))
                       refine WX.region rfl (zm rfl ?_)
                       refine ae.buildSlice (c := [_]) Met.none rfl bh cj ij (by decide) (by decide) rfl rfl rfl rfl (fun b81 => ?_)
                       refine ae.cl (O1 := _) Met.none rfl (ah Tryz.func14 (by decide +kernel)) rfl (fun _ h => h) (oO _ [x] (some ⟨b81, 0, none⟩) 1 (fun z hz => by simp at hz; subst hz; unfold dG; omega) (show (1 : Nat) ≤ 4611686018427387904 by decide) (Src.tH rfl)) (fun v O' hp => ?_)
                       obtain ⟨xs, ao, co, ws, G5, R5, rfl, hG5, hA5, hR5, rfl, hlen5⟩ := hp
                       have hx1 : xs.length = 1 := hlen5
                       obtain ⟨b5, rfl, rfl, hw5⟩ : ∃ b5, ao = some ⟨b5, 0, none⟩ ∧ G5 = [(b5, ⟨1, false, ws⟩)] ∧ ws.length = xs.length * 1 := by
                        rcases hG5 with ⟨_, h0, _⟩ | h
                        · omega
                        · exact h
                       obtain ⟨ab, cb, hab, hsb⟩ := hA5.2 0 (by omega)
                       obtain ⟨hbB, hbl⟩ := hR5.2 (nth xs 0) (dK (by omega))
                       have hw0 : ws[0]? = some (.slice ab (nth xs 0).length cb) := by rw [← hab]; exact dq (by omega)
                       rw [hab] at hsb
                       obtain ⟨b, hb⟩ : ∃ b, b = nth xs 0 := ⟨_, rfl⟩
                       rw [← hb] at hw0 hsb hbB hbl
                       first | refine ae.ix Met.none rfl rfl aR aO ?_ | refine ae.eH Met.none rfl rfl aR aO ?_
                       first | refine ae.ld Met.none rfl aD ?_ (hv := hw0) | refine ae.ba Met.none rfl aD ?_ (hv := hw0)
                       refine za rfl (ae.nil (Fin.aa (WX.seq ?_)))
                       refine WX.draw rfl ?_
                       refine zm rfl (zm rfl ?_)
                       refine ae.cl (O1 := iR la d 2 n dn :: bu d bm D mx (iR lb r 2 n dn :: aW r rb rf M vs (R5 ++ (N ++ O)))) Met.none rfl (ah Tryz.func15 (by decide +kernel)) rfl aC (pV _ la d bm D mx 2 n dn b ab cb hD (fun g hg => hg.sub (by intro Q; simp only [List.countP_append, List.countP_cons]; omega)) (by omega) hbB (by omega) (fun g hg => hsb g (hg.sub (by intro Q; simp only [List.countP_append, List.countP_cons]; omega)))) (fun v O' hp => ?_)
                       obtain ⟨mx1, N1, rfl, rfl, hD1⟩ := hp
                       refine zm rfl (zm rfl ?_)
                       refine ae.cl (O1 := iR lb r 2 n dn :: aW r rb rf M vs (iR la d 2 (if (cQ D 2 n dn b).1 = 0 then n + 1 else n) (decide ((cQ D 2 n dn b).1 = 23)) :: bu d bm (cQ D 2 n dn b).2 mx1 (N1 ++ (R5 ++ (N ++ O))))) Met.none rfl (ah Tryz.func16 (by decide +kernel)) rfl aC (vk _ lb r rb rf M vs 2 n dn b ab cb hM (fun g hg => hg.sub (by intro Q; simp only [List.countP_append, List.countP_cons]; omega)) (by omega) hbB (by omega) (fun g hg => hsb g (hg.sub (by intro Q; simp only [List.countP_append, List.countP_cons]; omega)))) (fun v O' hp => ?_)
                       obtain ⟨vs1, N2, rfl, rfl, hM1⟩ := hp
                       obtain ⟨s1, s2⟩ := uZ hS hD 2 n dn b
                       have s1' : (fB M 2 n dn b).1 = (cQ D 2 n dn b).1 := s1
                       rw [s1', show ((2 : Nat) : Int) = 2 from rfl]
                       obtain ⟨e5, he5⟩ : ∃ e5, e5 = (cQ D 2 n dn b).1 := ⟨_, rfl⟩
                       rw [← he5]
                       obtain ⟨n5, hn5⟩ : ∃ n5, n5 = (if e5 = 0 then n + 1 else n) := ⟨_, rfl⟩
                       obtain ⟨dn5, hdn5⟩ : ∃ dn5, dn5 = decide (e5 = 23) := ⟨_, rfl⟩
                       rw [← hn5, ← hdn5]
                       have h9 : n5 = n + 1 ∨ n5 = n := by
                        rw [hn5]
                        split
                        · exact .inl rfl
                        · exact .inr rfl
                       obtain ⟨st4, hst4⟩ : ∃ st : ke, st = ⟨i, (cQ D 2 n dn b).2, mx1, (fB M 2 n dn b).2, vs1, N2 ++ (N1 ++ N), e, some (la, lb), n5, dn5⟩ := ⟨_, rfl⟩
                       have hT4 : uK k (i + 1) st4 := by
                        subst hst4
                        exact ⟨hD1.inc (fun g hg => hg.sub (by intro Q; simp only [List.countP_append]; omega)), hM1.inc (fun g hg => hg.sub (by intro Q; simp only [List.countP_append]; omega)), s2, by rw [tD]; exact hroom, by simp only; omega⟩
                       have hi4 : st4.i = i := by rw [hst4]
                       refine zb rfl rfl rfl (zm rfl ?_)
                       refine ae.split (d := 92) rfl (fun hg92 => ?_) (fun hg92 => ?_)
                       · try simp only [aB] at hg92
                         exact (by simp at hg92)
                       · try simp only [aB] at hg92
                         refine ae.move (Met.some rfl rfl rfl) rfl ?_
                         refine ae.cl (O1 := iR la d 2 n5 dn5 :: iR lb r 2 n5 dn5 :: bu d bm (cQ D 2 n dn b).2 mx1 (aW r rb rf (fB M 2 n dn b).2 vs1 (N2 ++ (N1 ++ (N ++ O))))) (Met.some rfl rfl rfl) rfl (ah Tryz.func17 (by decide +kernel)) rfl aC (yy _ la d 2 n5 dn5) (fun v O' hp => ?_)
                         obtain ⟨rfl, hO⟩ := hp
                         subst O'
                         refine ae.move (Met.some rfl rfl rfl) rfl (ae.nilCheck (Met.some rfl rfl rfl) rfl ?_)
                         first | refine ae.fieldAddr (Met.some rfl rfl rfl) rfl Tryz.underlying44 rfl cj rfl ?_ | refine ae.bQ (Met.some rfl rfl rfl) rfl Tryz.underlying44 rfl cj ?_
                         first | refine ae.ld (Met.some rfl rfl rfl) rfl bY ?_ | refine ae.ba (Met.some rfl rfl rfl) rfl bY ?_
                         refine ae.bin (Met.some rfl rfl rfl) rfl rfl rfl (ae.bd Met.none rfl rfl (zm rfl ?_))
                         refine ae.split (d := 101) rfl (fun hg101 => ?_) (fun hg101 => ?_)
                         · try simp only [aB] at hg101
                           exact (by simp at hg101)
                         · try simp only [aB] at hg101
                           refine ae.move (Met.some rfl rfl rfl) rfl ?_
                           refine ae.cl (O1 := _) (Met.some rfl rfl rfl) rfl (ah Tryz.func18 (by decide +kernel)) rfl (fun _ h => h) (yZ _ la d 2 n5 dn5) (fun v O' hp => ?_)
                           obtain ⟨rfl, hO⟩ := hp
                           subst O'
                           refine ae.move (Met.some rfl rfl rfl) rfl (ae.nilCheck (Met.some rfl rfl rfl) rfl ?_)
                           first | refine ae.fieldAddr (Met.some rfl rfl rfl) rfl Tryz.underlying44 rfl dm rfl ?_ | refine ae.bQ (Met.some rfl rfl rfl) rfl Tryz.underlying44 rfl dm ?_
                           first | refine ae.ld (Met.some rfl rfl rfl) rfl cV ?_ | refine ae.ba (Met.some rfl rfl rfl) rfl cV ?_
                           refine ae.zk (Met.some rfl rfl rfl) rfl rfl Tryz.underlying4 ?_
                           refine ae.bd Met.none rfl rfl (ae.nil (Fin.aa ?_))
                           refine WX.cond rfl (fun hc9 => ?_) (fun hc9 => ?_)
                           · try simp only [aB] at hc9
                             exact (by cases dn5 <;> simp at hc9)
                           · try simp only [aB] at hc9
                             refine WX.skip (Fin.ag (Fin.aa (WX.seq ?_)))
                             refine WX.of (L' := xX d r a ops.length c st4) (O' := jP d bm r rb rf O st4) (fun s hs => ⟨hs.m, hs.t.told (by subst hst4; exact ⟨bo, bo, bo, bo, bo, bo, bo, bo, trivial⟩), by subst hst4; exact hs.sat.sub (by intro Q; simp only [ir, Option.map_some, jP, List.countP_append, List.countP_cons, List.countP_nil]; omega), hs.old⟩) ?_
                             obtain ⟨y1, y2, y3⟩ := hT4.len hk2.2
                             have hrd : ∃ y e9, cK st4.D 2 = (y, e9) ∧ ((e9 = 0 ∧ st4.D.off = false ∧ y = nth st4.M.B 2) ∨ (e9 = 23 ∧ st4.D.off = true ∧ y = [])) := by
                              unfold cK
                              rw [if_neg (by decide), y3]
                              cases ho : st4.D.off with
                              | true => exact ⟨[], 23, rfl, .inr ⟨rfl, rfl, rfl⟩⟩
                              | false => exact ⟨_, 0, rfl, .inl ⟨rfl, rfl, rfl⟩⟩
                             obtain ⟨y, e9, hrd, hye⟩ := hrd
                             obtain ⟨fx, cx, hvx, hrx, hnx, hBx⟩ := hT4.rd.file 2 (by decide)
                             have hvv : st4.vs[2]? = some (.slice fx (nth st4.M.B 2).length cx) := by rw [← hvx]; exact dq (by rw [hT4.rd.ik]; decide)
                             refine WX.region rfl (zm rfl ?_)
                             refine ae.cl (O1 := bu d bm st4.D st4.mx (aW r rb rf st4.M st4.vs (ir (st4.lo.map (·.1)) d st4.n st4.dn ++ (ir (st4.lo.map (·.2)) r st4.n st4.dn ++ (st4.N ++ O))))) Met.none rfl (ah Tryz.func19 (by decide +kernel)) rfl aC (fE _ d bm st4.D st4.mx 2 hT4.dk (fun g hg => hg.sub (by intro Q; simp only [List.countP_append, List.countP_cons]; omega))) (fun v O' hp => ?_)
                             obtain ⟨a9, c9, G9, rfl, hG9, rfl⟩ := hp
                             rw [hrd] at hG9 ⊢
                             dsimp only at hG9 ⊢
                             refine zm rfl (ze rfl rfl (ze rfl rfl (za rfl (za rfl (ae.nil (Fin.aa (WX.seq ?_)))))))
                             refine WX.re (O' := aW r rb rf st4.M st4.vs (G9 ++ (bu d bm st4.D st4.mx (ir (st4.lo.map (·.1)) d st4.n st4.dn ++ (ir (st4.lo.map (·.2)) r st4.n st4.dn ++ (st4.N ++ O)))))) ?_
                             refine WX.region rfl (zm rfl (zb rfl rfl rfl (zm rfl ?_)))
                             refine ae.split (d := 177) rfl (fun hg177 => ?_) (fun hg177 => ?_)
                             · try simp only [aB] at hg177
                               refine ae.move (Met.some rfl rfl rfl) rfl (ae.move (Met.some rfl rfl rfl) rfl (ae.nilCheck (Met.some rfl rfl rfl) rfl ?_))
                               first | refine ae.fieldAddr (Met.some rfl rfl rfl) rfl Tryz.underlying50 rfl cH rfl ?_ | refine ae.bQ (Met.some rfl rfl rfl) rfl Tryz.underlying50 rfl cH ?_
                               first | refine ae.ld (Met.some rfl rfl rfl) rfl bJ ?_ | refine ae.ba (Met.some rfl rfl rfl) rfl bJ ?_
                               first | refine ae.ix (Met.some rfl rfl rfl) rfl rfl aR aO ?_ | refine ae.eH (Met.some rfl rfl rfl) rfl rfl aR aO ?_
                               first | refine ae.ld (Met.some rfl rfl rfl) rfl aD ?_ (hv := hvv) | refine ae.ba (Met.some rfl rfl rfl) rfl aD ?_ (hv := hvv)
                               refine ae.cl (O1 := _) (Met.some rfl rfl rfl) rfl (ah Tryz.func20 (by decide +kernel)) rfl (fun _ h => h) (gD _ y (nth st4.M.B 2) a9 fx c9 cx (by unfold hJ; rcases hye with ⟨_, _, q⟩ | ⟨_, _, q⟩ <;> (rw [q]; (try simp only [List.length_nil]); omega)) iY (fun g hg => (hrx.src hnx) g (hg.sub (by intro Q; simp only [List.countP_append, List.countP_cons]; omega)))) (fun v O' hp => ?_)
                               obtain ⟨rfl, hO⟩ := hp
                               subst O'
                               refine ae.not (Met.some rfl rfl rfl) rfl (ae.bC Met.none rfl rfl (zm rfl ?_))
                               refine ae.split (d := 188) rfl (fun hg188 => ?_) (fun hg188 => ?_)
                               · try simp only [aB] at hg188
                                 exact (by rcases hye with ⟨_, _, q⟩ | ⟨q, _, _⟩ <;> first | omega | (rw [q] at hg188; simp at hg188; done))
                               · try simp only [aB] at hg188
                                 refine ae.move (Met.some rfl rfl rfl) rfl (ae.bin (Met.some rfl rfl rfl) rfl rfl rfl (ae.move (Met.some rfl rfl rfl) rfl (ae.nilCheck (Met.some rfl rfl rfl) rfl ?_)))
                                 first | refine ae.fieldAddr (Met.some rfl rfl rfl) rfl Tryz.underlying50 rfl dm rfl ?_ | refine ae.bQ (Met.some rfl rfl rfl) rfl Tryz.underlying50 rfl dm ?_
                                 first | refine ae.ld (Met.some rfl rfl rfl) rfl cV ?_ | refine ae.ba (Met.some rfl rfl rfl) rfl cV ?_
                                 refine ae.vu (Met.some rfl rfl rfl) rfl rfl Tryz.underlying4 ?_
                                 refine ae.bd Met.none rfl rfl (ae.nil (Fin.aa ?_))
                                 refine WX.cond rfl (fun hc10 => ?_) (fun hc10 => ?_)
                                 · try simp only [aB] at hc10
                                   exact (by rw [hT4.nT.off] at hc10; rcases hye with ⟨q1, q2, _⟩ | ⟨q1, q2, _⟩ <;> (rw [q1, q2] at hc10; simp at hc10))
                                 · try simp only [aB] at hc10
                                   refine WX.skip (Fin.ag (Fin.aa (WX.region rfl (zm rfl (zb rfl rfl dH (za rfl (ae.nil ?_)))))))
                                   first
                                   | exact Fin.aj (⟨st4.i + 1, st4.D, st4.mx, st4.M, st4.vs, st4.N, st4.e, st4.lo, st4.n, st4.dn⟩ : ke) ⟨by simp only; omega, by simp only; omega, ⟨hT4.dk, hT4.rd, hT4.nT, hT4.room, by have := hT4.n; simp only; omega⟩⟩ (by simp only; omega) (fun s hs => ⟨hs.m, hs.t.told ⟨bo, bo, bo, bo, bo, bo, bo, bo, trivial⟩, hs.sat.sub (by intro Q; simp only [jP, List.countP_append, List.countP_cons]; omega), hs.old⟩)
                                   | exact Fin.aj (⟨i + 1, D, mx, M, vs, N, e, lo, n, dn⟩ : ke) ⟨by simp only; omega, by simp only; omega, ⟨hD, hM, hS, hroom, by simp only; omega⟩⟩ (by simp only; omega) (fun s hs => ⟨hs.m, hs.t.told ⟨bo, bo, bo, bo, bo, bo, bo, bo, trivial⟩, hs.sat.sub (by intro Q; simp only [jP, List.countP_append, List.countP_cons]; omega), hs.old⟩)
                             · try simp only [aB] at hg177
                               refine zs 2 177 rfl rfl rfl (zs 2 177 rfl rfl rfl (zs 2 177 rfl rfl rfl (zs 2 177 rfl rfl rfl (zs 2 177 rfl rfl rfl (zs 2 177 rfl rfl rfl (zs 2 177 rfl rfl rfl (zs 2 177 rfl rfl rfl (zs 2 177 rfl rfl rfl (ae.bd Met.none rfl rfl (zm rfl (ae.move (Met.some rfl rfl rfl) rfl (ae.bin (Met.some rfl rfl rfl) rfl rfl rfl (ae.move (Met.some rfl rfl rfl) rfl (ae.nilCheck (Met.some rfl rfl rfl) rfl ?_))))))))))))))
                               first | refine ae.fieldAddr (Met.some rfl rfl rfl) rfl Tryz.underlying50 rfl dm rfl ?_ | refine ae.bQ (Met.some rfl rfl rfl) rfl Tryz.underlying50 rfl dm ?_
                               first | refine ae.ld (Met.some rfl rfl rfl) rfl cV ?_ | refine ae.ba (Met.some rfl rfl rfl) rfl cV ?_
                               refine ae.vu (Met.some rfl rfl rfl) rfl rfl Tryz.underlying4 ?_
                               refine ae.bd Met.none rfl rfl (ae.nil (Fin.aa ?_))
                               refine WX.cond rfl (fun hc10 => ?_) (fun hc10 => ?_)
                               · try simp only [aB] at hc10
                                 exact (by rw [hT4.nT.off] at hc10; rcases hye with ⟨q1, q2, _⟩ | ⟨q1, q2, _⟩ <;> (rw [q1, q2] at hc10; simp at hc10))
                               · try simp only [aB] at hc10
                                 refine WX.skip (Fin.ag (Fin.aa (WX.region rfl (zm rfl (zb rfl rfl dH (za rfl (ae.nil ?_)))))))
                                 first
                                 | exact Fin.aj (⟨st4.i + 1, st4.D, st4.mx, st4.M, st4.vs, st4.N, st4.e, st4.lo, st4.n, st4.dn⟩ : ke) ⟨by simp only; omega, by simp only; omega, ⟨hT4.dk, hT4.rd, hT4.nT, hT4.room, by have := hT4.n; simp only; omega⟩⟩ (by simp only; omega) (fun s hs => ⟨hs.m, hs.t.told ⟨bo, bo, bo, bo, bo, bo, bo, bo, trivial⟩, hs.sat.sub (by intro Q; simp only [jP, List.countP_append, List.countP_cons]; omega), hs.old⟩)
                                 | exact Fin.aj (⟨i + 1, D, mx, M, vs, N, e, lo, n, dn⟩ : ke) ⟨by simp only; omega, by simp only; omega, ⟨hD, hM, hS, hroom, by simp only; omega⟩⟩ (by simp only; omega) (fun s hs => ⟨hs.m, hs.t.told ⟨bo, bo, bo, bo, bo, bo, bo, bo, trivial⟩, hs.sat.sub (by intro Q; simp only [jP, List.countP_append, List.countP_cons]; omega), hs.old⟩)
     · try simp only [aB] at hc1
       refine WX.exit (Fin.aF (Fin.aN (Fin.aK rfl (Fin.aa (WX.seq (WX.region rfl (zm rfl (zm rfl (zb rfl rfl rfl (zm rfl ?_))))))))))
       refine ae.split (d := 200) rfl (fun hg200 => ?_) (fun hg200 => ?_)
       · try simp only [aB] at hg200
         refine ae.cl (O1 := _) (Met.some rfl rfl rfl) rfl (ah Tryz.func21 (by decide +kernel)) rfl (fun _ h => h) (rj _) (fun v O' hp => ?_)
         obtain ⟨rfl, hO⟩ := hp
         subst O'
         refine ae.bC Met.none rfl rfl (za rfl (ae.nil (Fin.aa (WX.ret ?_))))
         exact Fin.result (O' := []) (.inr rfl) rfl rfl (fun _ hs => ⟨by simp, fun p hp => by simp at hp, hs.wf⟩) (by first | rfl | (simp [eB]))
       · try simp only [aB] at hg200
         exact (by simp at hg200)
   · try simp only [aB] at hg47
     refine zs 4 47 rfl rfl rfl (zs 4 47 rfl rfl rfl (ae.bd Met.none rfl rfl (ae.nil (Fin.aa ?_))))
     refine WX.cond rfl (fun hc1 => nomatch hc1) (fun hc1 => ?_)
     refine WX.exit (Fin.aF (Fin.aN (Fin.aK rfl (Fin.aa (WX.seq (WX.region rfl (zm rfl (zm rfl (zb rfl rfl rfl (zm rfl ?_))))))))))
     refine ae.split (d := 200) rfl (fun hg200 => ?_) (fun hg200 => ?_)
     · try simp only [aB] at hg200
       refine ae.cl (O1 := _) (Met.some rfl rfl rfl) rfl (ah Tryz.func21 (by decide +kernel)) rfl (fun _ h => h) (rj _) (fun v O' hp => ?_)
       obtain ⟨rfl, hO⟩ := hp
       subst O'
       refine ae.bC Met.none rfl rfl (za rfl (ae.nil (Fin.aa (WX.ret ?_))))
       exact Fin.result (O' := []) (.inr rfl) rfl rfl (fun _ hs => ⟨by simp, fun p hp => by simp at hp, hs.wf⟩) (by first | rfl | (simp [eB]))
     · try simp only [aB] at hg200
       exact (by simp at hg200)
end Go.Proofs.YthekokdpplobhaaGreat.Eng

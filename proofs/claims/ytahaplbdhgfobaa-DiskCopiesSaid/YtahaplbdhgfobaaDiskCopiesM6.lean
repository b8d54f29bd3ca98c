/- The law DiskCopies, walked. Own work; no condition. -/
import Derived.Test.YtahaplbdhgfobaaDiskCopiesM1
import Derived.Test.YtahaplbdhgfobaaDiskCopiesM2
import Derived.Test.YtahaplbdhgfobaaDiskCopiesM3
import Derived.Test.YtahaplbdhgfobaaDiskCopiesM4
import Derived.Test.YtahaplbdhgfobaaDiskCopiesM5
set_option linter.unusedVariables false
set_option linter.unusedSimpArgs false
set_option maxRecDepth 8000
namespace Go.Proofs.Ytahaplbdhgfobaa.Eng

theorem Src.inc {O R : Objs} {sz n : Nat} {v : Value} {cs : List Value} (h : Src O sz v n cs) (hi : ∀ Q : Nat × Ent → Bool, O.countP Q ≤ R.countP Q) : Src R sz v n cs := fun g hg => h g (hg.sub hi)

theorem FRel.inc {R0 R : Objs} {m : List (Int × Value)} {fs : List (Int × Fi)} (h : FRel R0 m fs) (hi : ∀ g, Sat g R → Sat g R0) : FRel R m fs := by
  induction h with
  | nil => exact .nil
  | cons h1 _ ih =>
    obtain ⟨a, c, h2, h3, h4⟩ := h1
    exact .cons ⟨a, c, h2, h3.inc hi, h4⟩ ih
theorem DkI.inc {R0 R : Objs} {D : Dk} {mx : MapX} (h : DkI R0 D mx) (hi : ∀ g, Sat g R → Sat g R0) : DkI R D mx := ⟨⟨h.di.rel.inc hi, h.di.nd⟩, h.ok, h.room, h.left, h.used⟩

def runR (M : Rd) (l : List OpV) : Rd := l.foldl (fun M o => (doR M o).2) M
theorem runR_succ {M : Rd} {ops : List OpV} {i : Nat} (h : i < ops.length) : runR M (ops.take (i + 1)) = (doR (runR M (ops.take i)) (nth ops i)).2 := by
  unfold runR
  rw [take_succ_nth h, List.foldl_append]
  rfl

structure CoQ where
  i : Nat
  D : Dk
  mx : MapX
  X : Objs

theorem diskCopies_ok (O : Objs) (room : Int) (l more : List Int) (al am : Option Addr) (cl cm : Nat) (hr64 : In64 room) (hll : Short l) (hlm : Short more) (h64 : ∀ x ∈ l, In64 x) (hm64 : ∀ x ∈ more, In64 x)
    (hl : Src O 1 (.slice al l.length cl) l.length (l.map I)) (hm : Src O 1 (.slice am more.length cm) more.length (more.map I)) :
    Spec Try.prog false 8 #[I room, .slice al l.length cl, .slice am more.length cm] O fun v _ => v = .bool true := by
  have hrr := around_range (n := room) (m := 40) (by decide)
  obtain ⟨k, hk⟩ : ∃ k, k = 12 + around room 40 := ⟨_, rfl⟩
  have hk2 : 12 ≤ k ∧ k ≤ 51 := by omega
  refine Spec.enter (args := [_, _, _]) (m := 88) Try.func8 rfl rfl (by decide +kernel) fun h0 => ?_
  refine WX.seq ?_
  refine WX.region rfl ?_
  refine WXL.assign Met.none rfl ?_
  refine WXL.nil ?_
  refine Fin.then_normal ?_
  refine WX.seq ?_
  refine WX.region rfl ?_
  refine WXL.move Met.none rfl ?_
  refine WXL.move Met.none rfl ?_
  refine WXL.cl (O1 := _) Met.none rfl (fnOk_of Try.func27 (by decide +kernel)) rfl (fun _ h => h) (made_ok O room l al cl hr64 hll h64 hl) (fun v O' hp => ?_)
  obtain ⟨d, bm, D, mx, r, rb, rf, M, vs, N, rfl, rfl, hT⟩ := hp
  rw [← hk] at hT
  refine WXL.move Met.none rfl ?_
  refine WXL.extract Met.none rfl rfl ?_
  refine WXL.extract Met.none rfl rfl ?_
  refine WXL.assign Met.none rfl ?_
  refine WXL.assign Met.none rfl ?_
  refine WXL.nil ?_
  refine Fin.then_normal ?_
  refine WX.seq ?_
  refine WX.seq ?_
  refine WX.region rfl ?_
  refine WXL.move Met.none rfl ?_
  refine WXL.eqNilP Met.none rfl rfl Try.underlying23 ?_
  refine WXL.move Met.none rfl ?_
  refine WXL.split (d := 22) rfl (fun hg22 => ?_) (fun hg22 => ?_)
  · try simp only [cnd] at hg22
    exact (by simp at hg22) --end
  · try simp only [cnd] at hg22
    refine WXL.move (Met.some rfl rfl rfl) rfl ?_
    refine WXL.eqNilP (Met.some rfl rfl rfl) rfl rfl Try.underlying42 ?_
    refine WXL.pick_f Met.none rfl rfl ?_
    refine WXL.nil ?_
    refine Fin.then_normal ?_
    refine WX.cond rfl (fun hc0 => ?_) (fun hc0 => ?_)
    · try simp only [cnd] at hc0
      exact (by simp at hc0) --end
    · try simp only [cnd] at hc0
      refine WX.skip ?_
      refine Fin.then_normal ?_
      refine WX.seq ?_
      refine WX.region rfl ?_
      refine WXL.move Met.none rfl ?_
      refine WXL.cl (O1 := _) Met.none rfl (fnOk_of Try.func30 (by decide +kernel)) rfl (fun _ h => h) (copy_ok _ d bm D mx) (fun v O' hp => ?_)
      obtain ⟨dc, bc, rfl, rfl⟩ := hp
      refine WXL.assign Met.none rfl ?_
      refine WXL.nil ?_
      refine Fin.then_normal ?_
      refine WX.seq ?_
      refine WX.seq ?_
      refine WX.region rfl ?_
      refine WXL.move Met.none rfl ?_
      refine WXL.eqNilP Met.none rfl rfl Try.underlying23 ?_
      refine WXL.move Met.none rfl ?_
      refine WXL.split (d := 30) rfl (fun hg30 => ?_) (fun hg30 => ?_)
      · try simp only [cnd] at hg30
        exact (by simp at hg30) --end
      · try simp only [cnd] at hg30
        refine WXL.move (Met.some rfl rfl rfl) rfl ?_
        refine WXL.move (Met.some rfl rfl rfl) rfl ?_
        refine WXL.cl (O1 := dkO dc bc D mx (rdO r rb rf M vs (dkO d bm D mx (N ++ O)))) (Met.some rfl rfl rfl) rfl (fnOk_of Try.func26 (by decide +kernel)) rfl sub_ (same_ok _ dc bc D mx r rb rf M vs hT.dk hT.rd hT.sim (by intro Q; simp only [List.countP_append, List.countP_cons]; omega)) (fun v O' hp => ?_)
        obtain ⟨up, rfl, hup, N1, rfl⟩ := hp
        refine WXL.not (Met.some rfl rfl rfl) rfl ?_
        refine WXL.pick_f Met.none rfl rfl ?_
        refine WXL.nil ?_
        refine Fin.then_normal ?_
        refine WX.cond rfl (fun hc1 => ?_) (fun hc1 => ?_)
        · try simp only [cnd] at hc1
          exact absurd hup (by simpa using hc1) --end
        · try simp only [cnd] at hc1
          refine WX.skip ?_
          refine Fin.then_normal ?_
          refine WX.seq ?_
          refine WX.region rfl ?_
          refine WXL.move Met.none rfl ?_
          refine WXL.cl (O1 := _) Met.none rfl (fnOk_of Try.func23 (by decide +kernel)) rfl (fun _ h => h) (ops_ok _ more am cm hlm hm64 (hm.inc (by intro Q; simp only [List.countP_append, List.countP_cons]; omega))) (fun v O' hp => ?_)
          obtain ⟨ao, co, ops, G, N0, rfl, hG, rfl, hol, hok⟩ := hp
          refine WXL.assign Met.none rfl ?_
          refine WXL.nil ?_
          refine Fin.then_normal ?_
          refine WX.seq ?_
          refine WX.seq ?_
          refine WX.region rfl ?_
          refine WXL.assign Met.none rfl ?_
          refine WXL.nil ?_
          refine Fin.then_normal ?_
          refine WX.block ?_
          refine WX.re (O' := dkO dc bc D mx (dkO d bm D mx (rdO r rb rf M vs (G ++ (N0 ++ (N ++ O)))))) ?_
          refine WX.loop (fun q : CoQ => [(7, Ptr d 0), (8, Ptr r 0), (9, Ptr dc 0), (10, .slice ao ops.length co), (11, I (q.i : Int))]) (fun q => dkO dc bc q.D q.mx (dkO d bm D mx (rdO r rb rf M vs (G ++ (q.X ++ (N ++ O)))))) (fun q => q.i ≤ ops.length ∧ DkI (q.X ++ N) q.D q.mx ∧ Sim q.D (runR M (ops.take q.i)) ∧ q.D.room = k ∧ ∀ o ∈ ops, OpK (q.X ++ N) o) (fun q => ops.length - q.i) ⟨0, D, mx, N0⟩ ⟨Nat.zero_le _, hT.dk.app, hT.sim, hT.room, fun o ho => (hok o ho).inc fun g hg => hg.sub (by intro Q; simp only [List.countP_append]; omega)⟩ (fun s hs => hs.tl [] 0) (fun q hq => ?_)
          obtain ⟨i, D3, mx3, X⟩ := q
          obtain ⟨hi, hI3, hS3, hr3, hok3⟩ := hq
          simp only at hi hI3 hS3 hr3 hok3
          dsimp only
          refine WX.seq ?_
          refine WX.seq ?_
          refine WX.region rfl ?_
          refine WXL.move Met.none rfl ?_
          refine WXL.move Met.none rfl ?_
          refine WXL.len Met.none rfl Try.underlying44 ?_
          refine WXL.bin Met.none rfl rfl rfl ?_
          refine WXL.nil ?_
          refine Fin.then_normal ?_
          refine WX.cond rfl (fun hc2 => ?_) (fun hc2 => ?_)
          · try simp only [cnd] at hc2
            refine WX.skip ?_
            refine Fin.then_normal ?_
            refine WX.seq ?_
            refine WX.block ?_
            have hio : i < ops.length := by omega
            have hoN := hok3 _ (nth_mem hio)
            refine WX.region rfl ?_
            refine WXL.move Met.none rfl ?_
            refine WXL.move Met.none rfl ?_
            refine WXL.move Met.none rfl ?_
            first | refine WXL.ix Met.none rfl rfl elem44 sz48 ?_ | refine WXL.ixS Met.none rfl rfl elem44 sz48 ?_
            first | refine WXL.ldN Met.none rfl agg48 sz48 ?_ (hv := (cellsAt_flat encV_len _ _ hio)) | refine WXL.ldNS Met.none rfl agg48 sz48 ?_ (hv := (cellsAt_flat encV_len _ _ hio))
            refine WXL.cl (O1 := _) Met.none rfl (fnOk_of Try.func24 (by decide +kernel)) rfl (fun _ h => h) (do_ok _ dc bc D3 mx3 (nth ops i) hI3 (by intro Q; simp only [List.countP_append, List.countP_cons]; omega) (by rw [hr3]; omega) (hoN.inc fun g hg => hg.sub (by intro Q; simp only [List.countP_append, List.countP_cons]; omega))) (fun v O' hp => ?_)
            obtain ⟨e, D', mx', N', rfl, rfl, hD', hdo⟩ := hp
            refine WXL.nil ?_
            refine Fin.block_normal ?_
            refine Fin.then_normal ?_
            refine WX.re (O' := dkO dc bc D' mx' (dkO d bm D mx (rdO r rb rf M vs (G ++ ((N' ++ X) ++ (N ++ O)))))) ?_
            refine WX.region rfl ?_
            refine WXL.move Met.none rfl ?_
            refine WXL.bin Met.none rfl rfl bvA ?_
            refine WXL.assign Met.none rfl ?_
            refine WXL.nil ?_
            exact Fin.loop_next (⟨i + 1, D', mx', N' ++ X⟩ : CoQ) ⟨by simp only; omega, by simp only; rw [List.append_assoc]; exact hD', by simp only; rw [runR_succ hio]; exact (sim_do hS3 hI3 hdo).2, by simp only; rw [hdo.room]; exact hr3, fun o ho => by simp only; rw [List.append_assoc]; exact (hok3 o ho).app⟩ (by simp only; omega) (fun s hs => hs.tl [] 0)
          · try simp only [cnd] at hc2
            refine WX.exit ?_
            refine Fin.then_exit ?_
            refine Fin.loop_exit ?_
            refine Fin.block_hit rfl ?_
            refine Fin.then_normal ?_
            refine WX.seq ?_
            refine WX.seq ?_
            have hie : i = ops.length := by omega
            rw [hie, List.take_length] at hS3
            refine WX.region rfl ?_
            refine WXL.move Met.none rfl ?_
            refine WXL.move Met.none rfl ?_
            refine WXL.cl (O1 := dkO d bm D mx (rdO r rb rf M vs (dkO dc bc D3 mx3 (G ++ (X ++ (N ++ O)))))) Met.none rfl (fnOk_of Try.func26 (by decide +kernel)) rfl sub_ (same_ok _ d bm D mx r rb rf M vs hT.dk hT.rd hT.sim (by intro Q; simp only [List.countP_append, List.countP_cons]; omega)) (fun v O' hp => ?_)
            obtain ⟨up2, rfl, hup2, N4, rfl⟩ := hp
            refine WXL.not Met.none rfl ?_
            refine WXL.nil ?_
            refine Fin.then_normal ?_
            refine WX.cond rfl (fun hc3 => ?_) (fun hc3 => ?_)
            · try simp only [cnd] at hc3
              exact absurd hup2 (by simpa using hc3) --end
            · try simp only [cnd] at hc3
              refine WX.skip ?_
              refine Fin.then_normal ?_
              refine WX.seq ?_
              refine WX.region rfl ?_
              refine WXL.move Met.none rfl ?_
              refine WXL.cl (O1 := _) Met.none rfl (fnOk_of Try.func30 (by decide +kernel)) rfl (fun _ h => h) (copy_ok _ d bm D mx) (fun v O' hp => ?_)
              obtain ⟨da, ba, rfl, rfl⟩ := hp
              refine WXL.assign Met.none rfl ?_
              refine WXL.nil ?_
              refine Fin.then_normal ?_
              refine WX.seq ?_
              refine WX.seq ?_
              refine WX.region rfl ?_
              refine WXL.move Met.none rfl ?_
              refine WXL.eqNilP Met.none rfl rfl Try.underlying23 ?_
              refine WXL.nil ?_
              refine Fin.then_normal ?_
              refine WX.cond rfl (fun hc4 => ?_) (fun hc4 => ?_)
              · try simp only [cnd] at hc4
                exact (by simp at hc4) --end
              · try simp only [cnd] at hc4
                refine WX.skip ?_
                refine Fin.then_normal ?_
                refine WX.seq ?_
                refine WX.seq ?_
                refine WX.region rfl ?_
                refine WXL.assign Met.none rfl ?_
                refine WXL.nil ?_
                refine Fin.then_normal ?_
                refine WX.block ?_
                have hT0 : TwoI ops k (X ++ N) D mx M vs := ⟨hT.dk.app, hT.rd.app, hT.sim, hT.room, hok3⟩
                refine WX.re (O' := dkO da ba D mx (rdO r rb rf M vs (G ++ ((X ++ N) ++ (dkO dc bc D3 mx3 O))))) ?_
                refine WX.loop (fun q : TwoS => [(8, Ptr r 0), (9, Ptr dc 0), (10, .slice ao ops.length co), (12, Ptr da 0), (13, I (q.i : Int))]) (fun q => dkO da ba q.D q.mx (rdO r rb rf q.M q.vs (G ++ (q.N ++ (dkO dc bc D3 mx3 O))))) (fun q => q.i ≤ ops.length ∧ TwoI ops k q.N q.D q.mx q.M q.vs ∧ q.M = runR M (ops.take q.i) ∧ ∀ Q : Nat × Ent → Bool, (X ++ N).countP Q ≤ q.N.countP Q) (fun q => ops.length - q.i) ⟨0, D, mx, M, vs, X ++ N⟩ ⟨Nat.zero_le _, hT0, rfl, fun Q => Nat.le_refl _⟩ (fun s hs => hs.tl [] 0) (fun q hq => ?_)
                obtain ⟨j, D4, mx4, M4, vs4, N5⟩ := q
                obtain ⟨hj, hT4, hM4, hiX⟩ := hq
                simp only at hj hT4 hM4 hiX
                dsimp only
                refine WX.seq ?_
                refine WX.seq ?_
                refine WX.region rfl ?_
                refine WXL.move Met.none rfl ?_
                refine WXL.move Met.none rfl ?_
                refine WXL.len Met.none rfl Try.underlying44 ?_
                refine WXL.bin Met.none rfl rfl rfl ?_
                refine WXL.nil ?_
                refine Fin.then_normal ?_
                refine WX.cond rfl (fun hc5 => ?_) (fun hc5 => ?_)
                · try simp only [cnd] at hc5
                  refine WX.skip ?_
                  refine Fin.then_normal ?_
                  refine WX.seq ?_
                  refine WX.block ?_
                  refine WX.seq ?_
                  have hjo : j < ops.length := by omega
                  have hoN := hT4.ok _ (nth_mem hjo)
                  obtain ⟨b, rfl, rfl, hcl⟩ : ∃ b, ao = some ⟨b, 0, none⟩ ∧ G = [(b, ⟨5, false, flat encV ops⟩)] ∧ (flat encV ops).length = ops.length * 5 := by
                    rcases hG with ⟨_, q, _⟩ | ⟨b, q1, q2, q3⟩
                    · omega
                    · exact ⟨b, q1, q2, q3⟩
                  refine WX.drawE (fun _ => false) (fun j => Nat.beq j 10 || Nat.beq j 65546) [(b, true)] rfl (by decide +kernel) (by decide +kernel) (fun z hz => by rw [List.mem_singleton.1 hz]; exact ⟨⟨5, false, flat encV ops⟩, Knows.mem (by simp)⟩) ?_
                  refine WXL.move Met.none rfl ?_
                  refine WXL.move Met.none rfl ?_
                  refine WXL.move Met.none rfl ?_
                  first | refine WXL.ix Met.none rfl rfl elem44 sz48 ?_ | refine WXL.ixS Met.none rfl rfl elem44 sz48 ?_
                  first | refine WXL.ldN Met.none rfl agg48 sz48 ?_ (hv := (cellsAt_flat encV_len _ _ hjo)) | refine WXL.ldNS Met.none rfl agg48 sz48 ?_ (hv := (cellsAt_flat encV_len _ _ hjo))
                  refine WXL.clZ (O1 := _) Met.none rfl (fnOk_of Try.func24 (by decide +kernel)) rfl (fun _ h => h) (do_ok _ da ba D4 mx4 (nth ops j) hT4.dk (by intro Q; simp only [List.countP_append, List.countP_cons]; omega) (by rw [hT4.room]; omega) (hoN.inc fun g hg => hg.sub (by intro Q; simp only [List.countP_append, List.countP_cons]; omega))) (fun v O' hp z hz => by rw [List.mem_singleton.1 hz]; obtain ⟨e, D', mx', N', _, rfl, _⟩ := hp; exact ⟨⟨5, false, flat encV ops⟩, Knows.mem (by simp), Knows.mem (by simp)⟩) (fun v O' hp => ?_)
                  obtain ⟨e, D', mx', N', rfl, rfl, hD', hdo⟩ := hp
                  refine WXL.move Met.none rfl ?_
                  refine WXL.move Met.none rfl ?_
                  refine WXL.move Met.none rfl ?_
                  first | refine WXL.ix Met.none rfl rfl elem44 sz48 ?_ | refine WXL.ixS Met.none rfl rfl elem44 sz48 ?_
                  refine WXL.earlyN (e := ⟨5, false, flat encV ops⟩) Met.none rfl (Knows.mem (by simp)) agg48 sz48 (cellsAt_flat encV_len _ _ hjo) (fun h hs => hoN.low (hs.sub (by intro Q; simp only [List.countP_append, List.countP_cons]; omega))) (by simp) ?_
                  refine WXL.clZ (O1 := rdO r rb rf M4 vs4 (dkO da ba D' mx' ([(b, ⟨5, false, flat encV ops⟩)] ++ (N' ++ (N5 ++ (dkO dc bc D3 mx3 O)))))) Met.none rfl (fnOk_of Try.func25 (by decide +kernel)) rfl sub_ (rdo_ok _ r rb rf M4 vs4 (nth ops j) hT4.rd (by intro Q; simp only [List.countP_append, List.countP_cons]; omega) (hoN.inc fun g hg => hg.sub (by intro Q; simp only [List.countP_append, List.countP_cons]; omega))) (fun v O' hp z hz => by rw [List.mem_singleton.1 hz]; obtain ⟨vs', N2, _, rfl, _⟩ := hp; exact ⟨⟨5, false, flat encV ops⟩, Knows.mem (by simp), Knows.mem (by simp)⟩) (fun v O' hp => ?_)
                  obtain ⟨vs', N2, rfl, rfl, hM'⟩ := hp
                  obtain ⟨he, hT5⟩ := hT4.both hdo hD' hM'
                  rw [he]
                  refine WXL.bin Met.none rfl rfl rfl ?_
                  refine WXL.nil ?_
                  refine Fin.then_normal ?_
                  refine WX.cond rfl (fun hc6 => ?_) (fun hc6 => ?_)
                  · try simp only [cnd] at hc6
                    exact (by simp at hc6) --end
                  · try simp only [cnd] at hc6
                    refine WX.skip ?_
                    refine Fin.block_normal ?_
                    refine Fin.then_normal ?_
                    refine WX.re (O' := dkO da ba D' mx' (rdO r rb rf (doR M4 (nth ops j)).2 vs' ([(b, ⟨5, false, flat encV ops⟩)] ++ ((N2 ++ (N' ++ N5)) ++ (dkO dc bc D3 mx3 O))))) ?_
                    refine WX.region rfl ?_
                    refine WXL.move Met.none rfl ?_
                    refine WXL.bin Met.none rfl rfl bvA ?_
                    refine WXL.assign Met.none rfl ?_
                    refine WXL.nil ?_
                    exact Fin.loop_next (⟨j + 1, D', mx', (doR M4 (nth ops j)).2, vs', N2 ++ (N' ++ N5)⟩ : TwoS) ⟨by simp only; omega, hT5, by simp only; rw [hM4, runR_succ hjo], fun Q => by have := hiX Q; simp only [List.countP_append] at this ⊢; omega⟩ (by simp only; omega) (fun s hs => hs.tl [] 0)
                · try simp only [cnd] at hc5
                  refine WX.exit ?_
                  refine Fin.then_exit ?_
                  refine Fin.loop_exit ?_
                  refine Fin.block_hit rfl ?_
                  refine Fin.then_normal ?_
                  refine WX.seq ?_
                  have hje : j = ops.length := by omega
                  rw [hje, List.take_length] at hM4
                  have hS4 : Sim D3 M4 := by rw [hM4]; exact hS3
                  refine WX.region rfl ?_
                  refine WXL.move Met.none rfl ?_
                  refine WXL.move Met.none rfl ?_
                  refine WXL.cl (O1 := _) Met.none rfl (fnOk_of Try.func26 (by decide +kernel)) rfl (fun _ h => h) (same_ok _ da ba D4 mx4 r rb rf M4 vs4 hT4.dk hT4.rd hT4.sim (by intro Q; simp only [List.countP_append, List.countP_cons]; omega)) (fun v O' hp => ?_)
                  obtain ⟨up3, rfl, hup3, N6, rfl⟩ := hp
                  refine WXL.move Met.none rfl ?_
                  refine WXL.split (d := 80) rfl (fun hg80 => ?_) (fun hg80 => ?_)
                  · try simp only [cnd] at hg80
                    refine WXL.move (Met.some rfl rfl rfl) rfl ?_
                    refine WXL.move (Met.some rfl rfl rfl) rfl ?_
                    refine WXL.cl (O1 := dkO dc bc D3 mx3 (rdO r rb rf M4 vs4 (N5 ++ (N6 ++ (G ++ (dkO da ba D4 mx4 O)))))) (Met.some rfl rfl rfl) rfl (fnOk_of Try.func26 (by decide +kernel)) rfl sub_ (same_ok _ dc bc D3 mx3 r rb rf M4 vs4 (hI3.inc fun g hg => hg.sub hiX) hT4.rd hS4 (by intro Q; simp only [List.countP_append, List.countP_cons]; omega)) (fun v O' hp => ?_)
                    obtain ⟨up4, rfl, hup4, N7, rfl⟩ := hp
                    refine WXL.pick_t Met.none rfl rfl ?_
                    refine WXL.move Met.none rfl ?_
                    refine WXL.split (d := 85) rfl (fun hg85 => ?_) (fun hg85 => ?_)
                    · try simp only [cnd] at hg85
                      refine WXL.cl (O1 := _) (Met.some rfl rfl rfl) rfl (fnOk_of Try.func19 (by decide +kernel)) rfl (fun _ h => h) (lives_ok _) (fun v O' hp => ?_)
                      obtain ⟨rfl, hO⟩ := hp
                      subst O'
                      refine WXL.pick_t Met.none rfl rfl ?_
                      refine WXL.assign Met.none rfl ?_
                      refine WXL.nil ?_
                      refine Fin.then_normal ?_
                      refine WX.ret ?_
                      exact Fin.result (O' := []) (.inr rfl) rfl rfl (fun _ hs => ⟨by simp, fun p hp => by simp at hp, hs.wf⟩) (by first | rfl | (simp [tupleA]))
                    · try simp only [cnd] at hg85
                      exact absurd hup4 (by rw [hg85]; simp) --end
                  · try simp only [cnd] at hg80
                    exact absurd hup3 (by rw [hg80]; simp) --end

end Go.Proofs.Ytahaplbdhgfobaa.Eng

/- Cuts, walked; the documented example. Own work; no condition. -/
import Derived.Test.YtjmklialkjncaaaFlY
import Derived.Test.YtjmklialkjncaaaFlW
set_option linter.unusedVariables false
set_option linter.unusedSimpArgs false
namespace Go.Proofs.Ytjmklialkjncaaa.Eng

abbrev Bl (b : Bool) : Value := .bool b

theorem sides_ok (O : Objs) (l m : List Bool) (a b : Option Addr) (c e : Nat) (hlen : Short l) (hl : Src O 1 (.slice a l.length c) l.length (l.map Bl)) (hm : Src O 1 (.slice b m.length e) m.length (m.map Bl)) :
    Spec Try.prog true 25 #[.slice a l.length c, .slice b m.length e] O fun v O' => v = .bool (decide (l = m)) ∧ O' = O := by
  unfold Short at hlen
  refine Spec.enter (args := [_, _]) (m := 26) Try.func25 rfl rfl (by decide +kernel) fun h0 => ?_
  refine WX.seq ?_
  refine WX.region rfl ?_
  refine WXL.assign Met.none rfl ?_
  refine WXL.nil ?_
  refine Fin.then_normal ?_
  refine WX.seq ?_
  refine WX.seq ?_
  refine WX.region rfl ?_
  refine WXL.move Met.none rfl ?_
  refine WXL.len Met.none rfl Try.underlying46 ?_
  refine WXL.move Met.none rfl ?_
  refine WXL.len Met.none rfl Try.underlying46 ?_
  refine WXL.bin Met.none rfl rfl rfl ?_
  refine WXL.nil ?_
  refine Fin.then_normal ?_
  refine WX.cond rfl (fun hc0 => ?_) (fun hc0 => ?_)
  · try simp only [cnd] at hc0
    refine WX.seq ?_
    refine WX.region rfl ?_
    refine WXL.assign Met.none rfl ?_
    refine WXL.nil ?_
    refine Fin.then_normal ?_
    refine WX.ret ?_
    refine Fin.then_ret ?_
    refine Fin.result (.inr rfl) rfl rfl (fun _ h => h) ⟨?_, rfl⟩
    first
    | exact bool_false (fun h => hc0 (by rw [h]))
    | exact bool_false (fun h => by rw [h] at hc2; simp at hc2)
    | exact bool_true (by
        have e1 : k = l.length := by omega
        have e2 := hk.2
        rw [e1, List.take_length, List.take_of_length_le (by omega)] at e2
        exact e2)
  · try simp only [cnd] at hc0
    refine WX.skip ?_
    refine Fin.then_normal ?_
    refine WX.seq ?_
    refine WX.seq ?_
    refine WX.region rfl ?_
    refine WXL.assign Met.none rfl ?_
    refine WXL.nil ?_
    refine Fin.then_normal ?_
    refine WX.block ?_
    refine WX.loop (fun k : Nat => [(0, .slice a l.length c), (1, .slice b m.length e), (5, I k)]) (fun _ => O) (fun k => k ≤ l.length ∧ l.take k = m.take k) (fun k => l.length - k) 0 ⟨Nat.zero_le _, rfl⟩ (fun s hs => hs.tl [] 0) (fun k hk => ?_)
    refine WX.seq ?_
    refine WX.seq ?_
    refine WX.region rfl ?_
    refine WXL.move Met.none rfl ?_
    refine WXL.move Met.none rfl ?_
    refine WXL.len Met.none rfl Try.underlying46 ?_
    refine WXL.bin Met.none rfl rfl rfl ?_
    refine WXL.nil ?_
    refine Fin.then_normal ?_
    refine WX.cond rfl (fun hc1 => ?_) (fun hc1 => ?_)
    · try simp only [cnd] at hc1
      refine WX.skip ?_
      refine Fin.then_normal ?_
      refine WX.seq ?_
      refine WX.block ?_
      refine WX.seq ?_
      have hkl : k < l.length := by omega
      have hkm : k < m.length := by omega
      refine WX.draw rfl ?_
      refine WXL.move Met.none rfl ?_
      refine WXL.move Met.none rfl ?_
      first | refine WXL.ix Met.none rfl rfl elem46 sz4 ?_ | refine WXL.ixS Met.none rfl rfl elem46 sz4 ?_
      first | refine WXL.ld Met.none rfl agg4 ?_ (hv := (cell_map Bl l k hkl)) | refine WXL.ldS Met.none rfl agg4 ?_ (hv := (cell_map Bl l k hkl))
      refine WXL.move Met.none rfl ?_
      refine WXL.move Met.none rfl ?_
      first | refine WXL.ix Met.none rfl rfl elem46 sz4 ?_ | refine WXL.ixS Met.none rfl rfl elem46 sz4 ?_
      first | refine WXL.ld Met.none rfl agg4 ?_ (hv := (cell_map Bl m k hkm)) | refine WXL.ldS Met.none rfl agg4 ?_ (hv := (cell_map Bl m k hkm))
      refine WXL.neB Met.none rfl rfl Try.underlying4 ?_
      refine WXL.nil ?_
      refine Fin.then_normal ?_
      refine WX.cond rfl (fun hc2 => ?_) (fun hc2 => ?_)
      · try simp only [cnd] at hc2
        refine WX.seq ?_
        refine WX.region rfl ?_
        refine WXL.assign Met.none rfl ?_
        refine WXL.nil ?_
        refine Fin.then_normal ?_
        refine WX.ret ?_
        refine Fin.block_ret ?_
        refine Fin.then_ret ?_
        refine Fin.loop_ret ?_
        refine Fin.block_ret ?_
        refine Fin.then_ret ?_
        refine Fin.result (.inr rfl) rfl rfl (fun _ h => h) ⟨?_, rfl⟩
        first
        | exact bool_false (fun h => hc0 (by rw [h]))
        | exact bool_false (fun h => by rw [h] at hc2; simp at hc2)
        | exact bool_true (by
            have e1 : k = l.length := by omega
            have e2 := hk.2
            rw [e1, List.take_length, List.take_of_length_le (by omega)] at e2
            exact e2)
      · try simp only [cnd] at hc2
        refine WX.skip ?_
        refine Fin.block_normal ?_
        refine Fin.then_normal ?_
        refine WX.region rfl ?_
        refine WXL.move Met.none rfl ?_
        refine WXL.bin Met.none rfl rfl bvA ?_
        refine WXL.assign Met.none rfl ?_
        refine WXL.nil ?_
        refine Fin.loop_next (k + 1) ⟨by omega, ?_⟩ (by omega) (fun s hs => hs.tl [] 0)
        rw [take_succ_nth (by omega), take_succ_nth (by omega), hk.2, show nth l k = nth m k from by first | exact hc2 | simpa using hc2]
    · try simp only [cnd] at hc1
      refine WX.exit ?_
      refine Fin.then_exit ?_
      refine Fin.loop_exit ?_
      refine Fin.block_hit rfl ?_
      refine Fin.then_normal ?_
      refine WX.seq ?_
      refine WX.region rfl ?_
      refine WXL.assign Met.none rfl ?_
      refine WXL.nil ?_
      refine Fin.then_normal ?_
      refine WX.ret ?_
      refine Fin.result (.inr rfl) rfl rfl (fun _ h => h) ⟨?_, rfl⟩
      first
      | exact bool_false (fun h => hc0 (by rw [h]))
      | exact bool_false (fun h => by rw [h] at hc2; simp at hc2)
      | exact bool_true (by
          have e1 : k = l.length := by omega
          have e2 := hk.2
          rw [e1, List.take_length, List.take_of_length_le (by omega)] at e2
          exact e2)

/-- The nodes that a search has reached. -/
def reach (n : Net4) (f : List Int) : List Bool := (searchR n f false).map fun i => decide (i ≠ -2)

def CutR (n : Net4) (f : List Int) (s : List Bool) (e : Int) : Prop := ∃ k, Wrong n k ∧ (k ≠ 0 → s = [] ∧ e = k) ∧ (k = 0 → ¬ FlowOk n f → s = [] ∧ e = 1) ∧
  (k = 0 → FlowOk n f → nth (searchR n f false) n.sink.toNat ≠ -2 → s = [] ∧ e = 17) ∧ (k = 0 → FlowOk n f → nth (searchR n f false) n.sink.toNat = -2 → s = reach n f ∧ e = 0)

theorem CutR.uniq {n : Net4} {f : List Int} {s s' : List Bool} {e e' : Int} (h : CutR n f s e) (h' : CutR n f s' e') : s = s' ∧ e = e' := by
  obtain ⟨k, h1, h2, h3, h4, h5⟩ := h
  obtain ⟨k', g1, g2, g3, g4, g5⟩ := h'
  have ek := h1.uniq g1
  subst ek
  have key : ∀ {x : List Bool} {y : Int}, (s = x ∧ e = y) → (s' = x ∧ e' = y) → s = s' ∧ e = e' := fun a b => ⟨a.1.trans b.1.symm, a.2.trans b.2.symm⟩
  by_cases hk : k = 0
  · by_cases hf : FlowOk n f
    · by_cases hs : nth (searchR n f false) n.sink.toNat = -2
      · exact key (h5 hk hf hs) (g5 hk hf hs)
      · exact key (h4 hk hf hs) (g4 hk hf hs)
    · exact key (h3 hk hf) (g3 hk hf)
  · exact key (h2 hk) (g2 hk)

theorem seenL_map (S : BS) : seenL S = S.by_.map fun i => decide (i ≠ -2) := by
  unfold seenL
  refine ext_nth (by rw [genOf_len, List.length_map]) fun j hj => ?_
  rw [genOf_len] at hj
  rw [nth_genOf seenF hj, nth_map hj]
  rfl

def CutOut (n : Net4) (f : List Int) (O : Objs) (v : Value) (O' : Objs) : Prop := ∃ s e a' c' G, v = .tuple #[.slice a' s.length c', I e] ∧ CutR n f s e ∧ Grow 1 a' s.length c' (s.map Bl) G ∧ O' = G ++ O

theorem cut_ok (O : Objs) (n : Net4) (f : List Int) (a af : Option Addr) (c cf : Nat) (hlen : n.edges.length ≤ 1000000) (hl : Edges O n a c) (hf : Src O 1 (.slice af f.length cf) f.length (f.map I)) :
    Spec Try.prog false 22 #[netV n a c, .slice af f.length cf] O (CutOut n f O) := by
  refine Spec.enter (args := [_, _]) (m := 35) Try.func22 rfl rfl (by decide +kernel) fun h0 => ?_
  refine WX.seq ?_
  refine WX.region rfl ?_
  refine WXL.box (c := [_, _, _, _]) Met.none rfl rfl rfl (fun b2 => ?_)
  refine WXL.assign Met.none rfl ?_
  refine WXL.assign Met.none rfl ?_
  refine WXL.nil ?_
  refine Fin.then_normal ?_
  refine WX.seq ?_
  refine WX.seq ?_
  refine WX.region rfl ?_
  refine WXL.ldN (vs := [_, _, _, _]) Met.none rfl agg36 sz36 ?_
  refine WXL.move Met.none rfl ?_
  refine WXL.cl (O1 := _) Met.none rfl (fnOk_of Try.func23 (by decide +kernel)) rfl (fun _ h => h) (value_ok _ n f a af c cf hlen src_ src_) (fun v O' hp => ?_)
  obtain ⟨x, e, rfl, hv, rfl⟩ := hp
  refine WXL.move Met.none rfl ?_
  refine WXL.extract Met.none rfl rfl ?_
  refine WXL.extract Met.none rfl rfl ?_
  refine WXL.assign Met.none rfl ?_
  refine WXL.assign Met.none rfl ?_
  refine WXL.nil ?_
  refine Fin.then_normal ?_
  refine WX.seq ?_
  refine WX.region rfl ?_
  refine WXL.move Met.none rfl ?_
  refine WXL.bin Met.none rfl rfl rfl ?_
  refine WXL.nil ?_
  refine Fin.then_normal ?_
  refine WX.cond rfl (fun hc0 => ?_) (fun hc0 => ?_)
  · try simp only [cnd] at hc0
    refine WX.seq ?_
    refine WX.region rfl ?_
    refine WXL.move Met.none rfl ?_
    refine WXL.assign Met.none rfl ?_
    refine WXL.assign Met.none rfl ?_
    refine WXL.nil ?_
    refine Fin.then_normal ?_
    refine WX.ret ?_
    refine Fin.then_ret ?_
    first
    | exact Fin.result (O' := [] ++ O) (.inr rfl) rfl rfl drop_ ⟨[], e, none, 0, [], rfl, by
        obtain ⟨k, hk, hv1, hv2⟩ := hv
        refine ⟨k, hk, fun q => ⟨rfl, (hv1 q).2⟩, fun q1 q2 => ?_, fun q1 q2 => ?_, fun q1 q2 => ?_⟩
        · rcases hv2 q1 with r | r
          · exact absurd r.1 q2
          · exact ⟨rfl, r.2.2⟩
        · rcases hv2 q1 with r | r
          · exact absurd r.2.2 hc0
          · exact absurd q2 r.1
        · rcases hv2 q1 with r | r
          · exact absurd r.2.2 hc0
          · exact absurd q2 r.1, .nil, rfl⟩
    | exact Fin.result (O' := [] ++ O) (.inr rfl) rfl rfl (fun _ hs => (Sat.told (O' := Gs.flatten ++ O) [] 5 (by decide) (by decide) rfl hs).app_right) ⟨[], 17, none, 0, [], rfl, by
        have h2 : nth (searchR n f false) n.sink.toNat ≠ -2 := by
          rw [hS]
          rw [hsn] at hc1
          exact of_decide_eq_true hc1
        exact ⟨0, hk, fun q => absurd rfl q, fun _ q => absurd hfo q, fun _ _ _ => ⟨rfl, rfl⟩, fun _ _ q => absurd q h2⟩, .nil, rfl⟩
    | exact Fin.result (O' := [(bS, ⟨1, false, (seenL S).map Bl⟩)] ++ O) (.inr rfl) rfl (vs := [.slice (some ⟨bS, 0, none⟩) (seenL S).length n.nodes.toNat, I 0]) (by rw [show (seenL S).length = n.nodes.toNat by omega]; rfl) (fun _ hs => Sat.mid (G := [_]) (A := Gs.flatten) (Sat.told [0] 5 (by decide) (by decide) rfl hs)) ⟨seenL S, 0, _, _, [_], rfl, by
        have h2 : nth (searchR n f false) n.sink.toNat = -2 := by
          rw [hS]
          rw [hsn] at hc1
          have := of_decide_eq_false hc1
          omega
        exact ⟨0, hk, fun q => absurd rfl q, fun _ q => absurd hfo q, fun _ _ q => absurd h2 q, fun _ _ _ => ⟨by unfold reach; rw [hS, seenL_map], rfl⟩⟩, .row (by simp), rfl⟩
  · try simp only [cnd] at hc0
    refine WX.skip ?_
    refine Fin.then_normal ?_
    refine WX.seq ?_
    have he0 : e = 0 := by omega
    subst he0
    obtain ⟨k, hk, hv1, hv2⟩ := hv
    have hk0 : k = 0 := by
      by_cases q : k = 0
      · exact q
      · have := (hv1 q).2; omega
    subst hk0
    have hfo : FlowOk n f := by
      rcases hv2 rfl with q | q
      · exact q.1
      · have := q.2.2; omega
    have hn := hk.sound
    have hnn := hn.nodes
    have hnk := hn.sink
    refine WX.draw rfl ?_
    refine WXL.ldN (vs := [_, _, _, _]) Met.none rfl agg36 sz36 ?_
    refine WXL.move Met.none rfl ?_
    refine WXL.ldN (vs := [_, _, _, _]) Met.none rfl agg36 sz36 ?_
    refine WXL.cl (O1 := _) Met.none rfl (fnOk_of Try.func36 (by decide +kernel)) rfl (fun _ h => h) (arcs_q _ n a c hn src_) (fun v O' hp => ?_)
    obtain ⟨bA, cA, A, C, Gs, rfl, hR, rfl⟩ := hp
    refine WXL.of (fun s hs => St.swap (G := (bA, _) :: Gs.flatten) [_] hs) ?_
    refine WXL.cl (O1 := _) Met.none rfl (fnOk_of Try.func37 (by decide +kernel)) rfl (fun _ h => h) (search_ok _ n f false a _ _ c _ _ A C hn hfo.1 src_ src_ (Src.whole at_ (by rw [rows_len]; omega)) (fun u hu => Src.cons (Src.cons (hR.src _ hu)))) (fun v O' hp => ?_)
    obtain ⟨S, bB, bF, bS, hS, hSl, rfl, rfl⟩ := hp
    refine WXL.move Met.none rfl ?_
    refine WXL.extract Met.none rfl rfl ?_
    refine WXL.extract Met.none rfl rfl ?_
    refine WXL.extract Met.none rfl rfl ?_
    refine WXL.assign Met.none rfl ?_
    refine WXL.assign Met.none rfl ?_
    refine WXL.assign Met.none rfl ?_
    refine WXL.nil ?_
    refine Fin.then_normal ?_
    refine WX.seq ?_
    refine WX.seq ?_
    have hsL : (seenL S).length = S.by_.length := genOf_len _ _
    have hsn := seen_nth (S := S) (v := n.sink.toNat) (by omega)
    refine WX.region rfl ?_
    refine WXL.move Met.none rfl ?_
    refine WXL.fieldAddr (off' := 2) Met.none rfl Try.underlying36 rfl sz3 rfl ?_
    first | refine WXL.ld Met.none rfl agg3 ?_ | refine WXL.ldS Met.none rfl agg3 ?_
    first | refine WXL.ix Met.none rfl rfl elem46 sz4 ?_ | refine WXL.ixS Met.none rfl rfl elem46 sz4 ?_
    first | refine WXL.ld Met.none rfl agg4 ?_ (hv := (cell_map Bl (seenL S) n.sink.toNat (by omega))) | refine WXL.ldS Met.none rfl agg4 ?_ (hv := (cell_map Bl (seenL S) n.sink.toNat (by omega)))
    refine WXL.nil ?_
    refine Fin.then_normal ?_
    refine WX.cond rfl (fun hc1 => ?_) (fun hc1 => ?_)
    · try simp only [cnd] at hc1
      refine WX.seq ?_
      refine WX.region rfl ?_
      refine WXL.assign Met.none rfl ?_
      refine WXL.assign Met.none rfl ?_
      refine WXL.nil ?_
      refine Fin.then_normal ?_
      refine WX.ret ?_
      refine Fin.then_ret ?_
      first
      | exact Fin.result (O' := [] ++ O) (.inr rfl) rfl rfl drop_ ⟨[], e, none, 0, [], rfl, by
          obtain ⟨k, hk, hv1, hv2⟩ := hv
          refine ⟨k, hk, fun q => ⟨rfl, (hv1 q).2⟩, fun q1 q2 => ?_, fun q1 q2 => ?_, fun q1 q2 => ?_⟩
          · rcases hv2 q1 with r | r
            · exact absurd r.1 q2
            · exact ⟨rfl, r.2.2⟩
          · rcases hv2 q1 with r | r
            · exact absurd r.2.2 hc0
            · exact absurd q2 r.1
          · rcases hv2 q1 with r | r
            · exact absurd r.2.2 hc0
            · exact absurd q2 r.1, .nil, rfl⟩
      | exact Fin.result (O' := [] ++ O) (.inr rfl) rfl rfl (fun _ hs => (Sat.told (O' := Gs.flatten ++ O) [] 5 (by decide) (by decide) rfl hs).app_right) ⟨[], 17, none, 0, [], rfl, by
          have h2 : nth (searchR n f false) n.sink.toNat ≠ -2 := by
            rw [hS]
            rw [hsn] at hc1
            exact of_decide_eq_true hc1
          exact ⟨0, hk, fun q => absurd rfl q, fun _ q => absurd hfo q, fun _ _ _ => ⟨rfl, rfl⟩, fun _ _ q => absurd q h2⟩, .nil, rfl⟩
      | exact Fin.result (O' := [(bS, ⟨1, false, (seenL S).map Bl⟩)] ++ O) (.inr rfl) rfl (vs := [.slice (some ⟨bS, 0, none⟩) (seenL S).length n.nodes.toNat, I 0]) (by rw [show (seenL S).length = n.nodes.toNat by omega]; rfl) (fun _ hs => Sat.mid (G := [_]) (A := Gs.flatten) (Sat.told [0] 5 (by decide) (by decide) rfl hs)) ⟨seenL S, 0, _, _, [_], rfl, by
          have h2 : nth (searchR n f false) n.sink.toNat = -2 := by
            rw [hS]
            rw [hsn] at hc1
            have := of_decide_eq_false hc1
            omega
          exact ⟨0, hk, fun q => absurd rfl q, fun _ q => absurd hfo q, fun _ _ q => absurd h2 q, fun _ _ _ => ⟨by unfold reach; rw [hS, seenL_map], rfl⟩⟩, .row (by simp), rfl⟩
    · try simp only [cnd] at hc1
      refine WX.skip ?_
      refine Fin.then_normal ?_
      refine WX.seq ?_
      refine WX.region rfl ?_
      refine WXL.move Met.none rfl ?_
      refine WXL.assign Met.none rfl ?_
      refine WXL.assign Met.none rfl ?_
      refine WXL.nil ?_
      refine Fin.then_normal ?_
      refine WX.ret ?_
      first
      | exact Fin.result (O' := [] ++ O) (.inr rfl) rfl rfl drop_ ⟨[], e, none, 0, [], rfl, by
          obtain ⟨k, hk, hv1, hv2⟩ := hv
          refine ⟨k, hk, fun q => ⟨rfl, (hv1 q).2⟩, fun q1 q2 => ?_, fun q1 q2 => ?_, fun q1 q2 => ?_⟩
          · rcases hv2 q1 with r | r
            · exact absurd r.1 q2
            · exact ⟨rfl, r.2.2⟩
          · rcases hv2 q1 with r | r
            · exact absurd r.2.2 hc0
            · exact absurd q2 r.1
          · rcases hv2 q1 with r | r
            · exact absurd r.2.2 hc0
            · exact absurd q2 r.1, .nil, rfl⟩
      | exact Fin.result (O' := [] ++ O) (.inr rfl) rfl rfl (fun _ hs => (Sat.told (O' := Gs.flatten ++ O) [] 5 (by decide) (by decide) rfl hs).app_right) ⟨[], 17, none, 0, [], rfl, by
          have h2 : nth (searchR n f false) n.sink.toNat ≠ -2 := by
            rw [hS]
            rw [hsn] at hc1
            exact of_decide_eq_true hc1
          exact ⟨0, hk, fun q => absurd rfl q, fun _ q => absurd hfo q, fun _ _ _ => ⟨rfl, rfl⟩, fun _ _ q => absurd q h2⟩, .nil, rfl⟩
      | exact Fin.result (O' := [(bS, ⟨1, false, (seenL S).map Bl⟩)] ++ O) (.inr rfl) rfl (vs := [.slice (some ⟨bS, 0, none⟩) (seenL S).length n.nodes.toNat, I 0]) (by rw [show (seenL S).length = n.nodes.toNat by omega]; rfl) (fun _ hs => Sat.mid (G := [_]) (A := Gs.flatten) (Sat.told [0] 5 (by decide) (by decide) rfl hs)) ⟨seenL S, 0, _, _, [_], rfl, by
          have h2 : nth (searchR n f false) n.sink.toNat = -2 := by
            rw [hS]
            rw [hsn] at hc1
            have := of_decide_eq_false hc1
            omega
          exact ⟨0, hk, fun q => absurd rfl q, fun _ q => absurd hfo q, fun _ _ q => absurd h2 q, fun _ _ _ => ⟨by unfold reach; rw [hS, seenL_map], rfl⟩⟩, .row (by simp), rfl⟩

/-- The documented example. -/
def netL : Net4 := ⟨4, 0, 3, [⟨0, 1, 3, 0⟩, ⟨0, 2, 2, 0⟩, ⟨1, 2, 5, 0⟩, ⟨1, 3, 2, 0⟩, ⟨2, 3, 3, 0⟩]⟩

theorem netL_sound : Sound netL := by
  refine ⟨by decide, by decide, by decide, by decide, by decide, fun i hi => ?_⟩
  have : i = 0 ∨ i = 1 ∨ i = 2 ∨ i = 3 ∨ i = 4 := by
    have : i < 5 := hi
    omega
  rcases this with rfl | rfl | rfl | rfl | rfl <;> decide

theorem Sound.wrong {n : Net4} (h : Sound n) {k : Int} (hk : Wrong n k) : k = 0 := by
  refine hk.uniq (.inr (.inr (.inr ⟨?_, ?_, ?_, rfl⟩)))
  · have := h.nodes; have := h.len; unfold Bad4; omega
  · have := h.nodes; have := h.source; have := h.sink; have := h.ne; unfold Bad1; omega
  · rintro ⟨i, hi, hb⟩; exact h.edge i hi hb

theorem netL_max : MaxTo netL (zeros netL) 0 (5, [3, 2, 1, 2, 3]) := by
  refine MaxTo.more (p := [(3, 3), (0, 1)]) ?_ (MaxTo.more (p := [(4, 3), (1, 2)]) ?_ (MaxTo.more (p := [(4, 3), (2, 2), (0, 1)]) ?_ (MaxTo.done ?_)))
  · exact .step (by decide) (by decide) (by decide +kernel) (by decide) (by decide) (by decide) (by decide) (by decide) (.step (by decide) (by decide) (by decide +kernel) (by decide) (by decide) (by decide) (by decide) (by decide) .root)
  · exact .step (by decide) (by decide) (by decide +kernel) (by decide) (by decide) (by decide) (by decide) (by decide) (.step (by decide) (by decide) (by decide +kernel) (by decide) (by decide) (by decide) (by decide) (by decide) .root)
  · exact .step (by decide) (by decide) (by decide +kernel) (by decide) (by decide) (by decide) (by decide) (by decide) (.step (by decide) (by decide) (by decide +kernel) (by decide) (by decide) (by decide) (by decide) (by decide) (.step (by decide) (by decide) (by decide +kernel) (by decide) (by decide) (by decide) (by decide) (by decide) .root))
  · decide +kernel

theorem netL_flow : FlowOk netL [3, 2, 1, 2, 3] := by
  refine ⟨⟨rfl, fun i hi => ?_⟩, fun v h0 h1 h2 h3 => ?_⟩
  · have : i = 0 ∨ i = 1 ∨ i = 2 ∨ i = 3 ∨ i = 4 := by
      have : i < 5 := hi
      omega
    rcases this with rfl | rfl | rfl | rfl | rfl <;> decide
  · have h1' : v < 4 := h1
    have h2' : v ≠ 0 := h2
    have h3' : v ≠ 3 := h3
    have : v = 1 ∨ v = 2 := by omega
    rcases this with rfl | rfl <;> decide

theorem netL_cut {s : List Bool} {e : Int} (h : CutR netL [3, 2, 1, 2, 3] s e) : s = [true, false, false, false] ∧ e = 0 := by
  obtain ⟨k, h1, _, _, _, h5⟩ := h
  obtain ⟨a, b⟩ := h5 (netL_sound.wrong h1) netL_flow (by decide +kernel)
  exact ⟨a.trans (by decide +kernel), b⟩

theorem lives_ok (O : Objs) : Spec Try.prog false 19 #[] O fun v O' => v = .bool true ∧ O' = O := by
  refine Spec.enter (args := []) (m := 46) Try.func19 rfl rfl (by decide +kernel) fun h0 => ?_
  refine WX.seq ?_
  refine WX.region rfl ?_
  refine WXL.assign Met.none rfl ?_
  refine WXL.nil ?_
  refine Fin.then_normal ?_
  refine WX.seq ?_
  refine WX.region rfl ?_
  refine WXL.build (c := [_, _, _, _]) Met.none rfl zero44 places44 rfl ?_
  refine WXL.build (c := [_, _, _, _]) Met.none rfl zero44 places44 rfl ?_
  refine WXL.build (c := [_, _, _, _]) Met.none rfl zero44 places44 rfl ?_
  refine WXL.build (c := [_, _, _, _]) Met.none rfl zero44 places44 rfl ?_
  refine WXL.build (c := [_, _, _, _]) Met.none rfl zero44 places44 rfl ?_
  refine WXL.buildSlice (c := [_, _, _, _, _, _, _, _, _, _, _, _, _, _, _, _, _, _, _, _]) Met.none rfl elem34 sz44 zero44 (by decide) (by decide) rfl rfl rfl rfl (fun b12 => ?_)
  refine WXL.build (c := [_, _, _, _]) Met.none rfl zero36 places36 rfl ?_
  refine WXL.alloc (c := [_, _, _, _]) Met.none zero36 rfl (fun b1 => ?_)
  refine WXL.st (vs := [_, _, _, _]) (c' := [_, _, _, _]) Met.none rfl rfl rfl sz36 ?_
  refine WXL.nil ?_
  refine Fin.then_normal ?_
  refine WX.seq ?_
  refine WX.region rfl ?_
  refine WXL.ldN (vs := [_, _, _, _]) Met.none rfl agg36 sz36 ?_
  refine WXL.cl (O1 := _) Met.none rfl (fnOk_of Try.func15 (by decide +kernel)) rfl (fun _ h => h) (max_ok _ netL (some ⟨b12, 0, none⟩) 5 (Src.whole (cs := flat encE netL.edges) at_ rfl) (by decide)) (fun v O' hp => ?_)
  obtain ⟨k, hk, hk0, _⟩ := hp
  have hkz := netL_sound.wrong hk
  subst hkz
  obtain ⟨r, aF, cF, F, hr, hin, rfl, hF, rfl⟩ := hk0 rfl
  have hre := hr.uniq netL_sound netL_max
  subst hre
  simp only at hF
  dsimp only
  refine WXL.of (fun s hs => St.swap (G := F) [_, _] hs) ?_
  refine WXL.move Met.none rfl ?_
  refine WXL.extract Met.none rfl rfl ?_
  refine WXL.extract Met.none rfl rfl ?_
  refine WXL.extract Met.none rfl rfl ?_
  refine WXL.assign Met.none rfl ?_
  refine WXL.assign Met.none rfl ?_
  refine WXL.assign Met.none rfl ?_
  refine WXL.nil ?_
  refine Fin.then_normal ?_
  refine WX.seq ?_
  refine WX.region rfl ?_
  refine WXL.ldN (vs := [_, _, _, _]) Met.none rfl agg36 sz36 ?_
  refine WXL.move Met.none rfl ?_
  refine WXL.cl (O1 := _) Met.none rfl (fnOk_of Try.func22 (by decide +kernel)) rfl (fun _ h => h) (cut_ok _ netL [3, 2, 1, 2, 3] (some ⟨b12, 0, none⟩) aF 5 cF (by decide) (Src.whole (cs := flat encE netL.edges) at_ rfl) src_) (fun v O' hp => ?_)
  obtain ⟨s, e, aS, cS, G, rfl, hcut, hG, rfl⟩ := hp
  obtain ⟨rfl, rfl⟩ := netL_cut hcut
  refine WXL.move Met.none rfl ?_
  refine WXL.extract Met.none rfl rfl ?_
  refine WXL.extract Met.none rfl rfl ?_
  refine WXL.assign Met.none rfl ?_
  refine WXL.assign Met.none rfl ?_
  refine WXL.nil ?_
  refine Fin.then_normal ?_
  refine WX.seq ?_
  refine WX.region rfl ?_
  refine WXL.move Met.none rfl ?_
  refine WXL.bin Met.none rfl rfl rfl ?_
  refine WXL.move Met.none rfl ?_
  refine WXL.split (d := 28) rfl (fun hg28 => ?_) (fun hg28 => ?_)
  · try simp only [cnd] at hg28
    refine WXL.move (Met.some rfl rfl rfl) rfl ?_
    refine WXL.bin (Met.some rfl rfl rfl) rfl rfl rfl ?_
    refine WXL.pick_t Met.none rfl rfl ?_
    refine WXL.move Met.none rfl ?_
    refine WXL.split (d := 32) rfl (fun hg32 => ?_) (fun hg32 => ?_)
    · try simp only [cnd] at hg32
      refine WXL.move (Met.some rfl rfl rfl) rfl ?_
      refine WXL.bin (Met.some rfl rfl rfl) rfl rfl rfl ?_
      refine WXL.pick_t Met.none rfl rfl ?_
      refine WXL.move Met.none rfl ?_
      refine WXL.split (d := 36) rfl (fun hg36 => ?_) (fun hg36 => ?_)
      · try simp only [cnd] at hg36
        refine WXL.move (Met.some rfl rfl rfl) rfl ?_
        refine WXL.buildSlice (c := [_, _, _, _, _]) (Met.some rfl rfl rfl) rfl elem22 sz3 zero3 (by decide) (by decide) rfl rfl rfl rfl (fun b38 => ?_)
        refine WXL.cl (O1 := _) (Met.some rfl rfl rfl) rfl (fnOk_of Try.func18 (by decide +kernel)) rfl (fun _ h => h) (same_ok _ [3, 2, 1, 2, 3] [3, 2, 1, 2, 3] aF (some ⟨b38, 0, none⟩) cF 5 (by decide) src_ (Src.whole at_ rfl)) (fun v O' hp => ?_)
        obtain ⟨rfl, hO⟩ := hp
        subst O'
        refine WXL.pick_t Met.none rfl rfl ?_
        refine WXL.move Met.none rfl ?_
        refine WXL.split (d := 41) rfl (fun hg41 => ?_) (fun hg41 => ?_)
        · try simp only [cnd] at hg41
          refine WXL.move (Met.some rfl rfl rfl) rfl ?_
          refine WXL.buildSlice (c := [_, _, _, _]) (Met.some rfl rfl rfl) rfl elem46 sz4 zero4 (by decide) (by decide) rfl rfl rfl rfl (fun b43 => ?_)
          refine WXL.cl (O1 := _) (Met.some rfl rfl rfl) rfl (fnOk_of Try.func25 (by decide +kernel)) rfl (fun _ h => h) (sides_ok _ [true, false, false, false] [true, false, false, false] aS (some ⟨b43, 0, none⟩) cS 4 (by decide) src_ (Src.whole at_ rfl)) (fun v O' hp => ?_)
          obtain ⟨rfl, hO⟩ := hp
          subst O'
          refine WXL.pick_t Met.none rfl rfl ?_
          refine WXL.assign Met.none rfl ?_
          refine WXL.nil ?_
          refine Fin.then_normal ?_
          refine WX.ret ?_
          exact Fin.result (O' := O) (.inr rfl) rfl rfl (fun _ hs => by
            have h1 := (hs.tail.tail).app_right
            exact h1.tail.tail.app_right.app_right) ⟨rfl, rfl⟩
        · try simp only [cnd] at hg41
          first | exact absurd rfl hg41 | exact absurd trivial hg41 --end
      · try simp only [cnd] at hg36
        first | exact absurd rfl hg36 | exact absurd trivial hg36 --end
    · try simp only [cnd] at hg32
      first | exact absurd rfl hg32 | exact absurd trivial hg32 --end
  · try simp only [cnd] at hg28
    first | exact absurd rfl hg28 | exact absurd trivial hg28 --end

end Go.Proofs.Ytjmklialkjncaaa.Eng

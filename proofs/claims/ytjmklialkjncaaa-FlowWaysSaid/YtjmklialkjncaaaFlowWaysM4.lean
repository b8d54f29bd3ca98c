/- A network with a part changed. Own work; no condition. | What leaves the nodes; flows and their values, walked. Own work; no condition. | The program's maximum, walked. Own work; no condition. | Cuts, walked; the documented example. Own work; no condition. | The law FlowMax, walked. Own work; no condition. -/
import Derived.Test.YtjmklialkjncaaaFlowWaysM1
import Derived.Test.YtjmklialkjncaaaFlowWaysM2
import Derived.Test.YtjmklialkjncaaaFlowWaysM3
set_option linter.unusedVariables false
set_option linter.unusedSimpArgs false
namespace Go.Proofs.Ytjmklialkjncaaa.Eng

theorem flat_one {α : Type} (E : α → List Value) (a : α) : flat E [a] = E a := by simp [flat]

theorem flat_cons {α : Type} (E : α → List Value) (a : α) (l : List α) : flat E (a :: l) = E a ++ flat E l := by simp [flat]

theorem set_flat_part {α : Type} [Inhabited α] {E : α → List Value} {m : Nat} (hE : ∀ a, (E a).length = m) (j : Nat) (hj : j < m) (x : Value) (e' : α) : ∀ (l : List α) (k : Nat), k < l.length → E e' = (E (nth l k)).set j x → (flat E l).set (k * m + j) x = flat E (l.set k e')
  | [], k, h, _ => by simp at h
  | a :: l, 0, h, he => by
    rw [flat_cons, Nat.zero_mul, Nat.zero_add, List.set_append_left _ _ (by rw [hE]; exact hj), List.set_cons_zero, flat_cons, he]
    rfl
  | a :: l, k + 1, h, he => by
    rw [flat_cons, List.set_cons_succ, flat_cons, List.set_append_right _ _ (by rw [hE, Nat.succ_mul]; omega), hE, ← set_flat_part hE j hj x e' l k (by simpa using h) he]
    congr 2
    rw [Nat.succ_mul]
    omega

theorem splice_flat_part {α : Type} [Inhabited α] {E : α → List Value} {m : Nat} (hE : ∀ a, (E a).length = m) (l : List α) (k j : Nat) (x : Value) (e' : α) (hk : k < l.length) (hj : j < m) (he : E e' = (E (nth l k)).set j x) : splice (flat E l) (k * m + j) [x] = flat E (l.set k e') := by
  rw [← set_flat_part hE j hj x e' l k hk he]
  refine splice_one _ _ _ ?_
  rw [flat_length hE]
  have : k * m + m ≤ l.length * m := by rw [← Nat.succ_mul]; exact Nat.mul_le_mul_right _ hk
  omega

theorem splice_cap (l : List E4) (k : Nat) (x : Int) (hk : k < l.length) : splice (flat encE l) (k * 4 + 2) [I x] = flat encE (l.set k ⟨(nth l k).a, (nth l k).b, x, (nth l k).back⟩) := splice_flat_part encE_len l k 2 _ _ hk (by decide) rfl
theorem splice_back (l : List E4) (k : Nat) (x : Int) (hk : k < l.length) : splice (flat encE l) (k * 4 + 3) [I x] = flat encE (l.set k ⟨(nth l k).a, (nth l k).b, (nth l k).cap, x⟩) := splice_flat_part encE_len l k 3 _ _ hk (by decide) rfl
theorem splice_b (l : List E4) (k : Nat) (x : Int) (hk : k < l.length) : splice (flat encE l) (k * 4 + 1) [I x] = flat encE (l.set k ⟨(nth l k).a, x, (nth l k).cap, (nth l k).back⟩) := splice_flat_part encE_len l k 1 _ _ hk (by decide) rfl

theorem spoilt_ok0 (O : Objs) (n : Net4) (how by_ : Int) (a : Option Addr) (c : Nat) (hl : Edges O n a c) (hlen : n.edges.length ≤ 1000) (hh : In64 how) (hb : In64 by_) :
    Spec Try.prog false 12 #[netV n a c, I how, I by_] O fun v O' => ∃ (nd so si : Int) (es : List E4) (a' : Option Addr) (c' m : Nat) (G : Objs), v = .agg #[I nd, I so, I si, .slice a' m c'] ∧ m = es.length ∧ Grow 4 a' m c' (flat encE es) G ∧ es.length ≤ n.edges.length + 1 ∧ O' = G ++ O := by
  have hh' := hh
  unfold In64 at hh'
  have h5 := around_range (n := by_) (m := 5) (by omega)
  have h4 := around_range (n := by_) (m := 4) (by omega)
  refine Spec.enter (args := [_, _, _]) (m := 121) Try.func12 rfl rfl (by decide +kernel) fun h0 => ?_
  refine WX.seq ?_
  refine WX.region rfl ?_
  refine WXL.box (c := [_, _, _, _]) Met.none rfl rfl rfl (fun b3 => ?_)
  refine WXL.alloc (c := [_, _, _, _]) Met.none zero25 rfl (fun b6 => ?_)
  refine WXL.nil ?_
  refine Fin.then_normal ?_
  refine WX.seq ?_
  refine WX.region rfl ?_
  refine WXL.buildSlice (c := []) Met.none rfl elem23 sz63 zero63 (by decide) (by decide) rfl rfl rfl rfl (fun b9 => ?_)
  refine WXL.fieldAddr (off' := 3) Met.none rfl Try.underlying25 rfl sz23 rfl ?_
  first | refine WXL.ld Met.none rfl agg23 ?_ | refine WXL.ldS Met.none rfl agg23 ?_
  refine WXL.ap Met.none rfl rfl isrow23 elem23 sz63 by63 zero63 src_ (fun b12 => ?_) (hc := (show _ = flat encE n.edges from rfl))
  rw [Nat.zero_add n.edges.length]
  refine WXL.assign Met.none rfl ?_
  refine WXL.nil ?_
  refine Fin.then_normal ?_
  refine WX.seq ?_
  refine WX.region rfl ?_
  refine WXL.move Met.none rfl ?_
  refine WXL.fieldAddr (off' := 3) Met.none rfl Try.underlying25 rfl sz23 rfl ?_
  refine WXL.st (vs := [_]) (c' := [_, _, _, _]) Met.none rfl rfl rfl sz23 ?_
  refine WXL.nil ?_
  refine Fin.then_normal ?_
  refine WX.seq ?_
  refine WX.region rfl ?_
  refine WXL.assign Met.none rfl ?_
  refine WXL.nil ?_
  refine Fin.then_normal ?_
  refine WX.seq ?_
  refine WX.seq ?_
  refine WX.region rfl ?_
  refine WXL.move Met.none rfl ?_
  refine WXL.len Met.none rfl Try.underlying23 ?_
  refine WXL.bin Met.none rfl rfl rfl ?_
  refine WXL.nil ?_
  refine Fin.then_normal ?_
  refine WX.cond rfl (fun hc0 => ?_) (fun hc0 => ?_)
  · try simp only [cnd] at hc0
    refine WX.region rfl ?_
    refine WXL.move Met.none rfl ?_
    refine WXL.qu Met.none rfl rfl ?_
    refine WXL.move Met.none rfl ?_
    refine WXL.len Met.none rfl Try.underlying23 ?_
    refine WXL.cl (O1 := _) Met.none rfl (fnOk_of Try.func13 (by decide +kernel)) rfl (fun _ h => h) (around_ok _ _ _ (In64.quo hh (by omega)) (by omega)) (fun v O' hp => ?_)
    obtain ⟨rfl, hO⟩ := hp
    subst O'
    refine WXL.assign Met.none rfl ?_
    refine WXL.nil ?_
    refine Fin.then_normal ?_
    refine WX.seq ?_
    refine WX.seq ?_
    have hka := around_range (n := how.tdiv 8) (m := (n.edges.length : Int))
    refine WX.region rfl ?_
    refine WXL.move Met.none rfl ?_
    refine WXL.cl (O1 := _) Met.none rfl (fnOk_of Try.func13 (by decide +kernel)) rfl (fun _ h => h) (around_ok _ _ _ hh (by omega)) (fun v O' hp => ?_)
    obtain ⟨rfl, hO⟩ := hp
    subst O'
    refine WXL.nil ?_
    refine Fin.then_normal ?_
    refine WX.block ?_
    refine WX.seq ?_
    refine WX.region rfl ?_
    refine WXL.bin Met.none rfl rfl rfl ?_
    refine WXL.assign Met.none rfl ?_
    refine WXL.nil ?_
    refine Fin.then_normal ?_
    refine WX.cond rfl (fun hc1 => ?_) (fun hc1 => ?_)
    · try simp only [cnd] at hc1
      refine WX.region rfl ?_
      refine WXL.move Met.none rfl ?_
      refine WXL.buildSlice (c := [_, _, _, _, _]) Met.none rfl elem22 sz3 zero3 (by decide) (by decide) rfl rfl rfl rfl (fun b28 => ?_)
      refine WXL.move Met.none rfl ?_
      refine WXL.cl (O1 := _) Met.none rfl (fnOk_of Try.func13 (by decide +kernel)) rfl (fun _ h => h) (around_ok _ _ _ hb (by omega)) (fun v O' hp => ?_)
      obtain ⟨rfl, hO⟩ := hp
      subst O'
      first | refine WXL.ix Met.none rfl rfl elem22 sz3 ?_ | refine WXL.ixS Met.none rfl rfl elem22 sz3 ?_
      refine WXL.load1 lz_ Met.none rfl at_ agg3 (cell_map I [by_, 1024, 1025, 1, 0] (around by_ 5).toNat (by simp only [List.length_cons, List.length_nil]; omega)) ?_
      refine WXL.fieldAddr (off' := 0) Met.none rfl Try.underlying25 rfl sz3 rfl ?_
      refine WXL.st (vs := [_]) (c' := [_, _, _, _]) Met.none rfl rfl rfl sz3 ?_
      refine WXL.nil ?_
      refine Fin.block_normal ?_
      refine Fin.then_normal ?_
      refine WX.seq ?_
      refine WX.region rfl ?_
      refine WXL.ldN (vs := [_, _, _, _]) Met.none rfl agg25 sz25 ?_
      refine WXL.st (vs := [_, _, _, _]) (c' := [_, _, _, _]) Met.none rfl rfl rfl sz25 ?_
      refine WXL.nil ?_
      refine Fin.then_normal ?_
      refine WX.ret ?_
      first
      | exact Fin.results (O' := [(b12, ⟨4, false, flat encE _⟩)] ++ O) (.inr rfl) rfl (vs := [.agg #[_, _, _, _]]) ⟨⟨b6, 0, rfl, load_agg (n := 4) (vs := [_, _, _, _]) at_ agg25 sz25 rfl⟩, trivial⟩ (fun _ => Sat.told [0] 3 (by decide) (by decide) rfl) ⟨_, _, _, _, _, _, _, [_], rfl, (by simp), .row (by simp [flat_encE_len]), (by simp), rfl⟩
      | exact Fin.results (O' := [(_, ⟨4, false, flat encE _⟩)] ++ O) (.inr rfl) rfl (vs := [.agg #[_, _, _, _]]) ⟨⟨b6, 0, rfl, load_agg (n := 4) (vs := [_, _, _, _]) at_ agg25 sz25 rfl⟩, trivial⟩ (fun _ => Sat.told [1] 4 (by decide) (by decide) rfl) ⟨_, _, _, _, _, _, _, [_], rfl, (by simp), .row (by simp [flat_encE_len]), (by simp), rfl⟩
    · try simp only [cnd] at hc1
      refine WX.seq ?_
      refine WX.region rfl ?_
      refine WXL.bin Met.none rfl rfl rfl ?_
      refine WXL.assign Met.none rfl ?_
      refine WXL.nil ?_
      refine Fin.then_normal ?_
      refine WX.cond rfl (fun hc2 => ?_) (fun hc2 => ?_)
      · try simp only [cnd] at hc2
        refine WX.draw rfl ?_
        refine WXL.move Met.none rfl ?_
        refine WXL.fieldAddr (off' := 2) Met.none rfl Try.underlying25 rfl sz3 rfl ?_
        first | refine WXL.ld Met.none rfl agg3 ?_ | refine WXL.ldS Met.none rfl agg3 ?_
        refine WXL.fieldAddr (off' := 0) Met.none rfl Try.underlying25 rfl sz3 rfl ?_
        first | refine WXL.ld Met.none rfl agg3 ?_ | refine WXL.ldS Met.none rfl agg3 ?_
        refine WXL.buildSlice (c := [_, _, _, _]) Met.none rfl elem22 sz3 zero3 (by decide) (by decide) rfl rfl rfl rfl (fun b41 => ?_)
        refine WXL.move Met.none rfl ?_
        refine WXL.cl (O1 := _) Met.none rfl (fnOk_of Try.func13 (by decide +kernel)) rfl (fun _ h => h) (around_ok _ _ _ hb (by omega)) (fun v O' hp => ?_)
        obtain ⟨rfl, hO⟩ := hp
        subst O'
        first | refine WXL.ix Met.none rfl rfl elem22 sz3 ?_ | refine WXL.ixS Met.none rfl rfl elem22 sz3 ?_
        refine WXL.load1 lz_ Met.none rfl at_ agg3 (cell_map I [by_, n.sink, -1, n.nodes] (around by_ 4).toNat (by simp only [List.length_cons, List.length_nil]; omega)) ?_
        refine WXL.fieldAddr (off' := 1) Met.none rfl Try.underlying25 rfl sz3 rfl ?_
        refine WXL.st (vs := [_]) (c' := [_, _, _, _]) Met.none rfl rfl rfl sz3 ?_
        refine WXL.nil ?_
        refine Fin.block_normal ?_
        refine Fin.then_normal ?_
        refine WX.seq ?_
        refine WX.region rfl ?_
        refine WXL.ldN (vs := [_, _, _, _]) Met.none rfl agg25 sz25 ?_
        refine WXL.st (vs := [_, _, _, _]) (c' := [_, _, _, _]) Met.none rfl rfl rfl sz25 ?_
        refine WXL.nil ?_
        refine Fin.then_normal ?_
        refine WX.ret ?_
        first
        | exact Fin.results (O' := [(b12, ⟨4, false, flat encE _⟩)] ++ O) (.inr rfl) rfl (vs := [.agg #[_, _, _, _]]) ⟨⟨b6, 0, rfl, load_agg (n := 4) (vs := [_, _, _, _]) at_ agg25 sz25 rfl⟩, trivial⟩ (fun _ => Sat.told [0] 3 (by decide) (by decide) rfl) ⟨_, _, _, _, _, _, _, [_], rfl, (by simp), .row (by simp [flat_encE_len]), (by simp), rfl⟩
        | exact Fin.results (O' := [(_, ⟨4, false, flat encE _⟩)] ++ O) (.inr rfl) rfl (vs := [.agg #[_, _, _, _]]) ⟨⟨b6, 0, rfl, load_agg (n := 4) (vs := [_, _, _, _]) at_ agg25 sz25 rfl⟩, trivial⟩ (fun _ => Sat.told [1] 4 (by decide) (by decide) rfl) ⟨_, _, _, _, _, _, _, [_], rfl, (by simp), .row (by simp [flat_encE_len]), (by simp), rfl⟩
      · try simp only [cnd] at hc2
        refine WX.seq ?_
        refine WX.region rfl ?_
        refine WXL.bin Met.none rfl rfl rfl ?_
        refine WXL.assign Met.none rfl ?_
        refine WXL.nil ?_
        refine Fin.then_normal ?_
        refine WX.cond rfl (fun hc3 => ?_) (fun hc3 => ?_)
        · try simp only [cnd] at hc3
          refine WX.draw rfl ?_
          refine WXL.move Met.none rfl ?_
          refine WXL.fieldAddr (off' := 0) Met.none rfl Try.underlying25 rfl sz3 rfl ?_
          first | refine WXL.ld Met.none rfl agg3 ?_ | refine WXL.ldS Met.none rfl agg3 ?_
          refine WXL.fieldAddr (off' := 0) Met.none rfl Try.underlying25 rfl sz3 rfl ?_
          first | refine WXL.ld Met.none rfl agg3 ?_ | refine WXL.ldS Met.none rfl agg3 ?_
          refine WXL.bin Met.none rfl rfl rfl ?_
          refine WXL.buildSlice (c := [_, _, _, _]) Met.none rfl elem22 sz3 zero3 (by decide) (by decide) rfl rfl rfl rfl (fun b55 => ?_)
          refine WXL.move Met.none rfl ?_
          refine WXL.cl (O1 := _) Met.none rfl (fnOk_of Try.func13 (by decide +kernel)) rfl (fun _ h => h) (around_ok _ _ _ hb (by omega)) (fun v O' hp => ?_)
          obtain ⟨rfl, hO⟩ := hp
          subst O'
          first | refine WXL.ix Met.none rfl rfl elem22 sz3 ?_ | refine WXL.ixS Met.none rfl rfl elem22 sz3 ?_
          refine WXL.load1 lz_ Met.none rfl at_ agg3 (cell_map I [by_, -1, n.nodes, IntKind.wrap .i64 (n.nodes - 1)] (around by_ 4).toNat (by simp only [List.length_cons, List.length_nil]; omega)) ?_
          refine WXL.fieldAddr (off' := 2) Met.none rfl Try.underlying25 rfl sz3 rfl ?_
          refine WXL.st (vs := [_]) (c' := [_, _, _, _]) Met.none rfl rfl rfl sz3 ?_
          refine WXL.nil ?_
          refine Fin.block_normal ?_
          refine Fin.then_normal ?_
          refine WX.seq ?_
          refine WX.region rfl ?_
          refine WXL.ldN (vs := [_, _, _, _]) Met.none rfl agg25 sz25 ?_
          refine WXL.st (vs := [_, _, _, _]) (c' := [_, _, _, _]) Met.none rfl rfl rfl sz25 ?_
          refine WXL.nil ?_
          refine Fin.then_normal ?_
          refine WX.ret ?_
          first
          | exact Fin.results (O' := [(b12, ⟨4, false, flat encE _⟩)] ++ O) (.inr rfl) rfl (vs := [.agg #[_, _, _, _]]) ⟨⟨b6, 0, rfl, load_agg (n := 4) (vs := [_, _, _, _]) at_ agg25 sz25 rfl⟩, trivial⟩ (fun _ => Sat.told [0] 3 (by decide) (by decide) rfl) ⟨_, _, _, _, _, _, _, [_], rfl, (by simp), .row (by simp [flat_encE_len]), (by simp), rfl⟩
          | exact Fin.results (O' := [(_, ⟨4, false, flat encE _⟩)] ++ O) (.inr rfl) rfl (vs := [.agg #[_, _, _, _]]) ⟨⟨b6, 0, rfl, load_agg (n := 4) (vs := [_, _, _, _]) at_ agg25 sz25 rfl⟩, trivial⟩ (fun _ => Sat.told [1] 4 (by decide) (by decide) rfl) ⟨_, _, _, _, _, _, _, [_], rfl, (by simp), .row (by simp [flat_encE_len]), (by simp), rfl⟩
        · try simp only [cnd] at hc3
          refine WX.seq ?_
          refine WX.region rfl ?_
          refine WXL.bin Met.none rfl rfl rfl ?_
          refine WXL.assign Met.none rfl ?_
          refine WXL.nil ?_
          refine Fin.then_normal ?_
          refine WX.cond rfl (fun hc4 => ?_) (fun hc4 => ?_)
          · try simp only [cnd] at hc4
            refine WX.region rfl ?_
            refine WXL.move Met.none rfl ?_
            refine WXL.move Met.none rfl ?_
            refine WXL.build (c := [_, _, _, _]) Met.none rfl zero63 places63 rfl ?_
            refine WXL.buildSlice (c := [_, _, _, _]) Met.none rfl elem23 sz63 zero63 (by decide) (by decide) rfl rfl rfl rfl (fun b66 => ?_)
            refine WXL.ap (j := 1) Met.none rfl rfl isrow23 elem23 sz63 by63 zero63 (Src.lit (cs := [_, _, _, _])) (fun b67 => ?_) (hj := rfl) (hl := (by rw [flat_encE_len]; omega)) (hc := (show _ = flat encE (n.edges ++ [⟨by_, 0, 1, 0⟩]) from by rw [List.drop_zero, flat_append, flat_one]; rfl))
            refine WXL.fieldAddr (off' := 3) Met.none rfl Try.underlying25 rfl sz23 rfl ?_
            refine WXL.st (vs := [_]) (c' := [_, _, _, _]) Met.none rfl rfl rfl sz23 ?_
            refine WXL.nil ?_
            refine Fin.block_normal ?_
            refine Fin.then_normal ?_
            refine WX.seq ?_
            refine WX.region rfl ?_
            refine WXL.ldN (vs := [_, _, _, _]) Met.none rfl agg25 sz25 ?_
            refine WXL.st (vs := [_, _, _, _]) (c' := [_, _, _, _]) Met.none rfl rfl rfl sz25 ?_
            refine WXL.nil ?_
            refine Fin.then_normal ?_
            refine WX.ret ?_
            first
            | exact Fin.results (O' := [(b12, ⟨4, false, flat encE _⟩)] ++ O) (.inr rfl) rfl (vs := [.agg #[_, _, _, _]]) ⟨⟨b6, 0, rfl, load_agg (n := 4) (vs := [_, _, _, _]) at_ agg25 sz25 rfl⟩, trivial⟩ (fun _ => Sat.told [0] 3 (by decide) (by decide) rfl) ⟨_, _, _, _, _, _, _, [_], rfl, (by simp), .row (by simp [flat_encE_len]), (by simp), rfl⟩
            | exact Fin.results (O' := [(_, ⟨4, false, flat encE _⟩)] ++ O) (.inr rfl) rfl (vs := [.agg #[_, _, _, _]]) ⟨⟨b6, 0, rfl, load_agg (n := 4) (vs := [_, _, _, _]) at_ agg25 sz25 rfl⟩, trivial⟩ (fun _ => Sat.told [1] 4 (by decide) (by decide) rfl) ⟨_, _, _, _, _, _, _, [_], rfl, (by simp), .row (by simp [flat_encE_len]), (by simp), rfl⟩
          · try simp only [cnd] at hc4
            refine WX.seq ?_
            refine WX.region rfl ?_
            refine WXL.bin Met.none rfl rfl rfl ?_
            refine WXL.assign Met.none rfl ?_
            refine WXL.nil ?_
            refine Fin.then_normal ?_
            refine WX.cond rfl (fun hc5 => ?_) (fun hc5 => ?_)
            · try simp only [cnd] at hc5
              refine WX.seq ?_
              refine WX.region rfl ?_
              refine WXL.move Met.none rfl ?_
              refine WXL.len Met.none rfl Try.underlying23 ?_
              refine WXL.bin Met.none rfl rfl rfl ?_
              refine WXL.nil ?_
              refine Fin.then_normal ?_
              refine WX.cond rfl (fun hc6 => ?_) (fun hc6 => ?_)
              · try simp only [cnd] at hc6
                refine WX.region rfl ?_
                refine WXL.move Met.none rfl ?_
                refine WXL.move Met.none rfl ?_
                refine WXL.move Met.none rfl ?_
                refine WXL.buildSlice (c := [_, _, _, _]) Met.none rfl elem22 sz3 zero3 (by decide) (by decide) rfl rfl rfl rfl (fun b77 => ?_)
                refine WXL.move Met.none rfl ?_
                refine WXL.cl (O1 := _) Met.none rfl (fnOk_of Try.func13 (by decide +kernel)) rfl (fun _ h => h) (around_ok _ _ _ hb (by omega)) (fun v O' hp => ?_)
                obtain ⟨rfl, hO⟩ := hp
                subst O'
                first | refine WXL.ix Met.none rfl rfl elem22 sz3 ?_ | refine WXL.ixS Met.none rfl rfl elem22 sz3 ?_
                refine WXL.load1 lz_ Met.none rfl at_ agg3 (cell_map I [by_, -1, 1099511627776, 1099511627777] (around by_ 4).toNat (by simp only [List.length_cons, List.length_nil]; omega)) ?_
                first | refine WXL.ix Met.none rfl rfl elem23 sz63 ?_ | refine WXL.ixS Met.none rfl rfl elem23 sz63 ?_
                first | refine WXL.fieldAddr Met.none rfl Try.underlying63 rfl sz3 rfl ?_ | refine WXL.faS Met.none rfl Try.underlying63 rfl sz3 ?_
                refine WXL.st (vs := [_]) (j := 1) Met.none rfl rfl rfl sz3 ?_ (hj := rfl) (hl := (by rw [flat_encE_len]; show _ * 4 + 2 + 1 ≤ _; omega)) (hc := (splice_cap n.edges _ _ (by omega)))
                refine WXL.nil ?_
                refine Fin.block_normal ?_
                refine Fin.then_normal ?_
                refine WX.seq ?_
                refine WX.region rfl ?_
                refine WXL.ldN (vs := [_, _, _, _]) Met.none rfl agg25 sz25 ?_
                refine WXL.st (vs := [_, _, _, _]) (c' := [_, _, _, _]) Met.none rfl rfl rfl sz25 ?_
                refine WXL.nil ?_
                refine Fin.then_normal ?_
                refine WX.ret ?_
                first
                | exact Fin.results (O' := [(b12, ⟨4, false, flat encE _⟩)] ++ O) (.inr rfl) rfl (vs := [.agg #[_, _, _, _]]) ⟨⟨b6, 0, rfl, load_agg (n := 4) (vs := [_, _, _, _]) at_ agg25 sz25 rfl⟩, trivial⟩ (fun _ => Sat.told [0] 3 (by decide) (by decide) rfl) ⟨_, _, _, _, _, _, _, [_], rfl, (by simp), .row (by simp [flat_encE_len]), (by simp), rfl⟩
                | exact Fin.results (O' := [(_, ⟨4, false, flat encE _⟩)] ++ O) (.inr rfl) rfl (vs := [.agg #[_, _, _, _]]) ⟨⟨b6, 0, rfl, load_agg (n := 4) (vs := [_, _, _, _]) at_ agg25 sz25 rfl⟩, trivial⟩ (fun _ => Sat.told [1] 4 (by decide) (by decide) rfl) ⟨_, _, _, _, _, _, _, [_], rfl, (by simp), .row (by simp [flat_encE_len]), (by simp), rfl⟩
              · try simp only [cnd] at hc6
                refine WX.skip ?_
                refine Fin.block_normal ?_
                refine Fin.then_normal ?_
                refine WX.seq ?_
                refine WX.region rfl ?_
                refine WXL.ldN (vs := [_, _, _, _]) Met.none rfl agg25 sz25 ?_
                refine WXL.st (vs := [_, _, _, _]) (c' := [_, _, _, _]) Met.none rfl rfl rfl sz25 ?_
                refine WXL.nil ?_
                refine Fin.then_normal ?_
                refine WX.ret ?_
                first
                | exact Fin.results (O' := [(b12, ⟨4, false, flat encE _⟩)] ++ O) (.inr rfl) rfl (vs := [.agg #[_, _, _, _]]) ⟨⟨b6, 0, rfl, load_agg (n := 4) (vs := [_, _, _, _]) at_ agg25 sz25 rfl⟩, trivial⟩ (fun _ => Sat.told [0] 3 (by decide) (by decide) rfl) ⟨_, _, _, _, _, _, _, [_], rfl, (by simp), .row (by simp [flat_encE_len]), (by simp), rfl⟩
                | exact Fin.results (O' := [(_, ⟨4, false, flat encE _⟩)] ++ O) (.inr rfl) rfl (vs := [.agg #[_, _, _, _]]) ⟨⟨b6, 0, rfl, load_agg (n := 4) (vs := [_, _, _, _]) at_ agg25 sz25 rfl⟩, trivial⟩ (fun _ => Sat.told [1] 4 (by decide) (by decide) rfl) ⟨_, _, _, _, _, _, _, [_], rfl, (by simp), .row (by simp [flat_encE_len]), (by simp), rfl⟩
            · try simp only [cnd] at hc5
              refine WX.seq ?_
              refine WX.region rfl ?_
              refine WXL.bin Met.none rfl rfl rfl ?_
              refine WXL.assign Met.none rfl ?_
              refine WXL.nil ?_
              refine Fin.then_normal ?_
              refine WX.cond rfl (fun hc7 => ?_) (fun hc7 => ?_)
              · try simp only [cnd] at hc7
                refine WX.seq ?_
                refine WX.region rfl ?_
                refine WXL.move Met.none rfl ?_
                refine WXL.len Met.none rfl Try.underlying23 ?_
                refine WXL.bin Met.none rfl rfl rfl ?_
                refine WXL.nil ?_
                refine Fin.then_normal ?_
                refine WX.cond rfl (fun hc8 => ?_) (fun hc8 => ?_)
                · try simp only [cnd] at hc8
                  refine WX.region rfl ?_
                  refine WXL.move Met.none rfl ?_
                  refine WXL.move Met.none rfl ?_
                  refine WXL.move Met.none rfl ?_
                  refine WXL.buildSlice (c := [_, _, _, _]) Met.none rfl elem22 sz3 zero3 (by decide) (by decide) rfl rfl rfl rfl (fun b92 => ?_)
                  refine WXL.move Met.none rfl ?_
                  refine WXL.cl (O1 := _) Met.none rfl (fnOk_of Try.func13 (by decide +kernel)) rfl (fun _ h => h) (around_ok _ _ _ hb (by omega)) (fun v O' hp => ?_)
                  obtain ⟨rfl, hO⟩ := hp
                  subst O'
                  first | refine WXL.ix Met.none rfl rfl elem22 sz3 ?_ | refine WXL.ixS Met.none rfl rfl elem22 sz3 ?_
                  refine WXL.load1 lz_ Met.none rfl at_ agg3 (cell_map I [by_, -1, 1099511627776, 1099511627777] (around by_ 4).toNat (by simp only [List.length_cons, List.length_nil]; omega)) ?_
                  first | refine WXL.ix Met.none rfl rfl elem23 sz63 ?_ | refine WXL.ixS Met.none rfl rfl elem23 sz63 ?_
                  first | refine WXL.fieldAddr Met.none rfl Try.underlying63 rfl sz3 rfl ?_ | refine WXL.faS Met.none rfl Try.underlying63 rfl sz3 ?_
                  refine WXL.st (vs := [_]) (j := 1) Met.none rfl rfl rfl sz3 ?_ (hj := rfl) (hl := (by rw [flat_encE_len]; show _ * 4 + 3 + 1 ≤ _; omega)) (hc := (splice_back n.edges _ _ (by omega)))
                  refine WXL.nil ?_
                  refine Fin.block_normal ?_
                  refine Fin.then_normal ?_
                  refine WX.seq ?_
                  refine WX.region rfl ?_
                  refine WXL.ldN (vs := [_, _, _, _]) Met.none rfl agg25 sz25 ?_
                  refine WXL.st (vs := [_, _, _, _]) (c' := [_, _, _, _]) Met.none rfl rfl rfl sz25 ?_
                  refine WXL.nil ?_
                  refine Fin.then_normal ?_
                  refine WX.ret ?_
                  first
                  | exact Fin.results (O' := [(b12, ⟨4, false, flat encE _⟩)] ++ O) (.inr rfl) rfl (vs := [.agg #[_, _, _, _]]) ⟨⟨b6, 0, rfl, load_agg (n := 4) (vs := [_, _, _, _]) at_ agg25 sz25 rfl⟩, trivial⟩ (fun _ => Sat.told [0] 3 (by decide) (by decide) rfl) ⟨_, _, _, _, _, _, _, [_], rfl, (by simp), .row (by simp [flat_encE_len]), (by simp), rfl⟩
                  | exact Fin.results (O' := [(_, ⟨4, false, flat encE _⟩)] ++ O) (.inr rfl) rfl (vs := [.agg #[_, _, _, _]]) ⟨⟨b6, 0, rfl, load_agg (n := 4) (vs := [_, _, _, _]) at_ agg25 sz25 rfl⟩, trivial⟩ (fun _ => Sat.told [1] 4 (by decide) (by decide) rfl) ⟨_, _, _, _, _, _, _, [_], rfl, (by simp), .row (by simp [flat_encE_len]), (by simp), rfl⟩
                · try simp only [cnd] at hc8
                  refine WX.skip ?_
                  refine Fin.block_normal ?_
                  refine Fin.then_normal ?_
                  refine WX.seq ?_
                  refine WX.region rfl ?_
                  refine WXL.ldN (vs := [_, _, _, _]) Met.none rfl agg25 sz25 ?_
                  refine WXL.st (vs := [_, _, _, _]) (c' := [_, _, _, _]) Met.none rfl rfl rfl sz25 ?_
                  refine WXL.nil ?_
                  refine Fin.then_normal ?_
                  refine WX.ret ?_
                  first
                  | exact Fin.results (O' := [(b12, ⟨4, false, flat encE _⟩)] ++ O) (.inr rfl) rfl (vs := [.agg #[_, _, _, _]]) ⟨⟨b6, 0, rfl, load_agg (n := 4) (vs := [_, _, _, _]) at_ agg25 sz25 rfl⟩, trivial⟩ (fun _ => Sat.told [0] 3 (by decide) (by decide) rfl) ⟨_, _, _, _, _, _, _, [_], rfl, (by simp), .row (by simp [flat_encE_len]), (by simp), rfl⟩
                  | exact Fin.results (O' := [(_, ⟨4, false, flat encE _⟩)] ++ O) (.inr rfl) rfl (vs := [.agg #[_, _, _, _]]) ⟨⟨b6, 0, rfl, load_agg (n := 4) (vs := [_, _, _, _]) at_ agg25 sz25 rfl⟩, trivial⟩ (fun _ => Sat.told [1] 4 (by decide) (by decide) rfl) ⟨_, _, _, _, _, _, _, [_], rfl, (by simp), .row (by simp [flat_encE_len]), (by simp), rfl⟩
              · try simp only [cnd] at hc7
                refine WX.seq ?_
                refine WX.region rfl ?_
                refine WXL.bin Met.none rfl rfl rfl ?_
                refine WXL.assign Met.none rfl ?_
                refine WXL.nil ?_
                refine Fin.then_normal ?_
                refine WX.cond rfl (fun hc9 => ?_) (fun hc9 => ?_)
                · try simp only [cnd] at hc9
                  refine WX.seq ?_
                  refine WX.region rfl ?_
                  refine WXL.move Met.none rfl ?_
                  refine WXL.len Met.none rfl Try.underlying23 ?_
                  refine WXL.bin Met.none rfl rfl rfl ?_
                  refine WXL.nil ?_
                  refine Fin.then_normal ?_
                  refine WX.cond rfl (fun hc10 => ?_) (fun hc10 => ?_)
                  · try simp only [cnd] at hc10
                    refine WX.region rfl ?_
                    refine WXL.move Met.none rfl ?_
                    refine WXL.move Met.none rfl ?_
                    refine WXL.move Met.none rfl ?_
                    refine WXL.move Met.none rfl ?_
                    first | refine WXL.ix Met.none rfl rfl elem23 sz63 ?_ | refine WXL.ixS Met.none rfl rfl elem23 sz63 ?_
                    first | refine WXL.fieldAddr Met.none rfl Try.underlying63 rfl sz3 rfl ?_ | refine WXL.faS Met.none rfl Try.underlying63 rfl sz3 ?_
                    first | refine WXL.ld Met.none rfl agg3 ?_ | refine WXL.ldS Met.none rfl agg3 ?_
                    first | refine WXL.ix Met.none rfl rfl elem23 sz63 ?_ | refine WXL.ixS Met.none rfl rfl elem23 sz63 ?_
                    first | refine WXL.fieldAddr Met.none rfl Try.underlying63 rfl sz3 rfl ?_ | refine WXL.faS Met.none rfl Try.underlying63 rfl sz3 ?_
                    refine WXL.st (vs := [_]) (j := 0) Met.none rfl rfl rfl sz3 ?_ (hj := rfl) (hl := (by rw [flat_encE_len]; show _ * 4 + 1 + 1 ≤ _; omega)) (hc := (splice_b n.edges _ _ (by omega)))
                    refine WXL.nil ?_
                    refine Fin.block_normal ?_
                    refine Fin.then_normal ?_
                    refine WX.seq ?_
                    refine WX.region rfl ?_
                    refine WXL.ldN (vs := [_, _, _, _]) Met.none rfl agg25 sz25 ?_
                    refine WXL.st (vs := [_, _, _, _]) (c' := [_, _, _, _]) Met.none rfl rfl rfl sz25 ?_
                    refine WXL.nil ?_
                    refine Fin.then_normal ?_
                    refine WX.ret ?_
                    first
                    | exact Fin.results (O' := [(b12, ⟨4, false, flat encE _⟩)] ++ O) (.inr rfl) rfl (vs := [.agg #[_, _, _, _]]) ⟨⟨b6, 0, rfl, load_agg (n := 4) (vs := [_, _, _, _]) at_ agg25 sz25 rfl⟩, trivial⟩ (fun _ => Sat.told [0] 3 (by decide) (by decide) rfl) ⟨_, _, _, _, _, _, _, [_], rfl, (by simp), .row (by simp [flat_encE_len]), (by simp), rfl⟩
                    | exact Fin.results (O' := [(_, ⟨4, false, flat encE _⟩)] ++ O) (.inr rfl) rfl (vs := [.agg #[_, _, _, _]]) ⟨⟨b6, 0, rfl, load_agg (n := 4) (vs := [_, _, _, _]) at_ agg25 sz25 rfl⟩, trivial⟩ (fun _ => Sat.told [1] 4 (by decide) (by decide) rfl) ⟨_, _, _, _, _, _, _, [_], rfl, (by simp), .row (by simp [flat_encE_len]), (by simp), rfl⟩
                  · try simp only [cnd] at hc10
                    refine WX.skip ?_
                    refine Fin.block_normal ?_
                    refine Fin.then_normal ?_
                    refine WX.seq ?_
                    refine WX.region rfl ?_
                    refine WXL.ldN (vs := [_, _, _, _]) Met.none rfl agg25 sz25 ?_
                    refine WXL.st (vs := [_, _, _, _]) (c' := [_, _, _, _]) Met.none rfl rfl rfl sz25 ?_
                    refine WXL.nil ?_
                    refine Fin.then_normal ?_
                    refine WX.ret ?_
                    first
                    | exact Fin.results (O' := [(b12, ⟨4, false, flat encE _⟩)] ++ O) (.inr rfl) rfl (vs := [.agg #[_, _, _, _]]) ⟨⟨b6, 0, rfl, load_agg (n := 4) (vs := [_, _, _, _]) at_ agg25 sz25 rfl⟩, trivial⟩ (fun _ => Sat.told [0] 3 (by decide) (by decide) rfl) ⟨_, _, _, _, _, _, _, [_], rfl, (by simp), .row (by simp [flat_encE_len]), (by simp), rfl⟩
                    | exact Fin.results (O' := [(_, ⟨4, false, flat encE _⟩)] ++ O) (.inr rfl) rfl (vs := [.agg #[_, _, _, _]]) ⟨⟨b6, 0, rfl, load_agg (n := 4) (vs := [_, _, _, _]) at_ agg25 sz25 rfl⟩, trivial⟩ (fun _ => Sat.told [1] 4 (by decide) (by decide) rfl) ⟨_, _, _, _, _, _, _, [_], rfl, (by simp), .row (by simp [flat_encE_len]), (by simp), rfl⟩
                · try simp only [cnd] at hc9
                  refine WX.seq ?_
                  refine WX.region rfl ?_
                  refine WXL.bin Met.none rfl rfl rfl ?_
                  refine WXL.assign Met.none rfl ?_
                  refine WXL.nil ?_
                  refine Fin.then_normal ?_
                  refine WX.cond rfl (fun hc11 => ?_) (fun hc11 => ?_)
                  · try simp only [cnd] at hc11
                    refine WX.region rfl ?_
                    refine WXL.move Met.none rfl ?_
                    refine WXL.build (c := [_, _, _, _]) Met.none rfl zero63 places63 rfl ?_
                    refine WXL.buildSlice (c := [_, _, _, _]) Met.none rfl elem23 sz63 zero63 (by decide) (by decide) rfl rfl rfl rfl (fun b117 => ?_)
                    refine WXL.ap (j := 1) Met.none rfl rfl isrow23 elem23 sz63 by63 zero63 (Src.lit (cs := [_, _, _, _])) (fun b118 => ?_) (hj := rfl) (hl := (by rw [flat_encE_len]; omega)) (hc := (show _ = flat encE (n.edges ++ [⟨0, 1, 3, 0⟩]) from by rw [List.drop_zero, flat_append, flat_one]; rfl))
                    refine WXL.fieldAddr (off' := 3) Met.none rfl Try.underlying25 rfl sz23 rfl ?_
                    refine WXL.st (vs := [_]) (c' := [_, _, _, _]) Met.none rfl rfl rfl sz23 ?_
                    refine WXL.nil ?_
                    refine Fin.block_normal ?_
                    refine Fin.then_normal ?_
                    refine WX.seq ?_
                    refine WX.region rfl ?_
                    refine WXL.ldN (vs := [_, _, _, _]) Met.none rfl agg25 sz25 ?_
                    refine WXL.st (vs := [_, _, _, _]) (c' := [_, _, _, _]) Met.none rfl rfl rfl sz25 ?_
                    refine WXL.nil ?_
                    refine Fin.then_normal ?_
                    refine WX.ret ?_
                    first
                    | exact Fin.results (O' := [(b12, ⟨4, false, flat encE _⟩)] ++ O) (.inr rfl) rfl (vs := [.agg #[_, _, _, _]]) ⟨⟨b6, 0, rfl, load_agg (n := 4) (vs := [_, _, _, _]) at_ agg25 sz25 rfl⟩, trivial⟩ (fun _ => Sat.told [0] 3 (by decide) (by decide) rfl) ⟨_, _, _, _, _, _, _, [_], rfl, (by simp), .row (by simp [flat_encE_len]), (by simp), rfl⟩
                    | exact Fin.results (O' := [(_, ⟨4, false, flat encE _⟩)] ++ O) (.inr rfl) rfl (vs := [.agg #[_, _, _, _]]) ⟨⟨b6, 0, rfl, load_agg (n := 4) (vs := [_, _, _, _]) at_ agg25 sz25 rfl⟩, trivial⟩ (fun _ => Sat.told [1] 4 (by decide) (by decide) rfl) ⟨_, _, _, _, _, _, _, [_], rfl, (by simp), .row (by simp [flat_encE_len]), (by simp), rfl⟩
                  · try simp only [cnd] at hc11
                    refine WX.skip ?_
                    refine Fin.block_normal ?_
                    refine Fin.then_normal ?_
                    refine WX.seq ?_
                    refine WX.region rfl ?_
                    refine WXL.ldN (vs := [_, _, _, _]) Met.none rfl agg25 sz25 ?_
                    refine WXL.st (vs := [_, _, _, _]) (c' := [_, _, _, _]) Met.none rfl rfl rfl sz25 ?_
                    refine WXL.nil ?_
                    refine Fin.then_normal ?_
                    refine WX.ret ?_
                    first
                    | exact Fin.results (O' := [(b12, ⟨4, false, flat encE _⟩)] ++ O) (.inr rfl) rfl (vs := [.agg #[_, _, _, _]]) ⟨⟨b6, 0, rfl, load_agg (n := 4) (vs := [_, _, _, _]) at_ agg25 sz25 rfl⟩, trivial⟩ (fun _ => Sat.told [0] 3 (by decide) (by decide) rfl) ⟨_, _, _, _, _, _, _, [_], rfl, (by simp), .row (by simp [flat_encE_len]), (by simp), rfl⟩
                    | exact Fin.results (O' := [(_, ⟨4, false, flat encE _⟩)] ++ O) (.inr rfl) rfl (vs := [.agg #[_, _, _, _]]) ⟨⟨b6, 0, rfl, load_agg (n := 4) (vs := [_, _, _, _]) at_ agg25 sz25 rfl⟩, trivial⟩ (fun _ => Sat.told [1] 4 (by decide) (by decide) rfl) ⟨_, _, _, _, _, _, _, [_], rfl, (by simp), .row (by simp [flat_encE_len]), (by simp), rfl⟩
  · try simp only [cnd] at hc0
    refine WX.skip ?_
    refine Fin.then_normal ?_
    refine WX.seq ?_
    refine WX.seq ?_
    have hka := around_range (n := how.tdiv 8) (m := (n.edges.length : Int))
    refine WX.region rfl ?_
    refine WXL.move Met.none rfl ?_
    refine WXL.cl (O1 := _) Met.none rfl (fnOk_of Try.func13 (by decide +kernel)) rfl (fun _ h => h) (around_ok _ _ _ hh (by omega)) (fun v O' hp => ?_)
    obtain ⟨rfl, hO⟩ := hp
    subst O'
    refine WXL.nil ?_
    refine Fin.then_normal ?_
    refine WX.block ?_
    refine WX.seq ?_
    refine WX.region rfl ?_
    refine WXL.bin Met.none rfl rfl rfl ?_
    refine WXL.assign Met.none rfl ?_
    refine WXL.nil ?_
    refine Fin.then_normal ?_
    refine WX.cond rfl (fun hc1 => ?_) (fun hc1 => ?_)
    · try simp only [cnd] at hc1
      refine WX.region rfl ?_
      refine WXL.move Met.none rfl ?_
      refine WXL.buildSlice (c := [_, _, _, _, _]) Met.none rfl elem22 sz3 zero3 (by decide) (by decide) rfl rfl rfl rfl (fun b28 => ?_)
      refine WXL.move Met.none rfl ?_
      refine WXL.cl (O1 := _) Met.none rfl (fnOk_of Try.func13 (by decide +kernel)) rfl (fun _ h => h) (around_ok _ _ _ hb (by omega)) (fun v O' hp => ?_)
      obtain ⟨rfl, hO⟩ := hp
      subst O'
      first | refine WXL.ix Met.none rfl rfl elem22 sz3 ?_ | refine WXL.ixS Met.none rfl rfl elem22 sz3 ?_
      refine WXL.load1 lz_ Met.none rfl at_ agg3 (cell_map I [by_, 1024, 1025, 1, 0] (around by_ 5).toNat (by simp only [List.length_cons, List.length_nil]; omega)) ?_
      refine WXL.fieldAddr (off' := 0) Met.none rfl Try.underlying25 rfl sz3 rfl ?_
      refine WXL.st (vs := [_]) (c' := [_, _, _, _]) Met.none rfl rfl rfl sz3 ?_
      refine WXL.nil ?_
      refine Fin.block_normal ?_
      refine Fin.then_normal ?_
      refine WX.seq ?_
      refine WX.region rfl ?_
      refine WXL.ldN (vs := [_, _, _, _]) Met.none rfl agg25 sz25 ?_
      refine WXL.st (vs := [_, _, _, _]) (c' := [_, _, _, _]) Met.none rfl rfl rfl sz25 ?_
      refine WXL.nil ?_
      refine Fin.then_normal ?_
      refine WX.ret ?_
      first
      | exact Fin.results (O' := [(b12, ⟨4, false, flat encE _⟩)] ++ O) (.inr rfl) rfl (vs := [.agg #[_, _, _, _]]) ⟨⟨b6, 0, rfl, load_agg (n := 4) (vs := [_, _, _, _]) at_ agg25 sz25 rfl⟩, trivial⟩ (fun _ => Sat.told [0] 3 (by decide) (by decide) rfl) ⟨_, _, _, _, _, _, _, [_], rfl, (by simp), .row (by simp [flat_encE_len]), (by simp), rfl⟩
      | exact Fin.results (O' := [(_, ⟨4, false, flat encE _⟩)] ++ O) (.inr rfl) rfl (vs := [.agg #[_, _, _, _]]) ⟨⟨b6, 0, rfl, load_agg (n := 4) (vs := [_, _, _, _]) at_ agg25 sz25 rfl⟩, trivial⟩ (fun _ => Sat.told [1] 4 (by decide) (by decide) rfl) ⟨_, _, _, _, _, _, _, [_], rfl, (by simp), .row (by simp [flat_encE_len]), (by simp), rfl⟩
    · try simp only [cnd] at hc1
      refine WX.seq ?_
      refine WX.region rfl ?_
      refine WXL.bin Met.none rfl rfl rfl ?_
      refine WXL.assign Met.none rfl ?_
      refine WXL.nil ?_
      refine Fin.then_normal ?_
      refine WX.cond rfl (fun hc2 => ?_) (fun hc2 => ?_)
      · try simp only [cnd] at hc2
        refine WX.draw rfl ?_
        refine WXL.move Met.none rfl ?_
        refine WXL.fieldAddr (off' := 2) Met.none rfl Try.underlying25 rfl sz3 rfl ?_
        first | refine WXL.ld Met.none rfl agg3 ?_ | refine WXL.ldS Met.none rfl agg3 ?_
        refine WXL.fieldAddr (off' := 0) Met.none rfl Try.underlying25 rfl sz3 rfl ?_
        first | refine WXL.ld Met.none rfl agg3 ?_ | refine WXL.ldS Met.none rfl agg3 ?_
        refine WXL.buildSlice (c := [_, _, _, _]) Met.none rfl elem22 sz3 zero3 (by decide) (by decide) rfl rfl rfl rfl (fun b41 => ?_)
        refine WXL.move Met.none rfl ?_
        refine WXL.cl (O1 := _) Met.none rfl (fnOk_of Try.func13 (by decide +kernel)) rfl (fun _ h => h) (around_ok _ _ _ hb (by omega)) (fun v O' hp => ?_)
        obtain ⟨rfl, hO⟩ := hp
        subst O'
        first | refine WXL.ix Met.none rfl rfl elem22 sz3 ?_ | refine WXL.ixS Met.none rfl rfl elem22 sz3 ?_
        refine WXL.load1 lz_ Met.none rfl at_ agg3 (cell_map I [by_, n.sink, -1, n.nodes] (around by_ 4).toNat (by simp only [List.length_cons, List.length_nil]; omega)) ?_
        refine WXL.fieldAddr (off' := 1) Met.none rfl Try.underlying25 rfl sz3 rfl ?_
        refine WXL.st (vs := [_]) (c' := [_, _, _, _]) Met.none rfl rfl rfl sz3 ?_
        refine WXL.nil ?_
        refine Fin.block_normal ?_
        refine Fin.then_normal ?_
        refine WX.seq ?_
        refine WX.region rfl ?_
        refine WXL.ldN (vs := [_, _, _, _]) Met.none rfl agg25 sz25 ?_
        refine WXL.st (vs := [_, _, _, _]) (c' := [_, _, _, _]) Met.none rfl rfl rfl sz25 ?_
        refine WXL.nil ?_
        refine Fin.then_normal ?_
        refine WX.ret ?_
        first
        | exact Fin.results (O' := [(b12, ⟨4, false, flat encE _⟩)] ++ O) (.inr rfl) rfl (vs := [.agg #[_, _, _, _]]) ⟨⟨b6, 0, rfl, load_agg (n := 4) (vs := [_, _, _, _]) at_ agg25 sz25 rfl⟩, trivial⟩ (fun _ => Sat.told [0] 3 (by decide) (by decide) rfl) ⟨_, _, _, _, _, _, _, [_], rfl, (by simp), .row (by simp [flat_encE_len]), (by simp), rfl⟩
        | exact Fin.results (O' := [(_, ⟨4, false, flat encE _⟩)] ++ O) (.inr rfl) rfl (vs := [.agg #[_, _, _, _]]) ⟨⟨b6, 0, rfl, load_agg (n := 4) (vs := [_, _, _, _]) at_ agg25 sz25 rfl⟩, trivial⟩ (fun _ => Sat.told [1] 4 (by decide) (by decide) rfl) ⟨_, _, _, _, _, _, _, [_], rfl, (by simp), .row (by simp [flat_encE_len]), (by simp), rfl⟩
      · try simp only [cnd] at hc2
        refine WX.seq ?_
        refine WX.region rfl ?_
        refine WXL.bin Met.none rfl rfl rfl ?_
        refine WXL.assign Met.none rfl ?_
        refine WXL.nil ?_
        refine Fin.then_normal ?_
        refine WX.cond rfl (fun hc3 => ?_) (fun hc3 => ?_)
        · try simp only [cnd] at hc3
          refine WX.draw rfl ?_
          refine WXL.move Met.none rfl ?_
          refine WXL.fieldAddr (off' := 0) Met.none rfl Try.underlying25 rfl sz3 rfl ?_
          first | refine WXL.ld Met.none rfl agg3 ?_ | refine WXL.ldS Met.none rfl agg3 ?_
          refine WXL.fieldAddr (off' := 0) Met.none rfl Try.underlying25 rfl sz3 rfl ?_
          first | refine WXL.ld Met.none rfl agg3 ?_ | refine WXL.ldS Met.none rfl agg3 ?_
          refine WXL.bin Met.none rfl rfl rfl ?_
          refine WXL.buildSlice (c := [_, _, _, _]) Met.none rfl elem22 sz3 zero3 (by decide) (by decide) rfl rfl rfl rfl (fun b55 => ?_)
          refine WXL.move Met.none rfl ?_
          refine WXL.cl (O1 := _) Met.none rfl (fnOk_of Try.func13 (by decide +kernel)) rfl (fun _ h => h) (around_ok _ _ _ hb (by omega)) (fun v O' hp => ?_)
          obtain ⟨rfl, hO⟩ := hp
          subst O'
          first | refine WXL.ix Met.none rfl rfl elem22 sz3 ?_ | refine WXL.ixS Met.none rfl rfl elem22 sz3 ?_
          refine WXL.load1 lz_ Met.none rfl at_ agg3 (cell_map I [by_, -1, n.nodes, IntKind.wrap .i64 (n.nodes - 1)] (around by_ 4).toNat (by simp only [List.length_cons, List.length_nil]; omega)) ?_
          refine WXL.fieldAddr (off' := 2) Met.none rfl Try.underlying25 rfl sz3 rfl ?_
          refine WXL.st (vs := [_]) (c' := [_, _, _, _]) Met.none rfl rfl rfl sz3 ?_
          refine WXL.nil ?_
          refine Fin.block_normal ?_
          refine Fin.then_normal ?_
          refine WX.seq ?_
          refine WX.region rfl ?_
          refine WXL.ldN (vs := [_, _, _, _]) Met.none rfl agg25 sz25 ?_
          refine WXL.st (vs := [_, _, _, _]) (c' := [_, _, _, _]) Met.none rfl rfl rfl sz25 ?_
          refine WXL.nil ?_
          refine Fin.then_normal ?_
          refine WX.ret ?_
          first
          | exact Fin.results (O' := [(b12, ⟨4, false, flat encE _⟩)] ++ O) (.inr rfl) rfl (vs := [.agg #[_, _, _, _]]) ⟨⟨b6, 0, rfl, load_agg (n := 4) (vs := [_, _, _, _]) at_ agg25 sz25 rfl⟩, trivial⟩ (fun _ => Sat.told [0] 3 (by decide) (by decide) rfl) ⟨_, _, _, _, _, _, _, [_], rfl, (by simp), .row (by simp [flat_encE_len]), (by simp), rfl⟩
          | exact Fin.results (O' := [(_, ⟨4, false, flat encE _⟩)] ++ O) (.inr rfl) rfl (vs := [.agg #[_, _, _, _]]) ⟨⟨b6, 0, rfl, load_agg (n := 4) (vs := [_, _, _, _]) at_ agg25 sz25 rfl⟩, trivial⟩ (fun _ => Sat.told [1] 4 (by decide) (by decide) rfl) ⟨_, _, _, _, _, _, _, [_], rfl, (by simp), .row (by simp [flat_encE_len]), (by simp), rfl⟩
        · try simp only [cnd] at hc3
          refine WX.seq ?_
          refine WX.region rfl ?_
          refine WXL.bin Met.none rfl rfl rfl ?_
          refine WXL.assign Met.none rfl ?_
          refine WXL.nil ?_
          refine Fin.then_normal ?_
          refine WX.cond rfl (fun hc4 => ?_) (fun hc4 => ?_)
          · try simp only [cnd] at hc4
            refine WX.region rfl ?_
            refine WXL.move Met.none rfl ?_
            refine WXL.move Met.none rfl ?_
            refine WXL.build (c := [_, _, _, _]) Met.none rfl zero63 places63 rfl ?_
            refine WXL.buildSlice (c := [_, _, _, _]) Met.none rfl elem23 sz63 zero63 (by decide) (by decide) rfl rfl rfl rfl (fun b66 => ?_)
            refine WXL.ap (j := 1) Met.none rfl rfl isrow23 elem23 sz63 by63 zero63 (Src.lit (cs := [_, _, _, _])) (fun b67 => ?_) (hj := rfl) (hl := (by rw [flat_encE_len]; omega)) (hc := (show _ = flat encE (n.edges ++ [⟨by_, 0, 1, 0⟩]) from by rw [List.drop_zero, flat_append, flat_one]; rfl))
            refine WXL.fieldAddr (off' := 3) Met.none rfl Try.underlying25 rfl sz23 rfl ?_
            refine WXL.st (vs := [_]) (c' := [_, _, _, _]) Met.none rfl rfl rfl sz23 ?_
            refine WXL.nil ?_
            refine Fin.block_normal ?_
            refine Fin.then_normal ?_
            refine WX.seq ?_
            refine WX.region rfl ?_
            refine WXL.ldN (vs := [_, _, _, _]) Met.none rfl agg25 sz25 ?_
            refine WXL.st (vs := [_, _, _, _]) (c' := [_, _, _, _]) Met.none rfl rfl rfl sz25 ?_
            refine WXL.nil ?_
            refine Fin.then_normal ?_
            refine WX.ret ?_
            first
            | exact Fin.results (O' := [(b12, ⟨4, false, flat encE _⟩)] ++ O) (.inr rfl) rfl (vs := [.agg #[_, _, _, _]]) ⟨⟨b6, 0, rfl, load_agg (n := 4) (vs := [_, _, _, _]) at_ agg25 sz25 rfl⟩, trivial⟩ (fun _ => Sat.told [0] 3 (by decide) (by decide) rfl) ⟨_, _, _, _, _, _, _, [_], rfl, (by simp), .row (by simp [flat_encE_len]), (by simp), rfl⟩
            | exact Fin.results (O' := [(_, ⟨4, false, flat encE _⟩)] ++ O) (.inr rfl) rfl (vs := [.agg #[_, _, _, _]]) ⟨⟨b6, 0, rfl, load_agg (n := 4) (vs := [_, _, _, _]) at_ agg25 sz25 rfl⟩, trivial⟩ (fun _ => Sat.told [1] 4 (by decide) (by decide) rfl) ⟨_, _, _, _, _, _, _, [_], rfl, (by simp), .row (by simp [flat_encE_len]), (by simp), rfl⟩
          · try simp only [cnd] at hc4
            refine WX.seq ?_
            refine WX.region rfl ?_
            refine WXL.bin Met.none rfl rfl rfl ?_
            refine WXL.assign Met.none rfl ?_
            refine WXL.nil ?_
            refine Fin.then_normal ?_
            refine WX.cond rfl (fun hc5 => ?_) (fun hc5 => ?_)
            · try simp only [cnd] at hc5
              refine WX.seq ?_
              refine WX.region rfl ?_
              refine WXL.move Met.none rfl ?_
              refine WXL.len Met.none rfl Try.underlying23 ?_
              refine WXL.bin Met.none rfl rfl rfl ?_
              refine WXL.nil ?_
              refine Fin.then_normal ?_
              refine WX.cond rfl (fun hc6 => ?_) (fun hc6 => ?_)
              · try simp only [cnd] at hc6
                refine WX.region rfl ?_
                refine WXL.move Met.none rfl ?_
                refine WXL.move Met.none rfl ?_
                refine WXL.move Met.none rfl ?_
                refine WXL.buildSlice (c := [_, _, _, _]) Met.none rfl elem22 sz3 zero3 (by decide) (by decide) rfl rfl rfl rfl (fun b77 => ?_)
                refine WXL.move Met.none rfl ?_
                refine WXL.cl (O1 := _) Met.none rfl (fnOk_of Try.func13 (by decide +kernel)) rfl (fun _ h => h) (around_ok _ _ _ hb (by omega)) (fun v O' hp => ?_)
                obtain ⟨rfl, hO⟩ := hp
                subst O'
                first | refine WXL.ix Met.none rfl rfl elem22 sz3 ?_ | refine WXL.ixS Met.none rfl rfl elem22 sz3 ?_
                refine WXL.load1 lz_ Met.none rfl at_ agg3 (cell_map I [by_, -1, 1099511627776, 1099511627777] (around by_ 4).toNat (by simp only [List.length_cons, List.length_nil]; omega)) ?_
                first | refine WXL.ix Met.none rfl rfl elem23 sz63 ?_ | refine WXL.ixS Met.none rfl rfl elem23 sz63 ?_
                first | refine WXL.fieldAddr Met.none rfl Try.underlying63 rfl sz3 rfl ?_ | refine WXL.faS Met.none rfl Try.underlying63 rfl sz3 ?_
                refine WXL.st (vs := [_]) (j := 1) Met.none rfl rfl rfl sz3 ?_ (hj := rfl) (hl := (by rw [flat_encE_len]; show _ * 4 + 2 + 1 ≤ _; omega)) (hc := (splice_cap n.edges _ _ (by omega)))
                refine WXL.nil ?_
                refine Fin.block_normal ?_
                refine Fin.then_normal ?_
                refine WX.seq ?_
                refine WX.region rfl ?_
                refine WXL.ldN (vs := [_, _, _, _]) Met.none rfl agg25 sz25 ?_
                refine WXL.st (vs := [_, _, _, _]) (c' := [_, _, _, _]) Met.none rfl rfl rfl sz25 ?_
                refine WXL.nil ?_
                refine Fin.then_normal ?_
                refine WX.ret ?_
                first
                | exact Fin.results (O' := [(b12, ⟨4, false, flat encE _⟩)] ++ O) (.inr rfl) rfl (vs := [.agg #[_, _, _, _]]) ⟨⟨b6, 0, rfl, load_agg (n := 4) (vs := [_, _, _, _]) at_ agg25 sz25 rfl⟩, trivial⟩ (fun _ => Sat.told [0] 3 (by decide) (by decide) rfl) ⟨_, _, _, _, _, _, _, [_], rfl, (by simp), .row (by simp [flat_encE_len]), (by simp), rfl⟩
                | exact Fin.results (O' := [(_, ⟨4, false, flat encE _⟩)] ++ O) (.inr rfl) rfl (vs := [.agg #[_, _, _, _]]) ⟨⟨b6, 0, rfl, load_agg (n := 4) (vs := [_, _, _, _]) at_ agg25 sz25 rfl⟩, trivial⟩ (fun _ => Sat.told [1] 4 (by decide) (by decide) rfl) ⟨_, _, _, _, _, _, _, [_], rfl, (by simp), .row (by simp [flat_encE_len]), (by simp), rfl⟩
              · try simp only [cnd] at hc6
                refine WX.skip ?_
                refine Fin.block_normal ?_
                refine Fin.then_normal ?_
                refine WX.seq ?_
                refine WX.region rfl ?_
                refine WXL.ldN (vs := [_, _, _, _]) Met.none rfl agg25 sz25 ?_
                refine WXL.st (vs := [_, _, _, _]) (c' := [_, _, _, _]) Met.none rfl rfl rfl sz25 ?_
                refine WXL.nil ?_
                refine Fin.then_normal ?_
                refine WX.ret ?_
                first
                | exact Fin.results (O' := [(b12, ⟨4, false, flat encE _⟩)] ++ O) (.inr rfl) rfl (vs := [.agg #[_, _, _, _]]) ⟨⟨b6, 0, rfl, load_agg (n := 4) (vs := [_, _, _, _]) at_ agg25 sz25 rfl⟩, trivial⟩ (fun _ => Sat.told [0] 3 (by decide) (by decide) rfl) ⟨_, _, _, _, _, _, _, [_], rfl, (by simp), .row (by simp [flat_encE_len]), (by simp), rfl⟩
                | exact Fin.results (O' := [(_, ⟨4, false, flat encE _⟩)] ++ O) (.inr rfl) rfl (vs := [.agg #[_, _, _, _]]) ⟨⟨b6, 0, rfl, load_agg (n := 4) (vs := [_, _, _, _]) at_ agg25 sz25 rfl⟩, trivial⟩ (fun _ => Sat.told [1] 4 (by decide) (by decide) rfl) ⟨_, _, _, _, _, _, _, [_], rfl, (by simp), .row (by simp [flat_encE_len]), (by simp), rfl⟩
            · try simp only [cnd] at hc5
              refine WX.seq ?_
              refine WX.region rfl ?_
              refine WXL.bin Met.none rfl rfl rfl ?_
              refine WXL.assign Met.none rfl ?_
              refine WXL.nil ?_
              refine Fin.then_normal ?_
              refine WX.cond rfl (fun hc7 => ?_) (fun hc7 => ?_)
              · try simp only [cnd] at hc7
                refine WX.seq ?_
                refine WX.region rfl ?_
                refine WXL.move Met.none rfl ?_
                refine WXL.len Met.none rfl Try.underlying23 ?_
                refine WXL.bin Met.none rfl rfl rfl ?_
                refine WXL.nil ?_
                refine Fin.then_normal ?_
                refine WX.cond rfl (fun hc8 => ?_) (fun hc8 => ?_)
                · try simp only [cnd] at hc8
                  refine WX.region rfl ?_
                  refine WXL.move Met.none rfl ?_
                  refine WXL.move Met.none rfl ?_
                  refine WXL.move Met.none rfl ?_
                  refine WXL.buildSlice (c := [_, _, _, _]) Met.none rfl elem22 sz3 zero3 (by decide) (by decide) rfl rfl rfl rfl (fun b92 => ?_)
                  refine WXL.move Met.none rfl ?_
                  refine WXL.cl (O1 := _) Met.none rfl (fnOk_of Try.func13 (by decide +kernel)) rfl (fun _ h => h) (around_ok _ _ _ hb (by omega)) (fun v O' hp => ?_)
                  obtain ⟨rfl, hO⟩ := hp
                  subst O'
                  first | refine WXL.ix Met.none rfl rfl elem22 sz3 ?_ | refine WXL.ixS Met.none rfl rfl elem22 sz3 ?_
                  refine WXL.load1 lz_ Met.none rfl at_ agg3 (cell_map I [by_, -1, 1099511627776, 1099511627777] (around by_ 4).toNat (by simp only [List.length_cons, List.length_nil]; omega)) ?_
                  first | refine WXL.ix Met.none rfl rfl elem23 sz63 ?_ | refine WXL.ixS Met.none rfl rfl elem23 sz63 ?_
                  first | refine WXL.fieldAddr Met.none rfl Try.underlying63 rfl sz3 rfl ?_ | refine WXL.faS Met.none rfl Try.underlying63 rfl sz3 ?_
                  refine WXL.st (vs := [_]) (j := 1) Met.none rfl rfl rfl sz3 ?_ (hj := rfl) (hl := (by rw [flat_encE_len]; show _ * 4 + 3 + 1 ≤ _; omega)) (hc := (splice_back n.edges _ _ (by omega)))
                  refine WXL.nil ?_
                  refine Fin.block_normal ?_
                  refine Fin.then_normal ?_
                  refine WX.seq ?_
                  refine WX.region rfl ?_
                  refine WXL.ldN (vs := [_, _, _, _]) Met.none rfl agg25 sz25 ?_
                  refine WXL.st (vs := [_, _, _, _]) (c' := [_, _, _, _]) Met.none rfl rfl rfl sz25 ?_
                  refine WXL.nil ?_
                  refine Fin.then_normal ?_
                  refine WX.ret ?_
                  first
                  | exact Fin.results (O' := [(b12, ⟨4, false, flat encE _⟩)] ++ O) (.inr rfl) rfl (vs := [.agg #[_, _, _, _]]) ⟨⟨b6, 0, rfl, load_agg (n := 4) (vs := [_, _, _, _]) at_ agg25 sz25 rfl⟩, trivial⟩ (fun _ => Sat.told [0] 3 (by decide) (by decide) rfl) ⟨_, _, _, _, _, _, _, [_], rfl, (by simp), .row (by simp [flat_encE_len]), (by simp), rfl⟩
                  | exact Fin.results (O' := [(_, ⟨4, false, flat encE _⟩)] ++ O) (.inr rfl) rfl (vs := [.agg #[_, _, _, _]]) ⟨⟨b6, 0, rfl, load_agg (n := 4) (vs := [_, _, _, _]) at_ agg25 sz25 rfl⟩, trivial⟩ (fun _ => Sat.told [1] 4 (by decide) (by decide) rfl) ⟨_, _, _, _, _, _, _, [_], rfl, (by simp), .row (by simp [flat_encE_len]), (by simp), rfl⟩
                · try simp only [cnd] at hc8
                  refine WX.skip ?_
                  refine Fin.block_normal ?_
                  refine Fin.then_normal ?_
                  refine WX.seq ?_
                  refine WX.region rfl ?_
                  refine WXL.ldN (vs := [_, _, _, _]) Met.none rfl agg25 sz25 ?_
                  refine WXL.st (vs := [_, _, _, _]) (c' := [_, _, _, _]) Met.none rfl rfl rfl sz25 ?_
                  refine WXL.nil ?_
                  refine Fin.then_normal ?_
                  refine WX.ret ?_
                  first
                  | exact Fin.results (O' := [(b12, ⟨4, false, flat encE _⟩)] ++ O) (.inr rfl) rfl (vs := [.agg #[_, _, _, _]]) ⟨⟨b6, 0, rfl, load_agg (n := 4) (vs := [_, _, _, _]) at_ agg25 sz25 rfl⟩, trivial⟩ (fun _ => Sat.told [0] 3 (by decide) (by decide) rfl) ⟨_, _, _, _, _, _, _, [_], rfl, (by simp), .row (by simp [flat_encE_len]), (by simp), rfl⟩
                  | exact Fin.results (O' := [(_, ⟨4, false, flat encE _⟩)] ++ O) (.inr rfl) rfl (vs := [.agg #[_, _, _, _]]) ⟨⟨b6, 0, rfl, load_agg (n := 4) (vs := [_, _, _, _]) at_ agg25 sz25 rfl⟩, trivial⟩ (fun _ => Sat.told [1] 4 (by decide) (by decide) rfl) ⟨_, _, _, _, _, _, _, [_], rfl, (by simp), .row (by simp [flat_encE_len]), (by simp), rfl⟩
              · try simp only [cnd] at hc7
                refine WX.seq ?_
                refine WX.region rfl ?_
                refine WXL.bin Met.none rfl rfl rfl ?_
                refine WXL.assign Met.none rfl ?_
                refine WXL.nil ?_
                refine Fin.then_normal ?_
                refine WX.cond rfl (fun hc9 => ?_) (fun hc9 => ?_)
                · try simp only [cnd] at hc9
                  refine WX.seq ?_
                  refine WX.region rfl ?_
                  refine WXL.move Met.none rfl ?_
                  refine WXL.len Met.none rfl Try.underlying23 ?_
                  refine WXL.bin Met.none rfl rfl rfl ?_
                  refine WXL.nil ?_
                  refine Fin.then_normal ?_
                  refine WX.cond rfl (fun hc10 => ?_) (fun hc10 => ?_)
                  · try simp only [cnd] at hc10
                    refine WX.region rfl ?_
                    refine WXL.move Met.none rfl ?_
                    refine WXL.move Met.none rfl ?_
                    refine WXL.move Met.none rfl ?_
                    refine WXL.move Met.none rfl ?_
                    first | refine WXL.ix Met.none rfl rfl elem23 sz63 ?_ | refine WXL.ixS Met.none rfl rfl elem23 sz63 ?_
                    first | refine WXL.fieldAddr Met.none rfl Try.underlying63 rfl sz3 rfl ?_ | refine WXL.faS Met.none rfl Try.underlying63 rfl sz3 ?_
                    first | refine WXL.ld Met.none rfl agg3 ?_ | refine WXL.ldS Met.none rfl agg3 ?_
                    first | refine WXL.ix Met.none rfl rfl elem23 sz63 ?_ | refine WXL.ixS Met.none rfl rfl elem23 sz63 ?_
                    first | refine WXL.fieldAddr Met.none rfl Try.underlying63 rfl sz3 rfl ?_ | refine WXL.faS Met.none rfl Try.underlying63 rfl sz3 ?_
                    refine WXL.st (vs := [_]) (j := 0) Met.none rfl rfl rfl sz3 ?_ (hj := rfl) (hl := (by rw [flat_encE_len]; show _ * 4 + 1 + 1 ≤ _; omega)) (hc := (splice_b n.edges _ _ (by omega)))
                    refine WXL.nil ?_
                    refine Fin.block_normal ?_
                    refine Fin.then_normal ?_
                    refine WX.seq ?_
                    refine WX.region rfl ?_
                    refine WXL.ldN (vs := [_, _, _, _]) Met.none rfl agg25 sz25 ?_
                    refine WXL.st (vs := [_, _, _, _]) (c' := [_, _, _, _]) Met.none rfl rfl rfl sz25 ?_
                    refine WXL.nil ?_
                    refine Fin.then_normal ?_
                    refine WX.ret ?_
                    first
                    | exact Fin.results (O' := [(b12, ⟨4, false, flat encE _⟩)] ++ O) (.inr rfl) rfl (vs := [.agg #[_, _, _, _]]) ⟨⟨b6, 0, rfl, load_agg (n := 4) (vs := [_, _, _, _]) at_ agg25 sz25 rfl⟩, trivial⟩ (fun _ => Sat.told [0] 3 (by decide) (by decide) rfl) ⟨_, _, _, _, _, _, _, [_], rfl, (by simp), .row (by simp [flat_encE_len]), (by simp), rfl⟩
                    | exact Fin.results (O' := [(_, ⟨4, false, flat encE _⟩)] ++ O) (.inr rfl) rfl (vs := [.agg #[_, _, _, _]]) ⟨⟨b6, 0, rfl, load_agg (n := 4) (vs := [_, _, _, _]) at_ agg25 sz25 rfl⟩, trivial⟩ (fun _ => Sat.told [1] 4 (by decide) (by decide) rfl) ⟨_, _, _, _, _, _, _, [_], rfl, (by simp), .row (by simp [flat_encE_len]), (by simp), rfl⟩
                  · try simp only [cnd] at hc10
                    refine WX.skip ?_
                    refine Fin.block_normal ?_
                    refine Fin.then_normal ?_
                    refine WX.seq ?_
                    refine WX.region rfl ?_
                    refine WXL.ldN (vs := [_, _, _, _]) Met.none rfl agg25 sz25 ?_
                    refine WXL.st (vs := [_, _, _, _]) (c' := [_, _, _, _]) Met.none rfl rfl rfl sz25 ?_
                    refine WXL.nil ?_
                    refine Fin.then_normal ?_
                    refine WX.ret ?_
                    first
                    | exact Fin.results (O' := [(b12, ⟨4, false, flat encE _⟩)] ++ O) (.inr rfl) rfl (vs := [.agg #[_, _, _, _]]) ⟨⟨b6, 0, rfl, load_agg (n := 4) (vs := [_, _, _, _]) at_ agg25 sz25 rfl⟩, trivial⟩ (fun _ => Sat.told [0] 3 (by decide) (by decide) rfl) ⟨_, _, _, _, _, _, _, [_], rfl, (by simp), .row (by simp [flat_encE_len]), (by simp), rfl⟩
                    | exact Fin.results (O' := [(_, ⟨4, false, flat encE _⟩)] ++ O) (.inr rfl) rfl (vs := [.agg #[_, _, _, _]]) ⟨⟨b6, 0, rfl, load_agg (n := 4) (vs := [_, _, _, _]) at_ agg25 sz25 rfl⟩, trivial⟩ (fun _ => Sat.told [1] 4 (by decide) (by decide) rfl) ⟨_, _, _, _, _, _, _, [_], rfl, (by simp), .row (by simp [flat_encE_len]), (by simp), rfl⟩
                · try simp only [cnd] at hc9
                  refine WX.seq ?_
                  refine WX.region rfl ?_
                  refine WXL.bin Met.none rfl rfl rfl ?_
                  refine WXL.assign Met.none rfl ?_
                  refine WXL.nil ?_
                  refine Fin.then_normal ?_
                  refine WX.cond rfl (fun hc11 => ?_) (fun hc11 => ?_)
                  · try simp only [cnd] at hc11
                    refine WX.region rfl ?_
                    refine WXL.move Met.none rfl ?_
                    refine WXL.build (c := [_, _, _, _]) Met.none rfl zero63 places63 rfl ?_
                    refine WXL.buildSlice (c := [_, _, _, _]) Met.none rfl elem23 sz63 zero63 (by decide) (by decide) rfl rfl rfl rfl (fun b117 => ?_)
                    refine WXL.ap (j := 1) Met.none rfl rfl isrow23 elem23 sz63 by63 zero63 (Src.lit (cs := [_, _, _, _])) (fun b118 => ?_) (hj := rfl) (hl := (by rw [flat_encE_len]; omega)) (hc := (show _ = flat encE (n.edges ++ [⟨0, 1, 3, 0⟩]) from by rw [List.drop_zero, flat_append, flat_one]; rfl))
                    refine WXL.fieldAddr (off' := 3) Met.none rfl Try.underlying25 rfl sz23 rfl ?_
                    refine WXL.st (vs := [_]) (c' := [_, _, _, _]) Met.none rfl rfl rfl sz23 ?_
                    refine WXL.nil ?_
                    refine Fin.block_normal ?_
                    refine Fin.then_normal ?_
                    refine WX.seq ?_
                    refine WX.region rfl ?_
                    refine WXL.ldN (vs := [_, _, _, _]) Met.none rfl agg25 sz25 ?_
                    refine WXL.st (vs := [_, _, _, _]) (c' := [_, _, _, _]) Met.none rfl rfl rfl sz25 ?_
                    refine WXL.nil ?_
                    refine Fin.then_normal ?_
                    refine WX.ret ?_
                    first
                    | exact Fin.results (O' := [(b12, ⟨4, false, flat encE _⟩)] ++ O) (.inr rfl) rfl (vs := [.agg #[_, _, _, _]]) ⟨⟨b6, 0, rfl, load_agg (n := 4) (vs := [_, _, _, _]) at_ agg25 sz25 rfl⟩, trivial⟩ (fun _ => Sat.told [0] 3 (by decide) (by decide) rfl) ⟨_, _, _, _, _, _, _, [_], rfl, (by simp), .row (by simp [flat_encE_len]), (by simp), rfl⟩
                    | exact Fin.results (O' := [(_, ⟨4, false, flat encE _⟩)] ++ O) (.inr rfl) rfl (vs := [.agg #[_, _, _, _]]) ⟨⟨b6, 0, rfl, load_agg (n := 4) (vs := [_, _, _, _]) at_ agg25 sz25 rfl⟩, trivial⟩ (fun _ => Sat.told [1] 4 (by decide) (by decide) rfl) ⟨_, _, _, _, _, _, _, [_], rfl, (by simp), .row (by simp [flat_encE_len]), (by simp), rfl⟩
                  · try simp only [cnd] at hc11
                    refine WX.skip ?_
                    refine Fin.block_normal ?_
                    refine Fin.then_normal ?_
                    refine WX.seq ?_
                    refine WX.region rfl ?_
                    refine WXL.ldN (vs := [_, _, _, _]) Met.none rfl agg25 sz25 ?_
                    refine WXL.st (vs := [_, _, _, _]) (c' := [_, _, _, _]) Met.none rfl rfl rfl sz25 ?_
                    refine WXL.nil ?_
                    refine Fin.then_normal ?_
                    refine WX.ret ?_
                    first
                    | exact Fin.results (O' := [(b12, ⟨4, false, flat encE _⟩)] ++ O) (.inr rfl) rfl (vs := [.agg #[_, _, _, _]]) ⟨⟨b6, 0, rfl, load_agg (n := 4) (vs := [_, _, _, _]) at_ agg25 sz25 rfl⟩, trivial⟩ (fun _ => Sat.told [0] 3 (by decide) (by decide) rfl) ⟨_, _, _, _, _, _, _, [_], rfl, (by simp), .row (by simp [flat_encE_len]), (by simp), rfl⟩
                    | exact Fin.results (O' := [(_, ⟨4, false, flat encE _⟩)] ++ O) (.inr rfl) rfl (vs := [.agg #[_, _, _, _]]) ⟨⟨b6, 0, rfl, load_agg (n := 4) (vs := [_, _, _, _]) at_ agg25 sz25 rfl⟩, trivial⟩ (fun _ => Sat.told [1] 4 (by decide) (by decide) rfl) ⟨_, _, _, _, _, _, _, [_], rfl, (by simp), .row (by simp [flat_encE_len]), (by simp), rfl⟩

theorem spoilt_ok (O : Objs) (n : Net4) (how by_ : Int) (a : Option Addr) (c : Nat) (hl : Edges O n a c) (hlen : n.edges.length ≤ 1000) (hh : In64 how) (hb : In64 by_) :
    Spec Try.prog false 12 #[netV n a c, I how, I by_] O fun v O' => ∃ (x : Net4) (a' : Option Addr) (c' : Nat) (G : Objs), v = netV x a' c' ∧ Grow 4 a' x.edges.length c' (flat encE x.edges) G ∧ x.edges.length ≤ n.edges.length + 1 ∧ O' = G ++ O :=
  (spoilt_ok0 O n how by_ a c hl hlen hh hb).mono fun v O' ⟨nd, so, si, es, a', c', m, G, h1, h2, h3, h4, h5⟩ => ⟨⟨nd, so, si, es⟩, a', c', G, by rw [h1, h2]; rfl, by rw [h2] at h3; exact h3, h4, h5⟩

end Go.Proofs.Ytjmklialkjncaaa.Eng

set_option linter.unusedVariables false
set_option linter.unusedSimpArgs false
namespace Go.Proofs.Ytjmklialkjncaaa.Eng

/-- What leaves a node by the first edges. -/
def netTo (n : Net4) (f : List Int) (k : Nat) (v : Int) : Int := sumTo (fun i => leaves n v i (nth f i)) k

theorem netTo_succ (n : Net4) (f : List Int) (k : Nat) (v : Int) : netTo n f (k + 1) v = netTo n f k v + leaves n v k (nth f k) := rfl

theorem netTo_bound {n : Net4} (hn : Sound n) {f : List Int} (hf : Flow n f) (v : Int) : ∀ k, k ≤ n.edges.length → -((k : Int) * 1099511627776) ≤ netTo n f k v ∧ netTo n f k v ≤ k * 1099511627776 := by
  intro k
  induction k with
  | zero => intro _; unfold netTo sumTo; omega
  | succ k ih =>
    intro hk
    have h1 := ih (by omega)
    have he := hn.at (i := k) (by omega)
    have hc := hf.cap k (by omega)
    rw [netTo_succ]
    unfold leaves
    split <;> split <;> omega

theorem netTo_in {n : Net4} (hn : Sound n) {f : List Int} (hf : Flow n f) (v : Int) {k : Nat} (hk : k ≤ n.edges.length) : -9007199254740992 ≤ netTo n f k v ∧ netTo n f k v ≤ 9007199254740992 := by
  have h1 := netTo_bound hn hf v k hk
  have h2 := hn.len
  omega

/-- Behind its edge's one end. -/
def netHalf (n : Net4) (f : List Int) (k : Nat) (v : Int) : Int := netTo n f k v + if (nth n.edges k).a = v then nth f k else 0

theorem netHalf_succ (n : Net4) (f : List Int) (k : Nat) (v : Int) : netTo n f (k + 1) v = netHalf n f k v - if (nth n.edges k).b = v then nth f k else 0 := by
  rw [netTo_succ]
  unfold netHalf leaves
  omega

theorem out_ok (O : Objs) (n : Net4) (f : List Int) (v : Int) (a af : Option Addr) (c cf : Nat) (hn : Sound n) (hfl : Flow n f) (hl : Edges O n a c) (hf : Src O 1 (.slice af f.length cf) f.length (f.map I)) :
    Spec Try.prog true 47 #[netV n a c, .slice af f.length cf, I v] O fun u O' => u = I (netOut n f v) ∧ O' = O := by
  have hlen := hn.len
  have hfe := hfl.len
  refine Spec.enter (args := [_, _, _]) (m := 45) Try.func47 rfl rfl (by decide +kernel) fun h0 => ?_
  refine WX.seq ?_
  refine WX.region rfl ?_
  refine WXL.box (c := [_, _, _, _]) Met.none rfl rfl rfl (fun b3 => ?_)
  refine WXL.assign Met.none rfl ?_
  refine WXL.nil ?_
  refine Fin.then_normal ?_
  refine WX.seq ?_
  refine WX.region rfl ?_
  refine WXL.assign Met.none rfl ?_
  refine WXL.nil ?_
  refine Fin.then_normal ?_
  refine WX.seq ?_
  refine WX.seq ?_
  refine WX.region rfl ?_
  refine WXL.assign Met.none rfl ?_
  refine WXL.nil ?_
  refine Fin.then_normal ?_
  refine WX.block ?_
  refine WX.loop (fun k : Nat => [(1, .slice af f.length cf), (2, I v), (3, Ptr b3 0), (7, I (netTo n f k v)), (8, I (k : Int))]) (fun _ => (b3, ⟨0, false, [I n.nodes, I n.source, I n.sink, .slice a n.edges.length c]⟩) :: O) (fun k => k ≤ n.edges.length) (fun k => n.edges.length - k) 0 (Nat.zero_le _) (fun s hs => hs.tl [0] 1) (fun k hk => ?_)
  have hb := netTo_in hn hfl v hk
  refine WX.seq ?_
  refine WX.seq ?_
  refine WX.region rfl ?_
  refine WXL.move Met.none rfl ?_
  refine WXL.fieldAddr (off' := 3) Met.none rfl Try.underlying25 rfl sz23 rfl ?_
  first | refine WXL.ld Met.none rfl agg23 ?_ | refine WXL.ldS Met.none rfl agg23 ?_
  refine WXL.len Met.none rfl Try.underlying23 ?_
  refine WXL.bin Met.none rfl rfl rfl ?_
  refine WXL.nil ?_
  refine Fin.then_normal ?_
  refine WX.cond rfl (fun hc0 => ?_) (fun hc0 => ?_)
  · try simp only [cnd] at hc0
    refine WX.skip ?_
    refine Fin.then_normal ?_
    refine WX.seq ?_
    refine WX.block ?_
    refine WX.seq ?_
    refine WX.seq ?_
    have hcp := hfl.cap k (by omega)
    have he := hn.at (i := k) (by omega)
    have hsc := netTo_succ n f k v
    have hbs := netTo_in hn hfl v (k := k + 1) (by omega)
    unfold leaves at hsc
    refine WX.region rfl ?_
    refine WXL.fieldAddr (off' := 3) Met.none rfl Try.underlying25 rfl sz23 rfl ?_
    first | refine WXL.ld Met.none rfl agg23 ?_ | refine WXL.ldS Met.none rfl agg23 ?_
    refine WXL.move Met.none rfl ?_
    first | refine WXL.ix Met.none rfl rfl elem23 sz63 ?_ | refine WXL.ixS Met.none rfl rfl elem23 sz63 ?_
    first | refine WXL.fieldAddr Met.none rfl Try.underlying63 rfl sz3 rfl ?_ | refine WXL.faS Met.none rfl Try.underlying63 rfl sz3 ?_
    first | refine WXL.ld Met.none rfl agg3 ?_ | refine WXL.ldS Met.none rfl agg3 ?_
    refine WXL.move Met.none rfl ?_
    refine WXL.bin Met.none rfl rfl rfl ?_
    refine WXL.nil ?_
    refine Fin.then_normal ?_
    refine WX.cond rfl (fun hc1 => ?_) (fun hc1 => ?_)
    · try simp only [cnd] at hc1
      refine WX.region rfl ?_
      refine WXL.move Met.none rfl ?_
      refine WXL.move Met.none rfl ?_
      refine WXL.move Met.none rfl ?_
      first | refine WXL.ix Met.none rfl rfl elem22 sz3 ?_ | refine WXL.ixS Met.none rfl rfl elem22 sz3 ?_
      first | refine WXL.ld Met.none rfl agg3 ?_ | refine WXL.ldS Met.none rfl agg3 ?_
      refine WXL.bin Met.none rfl rfl bvA ?_
      refine WXL.assign Met.none rfl ?_
      refine WXL.nil ?_
      refine Fin.then_normal ?_
      refine WX.seq ?_
      refine WX.region rfl ?_
      refine WXL.fieldAddr (off' := 3) Met.none rfl Try.underlying25 rfl sz23 rfl ?_
      first | refine WXL.ld Met.none rfl agg23 ?_ | refine WXL.ldS Met.none rfl agg23 ?_
      refine WXL.move Met.none rfl ?_
      first | refine WXL.ix Met.none rfl rfl elem23 sz63 ?_ | refine WXL.ixS Met.none rfl rfl elem23 sz63 ?_
      first | refine WXL.fieldAddr Met.none rfl Try.underlying63 rfl sz3 rfl ?_ | refine WXL.faS Met.none rfl Try.underlying63 rfl sz3 ?_
      first | refine WXL.ld Met.none rfl agg3 ?_ | refine WXL.ldS Met.none rfl agg3 ?_
      refine WXL.move Met.none rfl ?_
      refine WXL.bin Met.none rfl rfl rfl ?_
      refine WXL.nil ?_
      refine Fin.then_normal ?_
      refine WX.cond rfl (fun hc2 => ?_) (fun hc2 => ?_)
      · try simp only [cnd] at hc2
        refine WX.region rfl ?_
        refine WXL.move Met.none rfl ?_
        refine WXL.move Met.none rfl ?_
        refine WXL.move Met.none rfl ?_
        first | refine WXL.ix Met.none rfl rfl elem22 sz3 ?_ | refine WXL.ixS Met.none rfl rfl elem22 sz3 ?_
        first | refine WXL.ld Met.none rfl agg3 ?_ | refine WXL.ldS Met.none rfl agg3 ?_
        refine WXL.bin Met.none rfl rfl bvS ?_
        refine WXL.assign Met.none rfl ?_
        refine WXL.nil ?_
        refine Fin.block_normal ?_
        refine Fin.then_normal ?_
        refine WX.region rfl ?_
        refine WXL.move Met.none rfl ?_
        refine WXL.bin Met.none rfl rfl bvA ?_
        refine WXL.assign Met.none rfl ?_
        refine WXL.nil ?_
        refine Fin.loop_next (k + 1) (by first | omega | (simp only; omega)) (by first | omega | (simp only; omega)) ?_
        rw [hsc]
        first
        | (rw [if_pos hc1, if_neg (by omega)]; exact (fun s hs => hs.tl [0] 1))
        | (rw [if_neg hc1, if_pos hc2]; exact (fun s hs => hs.tl [0] 1))
        | (rw [if_neg hc1, if_neg hc2]; exact (fun s hs => hs.tl [0] 1))
      · try simp only [cnd] at hc2
        refine WX.skip ?_
        refine Fin.block_normal ?_
        refine Fin.then_normal ?_
        refine WX.region rfl ?_
        refine WXL.move Met.none rfl ?_
        refine WXL.bin Met.none rfl rfl bvA ?_
        refine WXL.assign Met.none rfl ?_
        refine WXL.nil ?_
        refine Fin.loop_next (k + 1) (by first | omega | (simp only; omega)) (by first | omega | (simp only; omega)) ?_
        rw [hsc]
        first
        | (rw [if_pos hc1, if_neg (by omega)]; exact (fun s hs => hs.tl [0] 1))
        | (rw [if_neg hc1, if_pos hc2]; exact (fun s hs => hs.tl [0] 1))
        | (rw [if_neg hc1, if_neg hc2]; exact (fun s hs => hs.tl [0] 1))
    · try simp only [cnd] at hc1
      refine WX.skip ?_
      refine Fin.then_normal ?_
      refine WX.seq ?_
      refine WX.region rfl ?_
      refine WXL.fieldAddr (off' := 3) Met.none rfl Try.underlying25 rfl sz23 rfl ?_
      first | refine WXL.ld Met.none rfl agg23 ?_ | refine WXL.ldS Met.none rfl agg23 ?_
      refine WXL.move Met.none rfl ?_
      first | refine WXL.ix Met.none rfl rfl elem23 sz63 ?_ | refine WXL.ixS Met.none rfl rfl elem23 sz63 ?_
      first | refine WXL.fieldAddr Met.none rfl Try.underlying63 rfl sz3 rfl ?_ | refine WXL.faS Met.none rfl Try.underlying63 rfl sz3 ?_
      first | refine WXL.ld Met.none rfl agg3 ?_ | refine WXL.ldS Met.none rfl agg3 ?_
      refine WXL.move Met.none rfl ?_
      refine WXL.bin Met.none rfl rfl rfl ?_
      refine WXL.nil ?_
      refine Fin.then_normal ?_
      refine WX.cond rfl (fun hc2 => ?_) (fun hc2 => ?_)
      · try simp only [cnd] at hc2
        refine WX.region rfl ?_
        refine WXL.move Met.none rfl ?_
        refine WXL.move Met.none rfl ?_
        refine WXL.move Met.none rfl ?_
        first | refine WXL.ix Met.none rfl rfl elem22 sz3 ?_ | refine WXL.ixS Met.none rfl rfl elem22 sz3 ?_
        first | refine WXL.ld Met.none rfl agg3 ?_ | refine WXL.ldS Met.none rfl agg3 ?_
        refine WXL.bin Met.none rfl rfl bvS ?_
        refine WXL.assign Met.none rfl ?_
        refine WXL.nil ?_
        refine Fin.block_normal ?_
        refine Fin.then_normal ?_
        refine WX.region rfl ?_
        refine WXL.move Met.none rfl ?_
        refine WXL.bin Met.none rfl rfl bvA ?_
        refine WXL.assign Met.none rfl ?_
        refine WXL.nil ?_
        refine Fin.loop_next (k + 1) (by first | omega | (simp only; omega)) (by first | omega | (simp only; omega)) ?_
        rw [hsc]
        first
        | (rw [if_pos hc1, if_neg (by omega)]; exact (fun s hs => hs.tl [0] 1))
        | (rw [if_neg hc1, if_pos hc2]; exact (fun s hs => hs.tl [0] 1))
        | (rw [if_neg hc1, if_neg hc2]; exact (fun s hs => hs.tl [0] 1))
      · try simp only [cnd] at hc2
        refine WX.skip ?_
        refine Fin.block_normal ?_
        refine Fin.then_normal ?_
        refine WX.region rfl ?_
        refine WXL.move Met.none rfl ?_
        refine WXL.bin Met.none rfl rfl bvA ?_
        refine WXL.assign Met.none rfl ?_
        refine WXL.nil ?_
        refine Fin.loop_next (k + 1) (by first | omega | (simp only; omega)) (by first | omega | (simp only; omega)) ?_
        rw [hsc]
        first
        | (rw [if_pos hc1, if_neg (by omega)]; exact (fun s hs => hs.tl [0] 1))
        | (rw [if_neg hc1, if_pos hc2]; exact (fun s hs => hs.tl [0] 1))
        | (rw [if_neg hc1, if_neg hc2]; exact (fun s hs => hs.tl [0] 1))
  · try simp only [cnd] at hc0
    refine WX.exit ?_
    refine Fin.then_exit ?_
    refine Fin.loop_exit ?_
    refine Fin.block_hit rfl ?_
    refine Fin.then_normal ?_
    refine WX.seq ?_
    refine WX.region rfl ?_
    refine WXL.move Met.none rfl ?_
    refine WXL.assign Met.none rfl ?_
    refine WXL.nil ?_
    refine Fin.then_normal ?_
    refine WX.ret ?_
    have hk2 : k = n.edges.length := by omega
    subst hk2
    exact Fin.result (O' := O) (.inr rfl) rfl rfl drop_ ⟨rfl, rfl⟩

def outs (n : Net4) (F : Int → Int) : List Int := (List.range n.nodes.toNat).map fun (v : Nat) => F (v : Int)

theorem outs_len (n : Net4) (F : Int → Int) : (outs n F).length = n.nodes.toNat := by unfold outs; simp

theorem outs_nth (n : Net4) (F : Int → Int) {v : Int} (h0 : 0 ≤ v) (h1 : v < n.nodes) : nth (outs n F) v.toNat = F v := by
  unfold outs
  rw [nth_map (by simp; omega), nth_get (by simp; omega), List.getElem_range, Int.toNat_of_nonneg h0]

theorem outs_set (n : Net4) (F : Int → Int) {v x : Int} (h0 : 0 ≤ v) (h1 : v < n.nodes) : (outs n F).set v.toNat x = outs n fun u => if v = u then x else F u := by
  refine ext_nth (by rw [List.length_set, outs_len, outs_len]) fun j hj => ?_
  rw [List.length_set, outs_len] at hj
  have e : j = ((j : Int)).toNat := by simp
  rw [nth_set (by rw [outs_len]; omega) (by rw [outs_len]; exact hj), e, outs_nth n _ (by omega) (by omega), outs_nth n _ (by omega) (by omega)]
  by_cases q : v = (j : Int)
  · rw [if_pos q, if_pos (by omega)]
  · rw [if_neg q, if_neg (by omega)]

theorem outs_congr (n : Net4) {F G : Int → Int} (h : ∀ v, F v = G v) : outs n F = outs n G := by
  unfold outs
  exact List.map_congr_left fun v _ => h v

theorem balance_ok (O : Objs) (n : Net4) (f : List Int) (a af : Option Addr) (c cf : Nat) (hn : Sound n) (hfl : Flow n f) (hl : Edges O n a c) (hf : Src O 1 (.slice af f.length cf) f.length (f.map I)) :
    Spec Try.prog false 46 #[netV n a c, .slice af f.length cf] O fun u O' => ∃ b, u = Row b 0 n.nodes.toNat n.nodes.toNat ∧ O' = (b, ⟨1, false, (outs n (netOut n f)).map I⟩) :: O := by
  have hlen := hn.len
  have hfe := hfl.len
  have hnn := hn.nodes
  refine Spec.enter (args := [_, _]) (m := 43) Try.func46 rfl rfl (by decide +kernel) fun h0 => ?_
  refine WX.seq ?_
  refine WX.region rfl ?_
  refine WXL.box (c := [_, _, _, _]) Met.none rfl rfl rfl (fun b2 => ?_)
  refine WXL.assign Met.none rfl ?_
  refine WXL.nil ?_
  refine Fin.then_normal ?_
  refine WX.seq ?_
  refine WX.region rfl ?_
  refine WXL.fieldAddr (off' := 0) Met.none rfl Try.underlying36 rfl sz3 rfl ?_
  first | refine WXL.ld Met.none rfl agg3 ?_ | refine WXL.ldS Met.none rfl agg3 ?_
  refine WXL.makeSlice Met.none rfl rfl elem22 sz3 by3 zero3 (by omega) (by omega) (by omega) rfl (by decide) (by first | rw [Int.toNat_natCast] | exact rfl) (show _ = (outs n (netTo n f 0)).map I from (zerosL_map I 0 _).trans (congrArg (List.map I) (by unfold outs netTo sumTo; rw [List.map_const']; simp))) (fun b10 => ?_)
  refine WXL.assign Met.none rfl ?_
  refine WXL.nil ?_
  refine Fin.then_normal ?_
  refine WX.seq ?_
  refine WX.seq ?_
  refine WX.region rfl ?_
  refine WXL.fieldAddr (off' := 3) Met.none rfl Try.underlying36 rfl sz34 rfl ?_
  first | refine WXL.ld Met.none rfl agg34 ?_ | refine WXL.ldS Met.none rfl agg34 ?_
  refine WXL.len Met.none rfl Try.underlying34 ?_
  refine WXL.move Met.none rfl ?_
  refine WXL.nil ?_
  refine Fin.then_normal ?_
  refine WX.block ?_
  refine WX.loop (fun k : Nat => [(1, .slice af f.length cf), (2, Ptr b2 0), (5, Row b10 0 n.nodes.toNat n.nodes.toNat), (12, .slice a n.edges.length c), (13, I (n.edges.length : Int)), (14, I (k : Int))]) (fun k => (b10, ⟨1, false, (outs n (netTo n f k)).map I⟩) :: (b2, ⟨0, false, [I n.nodes, I n.source, I n.sink, .slice a n.edges.length c]⟩) :: O) (fun k => k ≤ n.edges.length) (fun k => n.edges.length - k) 0 (Nat.zero_le _) (fun s hs => hs.tl [0, 1] 2) (fun k hk => ?_)
  refine WX.seq ?_
  refine WX.region rfl ?_
  refine WXL.bin Met.none rfl rfl rfl ?_
  refine WXL.nil ?_
  refine Fin.then_normal ?_
  refine WX.seq ?_
  refine WX.cond rfl (fun hc0 => ?_) (fun hc0 => ?_)
  · try simp only [cnd] at hc0
    refine WX.skip ?_
    refine Fin.then_normal ?_
    refine WX.seq ?_
    refine WX.block ?_
    refine WX.seq ?_
    have he := hn.at (i := k) (by omega)
    have hcp := hfl.cap k (by omega)
    have ha := outs_nth n (netTo n f k) he.1 he.2.1
    have hb := outs_nth n (netHalf n f k) he.2.2.1 he.2.2.2.1
    have hsa := outs_set n (netTo n f k) (x := netTo n f k (nth n.edges k).a + nth f k) he.1 he.2.1
    have hsb := outs_set n (netHalf n f k) (x := netHalf n f k (nth n.edges k).b - nth f k) he.2.2.1 he.2.2.2.1
    have hba := netTo_in hn hfl (nth n.edges k).a hk
    have hbb := netTo_in hn hfl (nth n.edges k).b hk
    have hhalf : netHalf n f k (nth n.edges k).b = netTo n f k (nth n.edges k).b := by unfold netHalf; rw [if_neg (by omega)]; omega
    have e1 : outs n (fun u => if (nth n.edges k).a = u then netTo n f k (nth n.edges k).a + nth f k else netTo n f k u) = outs n (netHalf n f k) := outs_congr n fun u => by
      unfold netHalf
      split
      · rename_i q; rw [q]
      · omega
    have e2 : outs n (fun u => if (nth n.edges k).b = u then netHalf n f k (nth n.edges k).b - nth f k else netHalf n f k u) = outs n (netTo n f (k + 1)) := outs_congr n fun u => by
      rw [netHalf_succ]
      split
      · rename_i q; rw [q]
      · omega
    have hol : ∀ F, (outs n F).length = n.nodes.toNat := outs_len n
    have hol1 := hol (netTo n f k)
    have hol2 := hol (netHalf n f k)
    refine WX.region rfl ?_
    refine WXL.move Met.none rfl ?_
    first | refine WXL.ix Met.none rfl rfl elem34 sz44 ?_ | refine WXL.ixS Met.none rfl rfl elem34 sz44 ?_
    first | refine WXL.ldN Met.none rfl agg44 sz44 ?_ | refine WXL.ldNS Met.none rfl agg44 sz44 ?_
    refine WXL.alloc (c := [_, _, _, _]) Met.none zero44 rfl (fun b7 => ?_)
    refine WXL.assign Met.none rfl ?_
    refine WXL.st (vs := [_, _, _, _]) (c' := [_, _, _, _]) Met.none rfl rfl rfl sz44 ?_
    refine WXL.nil ?_
    refine Fin.then_normal ?_
    refine WX.seq ?_
    refine WX.draw rfl ?_
    refine WXL.move Met.none rfl ?_
    refine WXL.fieldAddr (off' := 0) Met.none rfl Try.underlying44 rfl sz3 rfl ?_
    first | refine WXL.ld Met.none rfl agg3 ?_ | refine WXL.ldS Met.none rfl agg3 ?_
    first | refine WXL.ix Met.none rfl rfl elem22 sz3 ?_ | refine WXL.ixS Met.none rfl rfl elem22 sz3 ?_
    first | refine WXL.ld Met.none rfl agg3 ?_ | refine WXL.ldS Met.none rfl agg3 ?_
    rw [ha]
    refine WXL.move Met.none rfl ?_
    refine WXL.move Met.none rfl ?_
    first | refine WXL.ix Met.none rfl rfl elem22 sz3 ?_ | refine WXL.ixS Met.none rfl rfl elem22 sz3 ?_
    first | refine WXL.ld Met.none rfl agg3 ?_ | refine WXL.ldS Met.none rfl agg3 ?_
    refine WXL.bin Met.none rfl rfl bvA ?_
    first | refine WXL.ix Met.none rfl rfl elem22 sz3 ?_ | refine WXL.ixS Met.none rfl rfl elem22 sz3 ?_
    refine WXL.st (vs := [_]) (j := 1) Met.none rfl rfl rfl sz3 ?_ (hj := rfl) (hl := (by rw [List.length_map, hol1]; show _ + 1 ≤ _; omega)) (hc := ((splice_map I (outs n (netTo n f k)) _ _ (by omega)).trans (congrArg (List.map I) (hsa.trans e1))))
    refine WXL.nil ?_
    refine Fin.then_normal ?_
    refine WX.draw rfl ?_
    refine WXL.move Met.none rfl ?_
    refine WXL.fieldAddr (off' := 1) Met.none rfl Try.underlying44 rfl sz3 rfl ?_
    first | refine WXL.ld Met.none rfl agg3 ?_ | refine WXL.ldS Met.none rfl agg3 ?_
    first | refine WXL.ix Met.none rfl rfl elem22 sz3 ?_ | refine WXL.ixS Met.none rfl rfl elem22 sz3 ?_
    first | refine WXL.ld Met.none rfl agg3 ?_ | refine WXL.ldS Met.none rfl agg3 ?_
    rw [hb]
    refine WXL.move Met.none rfl ?_
    refine WXL.move Met.none rfl ?_
    first | refine WXL.ix Met.none rfl rfl elem22 sz3 ?_ | refine WXL.ixS Met.none rfl rfl elem22 sz3 ?_
    first | refine WXL.ld Met.none rfl agg3 ?_ | refine WXL.ldS Met.none rfl agg3 ?_
    refine WXL.bin Met.none rfl rfl bvS ?_
    first | refine WXL.ix Met.none rfl rfl elem22 sz3 ?_ | refine WXL.ixS Met.none rfl rfl elem22 sz3 ?_
    refine WXL.st (vs := [_]) (j := 1) Met.none rfl rfl rfl sz3 ?_ (hj := rfl) (hl := (by rw [List.length_map, hol2]; show _ + 1 ≤ _; omega)) (hc := ((splice_map I (outs n (netHalf n f k)) _ _ (by omega)).trans (congrArg (List.map I) (hsb.trans e2))))
    refine WXL.nil ?_
    refine Fin.block_normal ?_
    refine Fin.then_normal ?_
    refine WX.region rfl ?_
    refine WXL.bin Met.none rfl rfl bvA ?_
    refine WXL.move Met.none rfl ?_
    refine WXL.nil ?_
    exact Fin.loop_next (k + 1) (by first | omega | (simp only; omega)) (by first | omega | (simp only; omega)) (fun s hs => hs.tl [1, 2] 3)
  · try simp only [cnd] at hc0
    refine WX.exit ?_
    refine Fin.then_exit ?_
    refine Fin.loop_exit ?_
    refine Fin.block_hit rfl ?_
    refine Fin.then_normal ?_
    refine WX.seq ?_
    refine WX.region rfl ?_
    refine WXL.move Met.none rfl ?_
    refine WXL.assign Met.none rfl ?_
    refine WXL.nil ?_
    refine Fin.then_normal ?_
    refine WX.ret ?_
    have hk2 : k = n.edges.length := by omega
    subst hk2
    exact Fin.result (O' := (b10, ⟨1, false, (outs n (netOut n f)).map I⟩) :: O) (.inr rfl) rfl rfl (fun _ => Sat.told [0] 2 (by decide) (by decide) rfl) ⟨b10, rfl, rfl⟩

/-- What a flow is: within the capacities, and no node but the ends keeps anything. -/
def FlowOk (n : Net4) (f : List Int) : Prop := Flow n f ∧ ∀ v, 0 ≤ v → v < n.nodes → v ≠ n.source → v ≠ n.sink → netOut n f v = 0

theorem flow_ok (O : Objs) (n : Net4) (f : List Int) (a af : Option Addr) (c cf : Nat) (hn : Sound n) (hl : Edges O n a c) (hf : Src O 1 (.slice af f.length cf) f.length (f.map I)) :
    Spec Try.prog false 45 #[netV n a c, .slice af f.length cf] O fun u O' => ∃ t : Bool, u = .bool t ∧ (t = true ↔ FlowOk n f) ∧ O' = O := by
  have hlen := hn.len
  have hnn := hn.nodes
  refine Spec.enter (args := [_, _]) (m := 67) Try.func45 rfl rfl (by decide +kernel) fun h0 => ?_
  refine WX.seq ?_
  refine WX.region rfl ?_
  refine WXL.box (c := [_, _, _, _]) Met.none rfl rfl rfl (fun b2 => ?_)
  refine WXL.assign Met.none rfl ?_
  refine WXL.nil ?_
  refine Fin.then_normal ?_
  refine WX.seq ?_
  refine WX.seq ?_
  refine WX.region rfl ?_
  refine WXL.move Met.none rfl ?_
  refine WXL.len Met.none rfl Try.underlying22 ?_
  refine WXL.fieldAddr (off' := 3) Met.none rfl Try.underlying25 rfl sz23 rfl ?_
  first | refine WXL.ld Met.none rfl agg23 ?_ | refine WXL.ldS Met.none rfl agg23 ?_
  refine WXL.len Met.none rfl Try.underlying23 ?_
  refine WXL.bin Met.none rfl rfl rfl ?_
  refine WXL.nil ?_
  refine Fin.then_normal ?_
  refine WX.cond rfl (fun hc0 => ?_) (fun hc0 => ?_)
  · try simp only [cnd] at hc0
    refine WX.seq ?_
    refine WX.region rfl ?_
    refine WXL.assign Met.none rfl ?_
    refine WXL.nil ?_
    refine Fin.then_normal ?_
    refine WX.ret ?_
    refine Fin.then_ret ?_
    refine Fin.result (O' := O) (.inr rfl) rfl rfl drop_ ⟨_, rfl, ?_, rfl⟩
    first
    | exact ⟨(fun h => nomatch h), fun h => absurd h.1.len (by omega)⟩
    | exact ⟨(fun h => nomatch h), fun h => by have := h.1.cap k (by omega); omega⟩
    | exact ⟨(fun h => nomatch h), fun h => absurd (h.2 w (by omega) (by omega) (by first | assumption | omega) (by first | assumption | omega)) (by first | assumption | omega)⟩
    | exact ⟨fun _ => ⟨hfl, fun v h0 h1 h2 h3 => hbal v h0 (by omega) h2 h3⟩, fun _ => rfl⟩
  · try simp only [cnd] at hc0
    refine WX.skip ?_
    refine Fin.then_normal ?_
    refine WX.seq ?_
    refine WX.seq ?_
    refine WX.region rfl ?_
    refine WXL.assign Met.none rfl ?_
    refine WXL.nil ?_
    refine Fin.then_normal ?_
    refine WX.block ?_
    have hfe : f.length = n.edges.length := by omega
    refine WX.loop (fun k : Nat => [(1, .slice af f.length cf), (2, Ptr b2 0), (5, I (k : Int))]) (fun _ => (b2, ⟨0, false, [I n.nodes, I n.source, I n.sink, .slice a n.edges.length c]⟩) :: O) (fun k => k ≤ n.edges.length ∧ ∀ i, i < k → -(nth n.edges i).back ≤ nth f i ∧ nth f i ≤ (nth n.edges i).cap) (fun k => n.edges.length - k) 0 ⟨Nat.zero_le _, fun i hi => absurd hi (Nat.not_lt_zero _)⟩ (fun s hs => hs.tl [0] 1) (fun k hk => ?_)
    obtain ⟨hk, hcaps⟩ := hk
    refine WX.seq ?_
    refine WX.seq ?_
    refine WX.region rfl ?_
    refine WXL.move Met.none rfl ?_
    refine WXL.move Met.none rfl ?_
    refine WXL.len Met.none rfl Try.underlying22 ?_
    refine WXL.bin Met.none rfl rfl rfl ?_
    refine WXL.nil ?_
    refine Fin.then_normal ?_
    refine WX.cond rfl (fun hc1 => ?_) (fun hc1 => ?_)
    · try simp only [cnd] at hc1
      refine WX.skip ?_
      refine Fin.then_normal ?_
      refine WX.seq ?_
      refine WX.block ?_
      refine WX.seq ?_
      have he := hn.at (i := k) (by omega)
      refine WX.draw rfl ?_
      refine WXL.move Met.none rfl ?_
      refine WXL.move Met.none rfl ?_
      first | refine WXL.ix Met.none rfl rfl elem22 sz3 ?_ | refine WXL.ixS Met.none rfl rfl elem22 sz3 ?_
      first | refine WXL.ld Met.none rfl agg3 ?_ | refine WXL.ldS Met.none rfl agg3 ?_
      refine WXL.fieldAddr (off' := 3) Met.none rfl Try.underlying25 rfl sz23 rfl ?_
      first | refine WXL.ld Met.none rfl agg23 ?_ | refine WXL.ldS Met.none rfl agg23 ?_
      refine WXL.move Met.none rfl ?_
      first | refine WXL.ix Met.none rfl rfl elem23 sz63 ?_ | refine WXL.ixS Met.none rfl rfl elem23 sz63 ?_
      first | refine WXL.fieldAddr Met.none rfl Try.underlying63 rfl sz3 rfl ?_ | refine WXL.faS Met.none rfl Try.underlying63 rfl sz3 ?_
      first | refine WXL.ld Met.none rfl agg3 ?_ | refine WXL.ldS Met.none rfl agg3 ?_
      refine WXL.bin Met.none rfl rfl rfl ?_
      refine WXL.move Met.none rfl ?_
      refine WXL.split (d := 30) rfl (fun hg30 => ?_) (fun hg30 => ?_)
      · try simp only [cnd] at hg30
        refine WXL.miss (j := 11) (d := 30) rfl rfl rfl ?_
        refine WXL.miss (j := 11) (d := 30) rfl rfl rfl ?_
        refine WXL.miss (j := 11) (d := 30) rfl rfl rfl ?_
        refine WXL.miss (j := 11) (d := 30) rfl rfl rfl ?_
        refine WXL.miss (j := 11) (d := 30) rfl rfl rfl ?_
        refine WXL.miss (j := 11) (d := 30) rfl rfl rfl ?_
        refine WXL.miss (j := 11) (d := 30) rfl rfl rfl ?_
        refine WXL.miss (j := 11) (d := 30) rfl rfl rfl ?_
        refine WXL.miss (j := 11) (d := 30) rfl rfl rfl ?_
        refine WXL.miss (j := 11) (d := 30) rfl rfl rfl ?_
        refine WXL.miss (j := 11) (d := 30) rfl rfl rfl ?_
        refine WXL.miss (j := 11) (d := 30) rfl rfl rfl ?_
        refine WXL.pick_t Met.none rfl rfl ?_
        refine WXL.nil ?_
        refine Fin.then_normal ?_
        refine WX.cond rfl (fun hc2 => ?_) (fun hc2 => nomatch hc2)
        refine WX.seq ?_
        refine WX.region rfl ?_
        refine WXL.assign Met.none rfl ?_
        refine WXL.nil ?_
        refine Fin.then_normal ?_
        refine WX.ret ?_
        refine Fin.block_ret ?_
        refine Fin.then_ret ?_
        refine Fin.loop_ret ?_
        refine Fin.block_ret ?_
        refine Fin.then_ret ?_
        refine Fin.result (O' := O) (.inr rfl) rfl rfl drop_ ⟨_, rfl, ?_, rfl⟩
        first
        | exact ⟨(fun h => nomatch h), fun h => absurd h.1.len (by omega)⟩
        | exact ⟨(fun h => nomatch h), fun h => by have := h.1.cap k (by omega); omega⟩
        | exact ⟨(fun h => nomatch h), fun h => absurd (h.2 w (by omega) (by omega) (by first | assumption | omega) (by first | assumption | omega)) (by first | assumption | omega)⟩
        | exact ⟨fun _ => ⟨hfl, fun v h0 h1 h2 h3 => hbal v h0 (by omega) h2 h3⟩, fun _ => rfl⟩
      · try simp only [cnd] at hg30
        refine WXL.move (Met.some rfl rfl rfl) rfl ?_
        refine WXL.move (Met.some rfl rfl rfl) rfl ?_
        first | refine WXL.ix (Met.some rfl rfl rfl) rfl rfl elem22 sz3 ?_ | refine WXL.ixS (Met.some rfl rfl rfl) rfl rfl elem22 sz3 ?_
        first | refine WXL.ld (Met.some rfl rfl rfl) rfl agg3 ?_ | refine WXL.ldS (Met.some rfl rfl rfl) rfl agg3 ?_
        refine WXL.fieldAddr (off' := 3) (Met.some rfl rfl rfl) rfl Try.underlying25 rfl sz23 rfl ?_
        first | refine WXL.ld (Met.some rfl rfl rfl) rfl agg23 ?_ | refine WXL.ldS (Met.some rfl rfl rfl) rfl agg23 ?_
        refine WXL.move (Met.some rfl rfl rfl) rfl ?_
        first | refine WXL.ix (Met.some rfl rfl rfl) rfl rfl elem23 sz63 ?_ | refine WXL.ixS (Met.some rfl rfl rfl) rfl rfl elem23 sz63 ?_
        first | refine WXL.fieldAddr (Met.some rfl rfl rfl) rfl Try.underlying63 rfl sz3 rfl ?_ | refine WXL.faS (Met.some rfl rfl rfl) rfl Try.underlying63 rfl sz3 ?_
        first | refine WXL.ld (Met.some rfl rfl rfl) rfl agg3 ?_ | refine WXL.ldS (Met.some rfl rfl rfl) rfl agg3 ?_
        refine WXL.neg (Met.some rfl rfl rfl) rfl (by first | exact wrap_neg (by omega) (by omega) | exact rfl) ?_
        refine WXL.bin (Met.some rfl rfl rfl) rfl rfl rfl ?_
        refine WXL.pick_f Met.none rfl rfl ?_
        refine WXL.nil ?_
        refine Fin.then_normal ?_
        refine WX.cond rfl (fun hc2 => ?_) (fun hc2 => ?_)
        · try simp only [cnd] at hc2
          refine WX.seq ?_
          refine WX.region rfl ?_
          refine WXL.assign Met.none rfl ?_
          refine WXL.nil ?_
          refine Fin.then_normal ?_
          refine WX.ret ?_
          refine Fin.block_ret ?_
          refine Fin.then_ret ?_
          refine Fin.loop_ret ?_
          refine Fin.block_ret ?_
          refine Fin.then_ret ?_
          refine Fin.result (O' := O) (.inr rfl) rfl rfl drop_ ⟨_, rfl, ?_, rfl⟩
          first
          | exact ⟨(fun h => nomatch h), fun h => absurd h.1.len (by omega)⟩
          | exact ⟨(fun h => nomatch h), fun h => by have := h.1.cap k (by omega); omega⟩
          | exact ⟨(fun h => nomatch h), fun h => absurd (h.2 w (by omega) (by omega) (by first | assumption | omega) (by first | assumption | omega)) (by first | assumption | omega)⟩
          | exact ⟨fun _ => ⟨hfl, fun v h0 h1 h2 h3 => hbal v h0 (by omega) h2 h3⟩, fun _ => rfl⟩
        · try simp only [cnd] at hc2
          refine WX.skip ?_
          refine Fin.block_normal ?_
          refine Fin.then_normal ?_
          refine WX.region rfl ?_
          refine WXL.move Met.none rfl ?_
          refine WXL.bin Met.none rfl rfl bvA ?_
          refine WXL.assign Met.none rfl ?_
          refine WXL.nil ?_
          refine Fin.loop_next (k + 1) ⟨by omega, fun i hi => ?_⟩ (by first | omega | (simp only; omega)) (fun s hs => hs.tl [0] 1)
          rcases Nat.lt_or_ge i k with q | q
          · exact hcaps i q
          · have e : i = k := by omega
            subst e
            omega
    · try simp only [cnd] at hc1
      refine WX.exit ?_
      refine Fin.then_exit ?_
      refine Fin.loop_exit ?_
      refine Fin.block_hit rfl ?_
      refine Fin.then_normal ?_
      refine WX.seq ?_
      refine WX.seq ?_
      have hfl : Flow n f := ⟨hfe, fun i hi => hcaps i (by omega)⟩
      refine WX.region rfl ?_
      refine WXL.assign Met.none rfl ?_
      refine WXL.nil ?_
      refine Fin.then_normal ?_
      refine WX.block ?_
      refine WX.loop (fun w : Nat => [(1, .slice af f.length cf), (2, Ptr b2 0), (6, I (w : Int))]) (fun _ => (b2, ⟨0, false, [I n.nodes, I n.source, I n.sink, .slice a n.edges.length c]⟩) :: O) (fun w => w ≤ n.nodes.toNat ∧ ∀ v : Int, 0 ≤ v → v < w → v ≠ n.source → v ≠ n.sink → netOut n f v = 0) (fun w => n.nodes.toNat - w) 0 ⟨Nat.zero_le _, fun v h0 h1 => by omega⟩ (fun s hs => hs.tl [0] 1) (fun w hw => ?_)
      obtain ⟨hw, hbal⟩ := hw
      refine WX.seq ?_
      refine WX.seq ?_
      refine WX.region rfl ?_
      refine WXL.move Met.none rfl ?_
      refine WXL.fieldAddr (off' := 0) Met.none rfl Try.underlying25 rfl sz3 rfl ?_
      first | refine WXL.ld Met.none rfl agg3 ?_ | refine WXL.ldS Met.none rfl agg3 ?_
      refine WXL.bin Met.none rfl rfl rfl ?_
      refine WXL.nil ?_
      refine Fin.then_normal ?_
      refine WX.cond rfl (fun hc3 => ?_) (fun hc3 => ?_)
      · try simp only [cnd] at hc3
        refine WX.skip ?_
        refine Fin.then_normal ?_
        refine WX.seq ?_
        refine WX.block ?_
        refine WX.seq ?_
        refine WX.region rfl ?_
        refine WXL.move Met.none rfl ?_
        refine WXL.fieldAddr (off' := 1) Met.none rfl Try.underlying25 rfl sz3 rfl ?_
        first | refine WXL.ld Met.none rfl agg3 ?_ | refine WXL.ldS Met.none rfl agg3 ?_
        refine WXL.bin Met.none rfl rfl rfl ?_
        refine WXL.move Met.none rfl ?_
        refine WXL.split (d := 54) rfl (fun hg54 => ?_) (fun hg54 => ?_)
        · try simp only [cnd] at hg54
          refine WXL.move (Met.some rfl rfl rfl) rfl ?_
          refine WXL.fieldAddr (off' := 2) (Met.some rfl rfl rfl) rfl Try.underlying25 rfl sz3 rfl ?_
          first | refine WXL.ld (Met.some rfl rfl rfl) rfl agg3 ?_ | refine WXL.ldS (Met.some rfl rfl rfl) rfl agg3 ?_
          refine WXL.bin (Met.some rfl rfl rfl) rfl rfl rfl ?_
          refine WXL.pick_t Met.none rfl rfl ?_
          refine WXL.move Met.none rfl ?_
          refine WXL.split (d := 60) rfl (fun hg60 => ?_) (fun hg60 => ?_)
          · try simp only [cnd] at hg60
            refine WXL.ldN (vs := [_, _, _, _]) (Met.some rfl rfl rfl) rfl agg25 sz25 ?_
            refine WXL.move (Met.some rfl rfl rfl) rfl ?_
            refine WXL.move (Met.some rfl rfl rfl) rfl ?_
            refine WXL.cl (O1 := _) (Met.some rfl rfl rfl) rfl (fnOk_of Try.func47 (by decide +kernel)) rfl (fun _ h => h) (out_ok _ n f (w : Int) a af c cf hn hfl src_ src_) (fun v O' hp => ?_)
            obtain ⟨rfl, hO⟩ := hp
            subst O'
            refine WXL.bin (Met.some rfl rfl rfl) rfl rfl rfl ?_
            refine WXL.pick_t Met.none rfl rfl ?_
            refine WXL.nil ?_
            refine Fin.then_normal ?_
            refine WX.cond rfl (fun hc4 => ?_) (fun hc4 => ?_)
            · try simp only [cnd] at hc4
              refine WX.seq ?_
              refine WX.region rfl ?_
              refine WXL.assign Met.none rfl ?_
              refine WXL.nil ?_
              refine Fin.then_normal ?_
              refine WX.ret ?_
              refine Fin.block_ret ?_
              refine Fin.then_ret ?_
              refine Fin.loop_ret ?_
              refine Fin.block_ret ?_
              refine Fin.then_ret ?_
              refine Fin.result (O' := O) (.inr rfl) rfl rfl drop_ ⟨_, rfl, ?_, rfl⟩
              first
              | exact ⟨(fun h => nomatch h), fun h => absurd h.1.len (by omega)⟩
              | exact ⟨(fun h => nomatch h), fun h => by have := h.1.cap k (by omega); omega⟩
              | exact ⟨(fun h => nomatch h), fun h => absurd (h.2 w (by omega) (by omega) (by first | assumption | omega) (by first | assumption | omega)) (by first | assumption | omega)⟩
              | exact ⟨fun _ => ⟨hfl, fun v h0 h1 h2 h3 => hbal v h0 (by omega) h2 h3⟩, fun _ => rfl⟩
            · try simp only [cnd] at hc4
              refine WX.skip ?_
              refine Fin.block_normal ?_
              refine Fin.then_normal ?_
              refine WX.region rfl ?_
              refine WXL.move Met.none rfl ?_
              refine WXL.bin Met.none rfl rfl bvA ?_
              refine WXL.assign Met.none rfl ?_
              refine WXL.nil ?_
              refine Fin.loop_next (w + 1) ⟨by omega, fun v h0 h1 h2 h3 => ?_⟩ (by first | omega | (simp only; omega)) (fun s hs => hs.tl [0] 1)
              by_cases q : v < w
              · exact hbal v h0 q h2 h3
              · have e : v = w := by omega
                subst e
                first | contradiction | assumption | omega
          · try simp only [cnd] at hg60
            refine WXL.miss (j := 10) (d := 60) rfl rfl rfl ?_
            refine WXL.miss (j := 10) (d := 60) rfl rfl rfl ?_
            refine WXL.miss (j := 10) (d := 60) rfl rfl rfl ?_
            refine WXL.miss (j := 10) (d := 60) rfl rfl rfl ?_
            refine WXL.miss (j := 10) (d := 60) rfl rfl rfl ?_
            refine WXL.pick_f Met.none rfl rfl ?_
            refine WXL.nil ?_
            refine Fin.then_normal ?_
            refine WX.cond rfl (fun hc4 => nomatch hc4) (fun hc4 => ?_)
            refine WX.skip ?_
            refine Fin.block_normal ?_
            refine Fin.then_normal ?_
            refine WX.region rfl ?_
            refine WXL.move Met.none rfl ?_
            refine WXL.bin Met.none rfl rfl bvA ?_
            refine WXL.assign Met.none rfl ?_
            refine WXL.nil ?_
            refine Fin.loop_next (w + 1) ⟨by omega, fun v h0 h1 h2 h3 => ?_⟩ (by first | omega | (simp only; omega)) (fun s hs => hs.tl [0] 1)
            by_cases q : v < w
            · exact hbal v h0 q h2 h3
            · have e : v = w := by omega
              subst e
              first | contradiction | assumption | omega
        · try simp only [cnd] at hg54
          refine WXL.miss (j := 4) (d := 54) rfl rfl rfl ?_
          refine WXL.miss (j := 4) (d := 54) rfl rfl rfl ?_
          refine WXL.miss (j := 4) (d := 54) rfl rfl rfl ?_
          refine WXL.miss (j := 4) (d := 54) rfl rfl rfl ?_
          refine WXL.pick_f Met.none rfl rfl ?_
          refine WXL.move Met.none rfl ?_
          refine WXL.miss (j := 10) (d := 60) rfl rfl rfl ?_
          refine WXL.miss (j := 10) (d := 60) rfl rfl rfl ?_
          refine WXL.miss (j := 10) (d := 60) rfl rfl rfl ?_
          refine WXL.miss (j := 10) (d := 60) rfl rfl rfl ?_
          refine WXL.miss (j := 10) (d := 60) rfl rfl rfl ?_
          refine WXL.pick_f Met.none rfl rfl ?_
          refine WXL.nil ?_
          refine Fin.then_normal ?_
          refine WX.cond rfl (fun hc4 => nomatch hc4) (fun hc4 => ?_)
          refine WX.skip ?_
          refine Fin.block_normal ?_
          refine Fin.then_normal ?_
          refine WX.region rfl ?_
          refine WXL.move Met.none rfl ?_
          refine WXL.bin Met.none rfl rfl bvA ?_
          refine WXL.assign Met.none rfl ?_
          refine WXL.nil ?_
          refine Fin.loop_next (w + 1) ⟨by omega, fun v h0 h1 h2 h3 => ?_⟩ (by first | omega | (simp only; omega)) (fun s hs => hs.tl [0] 1)
          by_cases q : v < w
          · exact hbal v h0 q h2 h3
          · have e : v = w := by omega
            subst e
            first | contradiction | assumption | omega
      · try simp only [cnd] at hc3
        refine WX.exit ?_
        refine Fin.then_exit ?_
        refine Fin.loop_exit ?_
        refine Fin.block_hit rfl ?_
        refine Fin.then_normal ?_
        refine WX.seq ?_
        refine WX.region rfl ?_
        refine WXL.assign Met.none rfl ?_
        refine WXL.nil ?_
        refine Fin.then_normal ?_
        refine WX.ret ?_
        refine Fin.result (O' := O) (.inr rfl) rfl rfl drop_ ⟨_, rfl, ?_, rfl⟩
        first
        | exact ⟨(fun h => nomatch h), fun h => absurd h.1.len (by omega)⟩
        | exact ⟨(fun h => nomatch h), fun h => by have := h.1.cap k (by omega); omega⟩
        | exact ⟨(fun h => nomatch h), fun h => absurd (h.2 w (by omega) (by omega) (by first | assumption | omega) (by first | assumption | omega)) (by first | assumption | omega)⟩
        | exact ⟨fun _ => ⟨hfl, fun v h0 h1 h2 h3 => hbal v h0 (by omega) h2 h3⟩, fun _ => rfl⟩

/-- A value and its error. -/
def ValR (n : Net4) (f : List Int) (x e : Int) : Prop := ∃ k, Wrong n k ∧ (k ≠ 0 → x = 0 ∧ e = k) ∧ (k = 0 → (FlowOk n f ∧ x = netOut n f n.source ∧ e = 0) ∨ (¬ FlowOk n f ∧ x = 0 ∧ e = 1))

theorem ValR.uniq {n : Net4} {f : List Int} {x e x' e' : Int} (h : ValR n f x e) (h' : ValR n f x' e') : x = x' ∧ e = e' := by
  obtain ⟨k, h1, h2, h3⟩ := h
  obtain ⟨k', g1, g2, g3⟩ := h'
  have ek := h1.uniq g1
  subst ek
  by_cases hk : k = 0
  · rcases h3 hk with ⟨a1, a2, a3⟩ | ⟨a1, a2, a3⟩ <;> rcases g3 hk with ⟨b1, b2, b3⟩ | ⟨b1, b2, b3⟩
    · exact ⟨by rw [a2, b2], by rw [a3, b3]⟩
    · exact absurd a1 b1
    · exact absurd b1 a1
    · exact ⟨by rw [a2, b2], by rw [a3, b3]⟩
  · obtain ⟨a2, a3⟩ := h2 hk
    obtain ⟨b2, b3⟩ := g2 hk
    exact ⟨by rw [a2, b2], by rw [a3, b3]⟩

theorem refValue_ok (O : Objs) (n : Net4) (f : List Int) (a af : Option Addr) (c cf : Nat) (hlen : n.edges.length ≤ 1000000) (hl : Edges O n a c) (hf : Src O 1 (.slice af f.length cf) f.length (f.map I)) :
    Spec Try.prog false 24 #[netV n a c, .slice af f.length cf] O fun u O' => ∃ x e, u = .tuple #[I x, I e] ∧ ValR n f x e ∧ O' = O := by
  refine Spec.enter (args := [_, _]) (m := 21) Try.func24 rfl rfl (by decide +kernel) fun h0 => ?_
  refine WX.seq ?_
  refine WX.region rfl ?_
  refine WXL.box (c := [_, _, _, _]) Met.none rfl rfl rfl (fun b2 => ?_)
  refine WXL.assign Met.none rfl ?_
  refine WXL.assign Met.none rfl ?_
  refine WXL.nil ?_
  refine Fin.then_normal ?_
  refine WX.seq ?_
  refine WX.region rfl ?_
  refine WXL.ldN (vs := [_, _, _, _]) Met.none rfl agg25 sz25 ?_
  refine WXL.cl (O1 := _) Met.none rfl (fnOk_of Try.func14 (by decide +kernel)) rfl (fun _ h => h) (refValid_ok _ n a c src_ hlen) (fun v O' hp => ?_)
  obtain ⟨k, rfl, hk, rfl⟩ := hp
  refine WXL.assign Met.none rfl ?_
  refine WXL.nil ?_
  refine Fin.then_normal ?_
  refine WX.seq ?_
  refine WX.seq ?_
  refine WX.region rfl ?_
  refine WXL.move Met.none rfl ?_
  refine WXL.bin Met.none rfl rfl rfl ?_
  refine WXL.nil ?_
  refine Fin.then_normal ?_
  refine WX.cond rfl (fun hc0 => ?_) (fun hc0 => ?_)
  · try simp only [cnd] at hc0
    refine WX.seq ?_
    refine WX.region rfl ?_
    refine WXL.move Met.none rfl ?_
    refine WXL.assign Met.none rfl ?_
    refine WXL.assign Met.none rfl ?_
    refine WXL.nil ?_
    refine Fin.then_normal ?_
    refine WX.ret ?_
    refine Fin.then_ret ?_
    refine Fin.result (O' := O) (.inr rfl) rfl rfl drop_ ⟨_, _, rfl, ?_, rfl⟩
    first
    | exact ⟨k, hk, fun _ => ⟨rfl, rfl⟩, fun e => absurd e hc0⟩
    | exact ⟨0, hk, fun e => absurd rfl e, fun _ => .inr ⟨fun q => by have := ht.2 q; simp_all, rfl, rfl⟩⟩
    | exact ⟨0, hk, fun e => absurd rfl e, fun _ => .inl ⟨hfo, rfl, rfl⟩⟩
  · try simp only [cnd] at hc0
    refine WX.skip ?_
    refine Fin.then_normal ?_
    refine WX.seq ?_
    refine WX.seq ?_
    have hk0 : k = 0 := by omega
    subst hk0
    have hn := hk.sound
    refine WX.region rfl ?_
    refine WXL.ldN (vs := [_, _, _, _]) Met.none rfl agg25 sz25 ?_
    refine WXL.move Met.none rfl ?_
    refine WXL.cl (O1 := _) Met.none rfl (fnOk_of Try.func45 (by decide +kernel)) rfl (fun _ h => h) (flow_ok _ n f a af c cf hn src_ src_) (fun v O' hp => ?_)
    obtain ⟨t, rfl, ht, rfl⟩ := hp
    refine WXL.not Met.none rfl ?_
    refine WXL.nil ?_
    refine Fin.then_normal ?_
    refine WX.cond rfl (fun hc1 => ?_) (fun hc1 => ?_)
    · try simp only [cnd] at hc1
      refine WX.seq ?_
      refine WX.region rfl ?_
      refine WXL.assign Met.none rfl ?_
      refine WXL.assign Met.none rfl ?_
      refine WXL.nil ?_
      refine Fin.then_normal ?_
      refine WX.ret ?_
      refine Fin.then_ret ?_
      refine Fin.result (O' := O) (.inr rfl) rfl rfl drop_ ⟨_, _, rfl, ?_, rfl⟩
      first
      | exact ⟨k, hk, fun _ => ⟨rfl, rfl⟩, fun e => absurd e hc0⟩
      | exact ⟨0, hk, fun e => absurd rfl e, fun _ => .inr ⟨fun q => by have := ht.2 q; simp_all, rfl, rfl⟩⟩
      | exact ⟨0, hk, fun e => absurd rfl e, fun _ => .inl ⟨hfo, rfl, rfl⟩⟩
    · try simp only [cnd] at hc1
      refine WX.skip ?_
      refine Fin.then_normal ?_
      refine WX.seq ?_
      have hfo := ht.1 (by first | exact hc1 | simpa using hc1)
      refine WX.region rfl ?_
      refine WXL.ldN (vs := [_, _, _, _]) Met.none rfl agg25 sz25 ?_
      refine WXL.move Met.none rfl ?_
      refine WXL.fieldAddr (off' := 1) Met.none rfl Try.underlying25 rfl sz3 rfl ?_
      first | refine WXL.ld Met.none rfl agg3 ?_ | refine WXL.ldS Met.none rfl agg3 ?_
      refine WXL.cl (O1 := _) Met.none rfl (fnOk_of Try.func47 (by decide +kernel)) rfl (fun _ h => h) (out_ok _ n f n.source a af c cf hn hfo.1 src_ src_) (fun v O' hp => ?_)
      obtain ⟨rfl, hO⟩ := hp
      subst O'
      refine WXL.assign Met.none rfl ?_
      refine WXL.assign Met.none rfl ?_
      refine WXL.nil ?_
      refine Fin.then_normal ?_
      refine WX.ret ?_
      refine Fin.result (O' := O) (.inr rfl) rfl rfl drop_ ⟨_, _, rfl, ?_, rfl⟩
      first
      | exact ⟨k, hk, fun _ => ⟨rfl, rfl⟩, fun e => absurd e hc0⟩
      | exact ⟨0, hk, fun e => absurd rfl e, fun _ => .inr ⟨fun q => by have := ht.2 q; simp_all, rfl, rfl⟩⟩
      | exact ⟨0, hk, fun e => absurd rfl e, fun _ => .inl ⟨hfo, rfl, rfl⟩⟩

theorem value_ok (O : Objs) (n : Net4) (f : List Int) (a af : Option Addr) (c cf : Nat) (hlen : n.edges.length ≤ 1000000) (hl : Edges O n a c) (hf : Src O 1 (.slice af f.length cf) f.length (f.map I)) :
    Spec Try.prog false 23 #[netV n a c, .slice af f.length cf] O fun u O' => ∃ x e, u = .tuple #[I x, I e] ∧ ValR n f x e ∧ O' = O := by
  refine Spec.enter (args := [_, _]) (m := 79) Try.func23 rfl rfl (by decide +kernel) fun h0 => ?_
  refine WX.seq ?_
  refine WX.region rfl ?_
  refine WXL.box (c := [_, _, _, _]) Met.none rfl rfl rfl (fun b2 => ?_)
  refine WXL.assign Met.none rfl ?_
  refine WXL.assign Met.none rfl ?_
  refine WXL.nil ?_
  refine Fin.then_normal ?_
  refine WX.seq ?_
  refine WX.seq ?_
  refine WX.region rfl ?_
  refine WXL.ldN (vs := [_, _, _, _]) Met.none rfl agg36 sz36 ?_
  refine WXL.cl (O1 := _) Met.none rfl (fnOk_of Try.func34 (by decide +kernel)) rfl (fun _ h => h) (valid_ok _ n a c src_ hlen) (fun v O' hp => ?_)
  obtain ⟨k, rfl, hk, rfl⟩ := hp
  refine WXL.assign Met.none rfl ?_
  refine WXL.nil ?_
  refine Fin.then_normal ?_
  refine WX.seq ?_
  refine WX.region rfl ?_
  refine WXL.move Met.none rfl ?_
  refine WXL.bin Met.none rfl rfl rfl ?_
  refine WXL.nil ?_
  refine Fin.then_normal ?_
  refine WX.cond rfl (fun hc0 => ?_) (fun hc0 => ?_)
  · try simp only [cnd] at hc0
    refine WX.seq ?_
    refine WX.region rfl ?_
    refine WXL.move Met.none rfl ?_
    refine WXL.assign Met.none rfl ?_
    refine WXL.assign Met.none rfl ?_
    refine WXL.nil ?_
    refine Fin.then_normal ?_
    refine WX.ret ?_
    refine Fin.then_ret ?_
    refine Fin.result (O' := O) (.inr rfl) rfl rfl drop_ ⟨_, _, rfl, ?_, rfl⟩
    first
    | exact ⟨k, hk, fun _ => ⟨rfl, rfl⟩, fun e => absurd e hc0⟩
    | exact ⟨0, hk, fun e => absurd rfl e, fun _ => .inr ⟨fun q => absurd q.1.len (by omega), rfl, rfl⟩⟩
    | exact ⟨0, hk, fun e => absurd rfl e, fun _ => .inr ⟨fun q => by have := q.1.cap j (by omega); omega, rfl, rfl⟩⟩
    | exact ⟨0, hk, fun e => absurd rfl e, fun _ => .inr ⟨fun q => absurd (q.2 w (by omega) (by omega) (by first | assumption | omega) (by first | assumption | omega)) (by first | assumption | omega), rfl, rfl⟩⟩
    | exact ⟨0, hk, fun e => absurd rfl e, fun _ => .inl ⟨⟨hfl, fun v h0 h1 h2 h3 => hbal v h0 (by omega) h2 h3⟩, rfl, rfl⟩⟩
  · try simp only [cnd] at hc0
    refine WX.skip ?_
    refine Fin.then_normal ?_
    refine WX.seq ?_
    refine WX.seq ?_
    have hk0 : k = 0 := by omega
    subst hk0
    have hn := hk.sound
    have hnn := hn.nodes
    have hns := hn.source
    refine WX.region rfl ?_
    refine WXL.move Met.none rfl ?_
    refine WXL.len Met.none rfl Try.underlying22 ?_
    refine WXL.fieldAddr (off' := 3) Met.none rfl Try.underlying36 rfl sz34 rfl ?_
    first | refine WXL.ld Met.none rfl agg34 ?_ | refine WXL.ldS Met.none rfl agg34 ?_
    refine WXL.len Met.none rfl Try.underlying34 ?_
    refine WXL.bin Met.none rfl rfl rfl ?_
    refine WXL.nil ?_
    refine Fin.then_normal ?_
    refine WX.cond rfl (fun hc1 => ?_) (fun hc1 => ?_)
    · try simp only [cnd] at hc1
      refine WX.seq ?_
      refine WX.region rfl ?_
      refine WXL.assign Met.none rfl ?_
      refine WXL.assign Met.none rfl ?_
      refine WXL.nil ?_
      refine Fin.then_normal ?_
      refine WX.ret ?_
      refine Fin.then_ret ?_
      refine Fin.result (O' := O) (.inr rfl) rfl rfl drop_ ⟨_, _, rfl, ?_, rfl⟩
      first
      | exact ⟨k, hk, fun _ => ⟨rfl, rfl⟩, fun e => absurd e hc0⟩
      | exact ⟨0, hk, fun e => absurd rfl e, fun _ => .inr ⟨fun q => absurd q.1.len (by omega), rfl, rfl⟩⟩
      | exact ⟨0, hk, fun e => absurd rfl e, fun _ => .inr ⟨fun q => by have := q.1.cap j (by omega); omega, rfl, rfl⟩⟩
      | exact ⟨0, hk, fun e => absurd rfl e, fun _ => .inr ⟨fun q => absurd (q.2 w (by omega) (by omega) (by first | assumption | omega) (by first | assumption | omega)) (by first | assumption | omega), rfl, rfl⟩⟩
      | exact ⟨0, hk, fun e => absurd rfl e, fun _ => .inl ⟨⟨hfl, fun v h0 h1 h2 h3 => hbal v h0 (by omega) h2 h3⟩, rfl, rfl⟩⟩
    · try simp only [cnd] at hc1
      refine WX.skip ?_
      refine Fin.then_normal ?_
      refine WX.seq ?_
      refine WX.seq ?_
      refine WX.region rfl ?_
      refine WXL.fieldAddr (off' := 3) Met.none rfl Try.underlying36 rfl sz34 rfl ?_
      first | refine WXL.ld Met.none rfl agg34 ?_ | refine WXL.ldS Met.none rfl agg34 ?_
      refine WXL.len Met.none rfl Try.underlying34 ?_
      refine WXL.move Met.none rfl ?_
      refine WXL.nil ?_
      refine Fin.then_normal ?_
      refine WX.block ?_
      have hfe : f.length = n.edges.length := by omega
      refine WX.loop (fun k : Nat => [(1, .slice af f.length cf), (2, Ptr b2 0), (24, .slice a n.edges.length c), (25, I (n.edges.length : Int)), (26, I (k : Int))]) (fun _ => (b2, ⟨0, false, [I n.nodes, I n.source, I n.sink, .slice a n.edges.length c]⟩) :: O) (fun k => k ≤ n.edges.length ∧ ∀ i, i < k → -(nth n.edges i).back ≤ nth f i ∧ nth f i ≤ (nth n.edges i).cap) (fun k => n.edges.length - k) 0 ⟨Nat.zero_le _, fun i hi => absurd hi (Nat.not_lt_zero _)⟩ (fun s hs => hs.tl [0] 1) (fun j hk2 => ?_)
      obtain ⟨hj, hcaps⟩ := hk2
      refine WX.seq ?_
      refine WX.region rfl ?_
      refine WXL.bin Met.none rfl rfl rfl ?_
      refine WXL.nil ?_
      refine Fin.then_normal ?_
      refine WX.seq ?_
      refine WX.cond rfl (fun hc2 => ?_) (fun hc2 => ?_)
      · try simp only [cnd] at hc2
        refine WX.skip ?_
        refine Fin.then_normal ?_
        refine WX.seq ?_
        refine WX.block ?_
        refine WX.seq ?_
        have he := hn.at (i := j) (by omega)
        refine WX.region rfl ?_
        refine WXL.move Met.none rfl ?_
        first | refine WXL.ix Met.none rfl rfl elem34 sz44 ?_ | refine WXL.ixS Met.none rfl rfl elem34 sz44 ?_
        first | refine WXL.ldN Met.none rfl agg44 sz44 ?_ | refine WXL.ldNS Met.none rfl agg44 sz44 ?_
        refine WXL.alloc (c := [_, _, _, _]) Met.none zero44 rfl (fun b8 => ?_)
        refine WXL.assign Met.none rfl ?_
        refine WXL.st (vs := [_, _, _, _]) (c' := [_, _, _, _]) Met.none rfl rfl rfl sz44 ?_
        refine WXL.nil ?_
        refine Fin.then_normal ?_
        refine WX.seq ?_
        refine WX.draw rfl ?_
        refine WXL.move Met.none rfl ?_
        refine WXL.move Met.none rfl ?_
        first | refine WXL.ix Met.none rfl rfl elem22 sz3 ?_ | refine WXL.ixS Met.none rfl rfl elem22 sz3 ?_
        first | refine WXL.ld Met.none rfl agg3 ?_ | refine WXL.ldS Met.none rfl agg3 ?_
        refine WXL.fieldAddr (off' := 2) Met.none rfl Try.underlying44 rfl sz3 rfl ?_
        first | refine WXL.ld Met.none rfl agg3 ?_ | refine WXL.ldS Met.none rfl agg3 ?_
        refine WXL.bin Met.none rfl rfl rfl ?_
        refine WXL.move Met.none rfl ?_
        refine WXL.split (d := 38) rfl (fun hg38 => ?_) (fun hg38 => ?_)
        · try simp only [cnd] at hg38
          refine WXL.miss (j := 7) (d := 38) rfl rfl rfl ?_
          refine WXL.miss (j := 7) (d := 38) rfl rfl rfl ?_
          refine WXL.miss (j := 7) (d := 38) rfl rfl rfl ?_
          refine WXL.miss (j := 7) (d := 38) rfl rfl rfl ?_
          refine WXL.miss (j := 7) (d := 38) rfl rfl rfl ?_
          refine WXL.miss (j := 7) (d := 38) rfl rfl rfl ?_
          refine WXL.miss (j := 7) (d := 38) rfl rfl rfl ?_
          refine WXL.miss (j := 7) (d := 38) rfl rfl rfl ?_
          refine WXL.pick_t Met.none rfl rfl ?_
          refine WXL.nil ?_
          refine Fin.then_normal ?_
          refine WX.cond rfl (fun hc3 => ?_) (fun hc3 => nomatch hc3)
          refine WX.seq ?_
          refine WX.region rfl ?_
          refine WXL.assign Met.none rfl ?_
          refine WXL.assign Met.none rfl ?_
          refine WXL.nil ?_
          refine Fin.then_normal ?_
          refine WX.ret ?_
          refine Fin.block_ret ?_
          refine Fin.then_ret ?_
          refine Fin.loop_ret ?_
          refine Fin.block_ret ?_
          refine Fin.then_ret ?_
          refine Fin.result (O' := O) (.inr rfl) rfl rfl drop_ ⟨_, _, rfl, ?_, rfl⟩
          first
          | exact ⟨k, hk, fun _ => ⟨rfl, rfl⟩, fun e => absurd e hc0⟩
          | exact ⟨0, hk, fun e => absurd rfl e, fun _ => .inr ⟨fun q => absurd q.1.len (by omega), rfl, rfl⟩⟩
          | exact ⟨0, hk, fun e => absurd rfl e, fun _ => .inr ⟨fun q => by have := q.1.cap j (by omega); omega, rfl, rfl⟩⟩
          | exact ⟨0, hk, fun e => absurd rfl e, fun _ => .inr ⟨fun q => absurd (q.2 w (by omega) (by omega) (by first | assumption | omega) (by first | assumption | omega)) (by first | assumption | omega), rfl, rfl⟩⟩
          | exact ⟨0, hk, fun e => absurd rfl e, fun _ => .inl ⟨⟨hfl, fun v h0 h1 h2 h3 => hbal v h0 (by omega) h2 h3⟩, rfl, rfl⟩⟩
        · try simp only [cnd] at hg38
          refine WXL.move (Met.some rfl rfl rfl) rfl ?_
          refine WXL.move (Met.some rfl rfl rfl) rfl ?_
          first | refine WXL.ix (Met.some rfl rfl rfl) rfl rfl elem22 sz3 ?_ | refine WXL.ixS (Met.some rfl rfl rfl) rfl rfl elem22 sz3 ?_
          first | refine WXL.ld (Met.some rfl rfl rfl) rfl agg3 ?_ | refine WXL.ldS (Met.some rfl rfl rfl) rfl agg3 ?_
          refine WXL.fieldAddr (off' := 3) (Met.some rfl rfl rfl) rfl Try.underlying44 rfl sz3 rfl ?_
          first | refine WXL.ld (Met.some rfl rfl rfl) rfl agg3 ?_ | refine WXL.ldS (Met.some rfl rfl rfl) rfl agg3 ?_
          refine WXL.neg (Met.some rfl rfl rfl) rfl (by first | exact wrap_neg (by omega) (by omega) | exact rfl) ?_
          refine WXL.bin (Met.some rfl rfl rfl) rfl rfl rfl ?_
          refine WXL.pick_f Met.none rfl rfl ?_
          refine WXL.nil ?_
          refine Fin.then_normal ?_
          refine WX.cond rfl (fun hc3 => ?_) (fun hc3 => ?_)
          · try simp only [cnd] at hc3
            refine WX.seq ?_
            refine WX.region rfl ?_
            refine WXL.assign Met.none rfl ?_
            refine WXL.assign Met.none rfl ?_
            refine WXL.nil ?_
            refine Fin.then_normal ?_
            refine WX.ret ?_
            refine Fin.block_ret ?_
            refine Fin.then_ret ?_
            refine Fin.loop_ret ?_
            refine Fin.block_ret ?_
            refine Fin.then_ret ?_
            refine Fin.result (O' := O) (.inr rfl) rfl rfl drop_ ⟨_, _, rfl, ?_, rfl⟩
            first
            | exact ⟨k, hk, fun _ => ⟨rfl, rfl⟩, fun e => absurd e hc0⟩
            | exact ⟨0, hk, fun e => absurd rfl e, fun _ => .inr ⟨fun q => absurd q.1.len (by omega), rfl, rfl⟩⟩
            | exact ⟨0, hk, fun e => absurd rfl e, fun _ => .inr ⟨fun q => by have := q.1.cap j (by omega); omega, rfl, rfl⟩⟩
            | exact ⟨0, hk, fun e => absurd rfl e, fun _ => .inr ⟨fun q => absurd (q.2 w (by omega) (by omega) (by first | assumption | omega) (by first | assumption | omega)) (by first | assumption | omega), rfl, rfl⟩⟩
            | exact ⟨0, hk, fun e => absurd rfl e, fun _ => .inl ⟨⟨hfl, fun v h0 h1 h2 h3 => hbal v h0 (by omega) h2 h3⟩, rfl, rfl⟩⟩
          · try simp only [cnd] at hc3
            refine WX.skip ?_
            refine Fin.block_normal ?_
            refine Fin.then_normal ?_
            refine WX.region rfl ?_
            refine WXL.bin Met.none rfl rfl bvA ?_
            refine WXL.move Met.none rfl ?_
            refine WXL.nil ?_
            refine Fin.loop_next (j + 1) ⟨by omega, fun i hi => ?_⟩ (by first | omega | (simp only; omega)) (fun s hs => hs.tl [1] 2)
            rcases Nat.lt_or_ge i j with q | q
            · exact hcaps i q
            · have e : i = j := by omega
              subst e
              omega
      · try simp only [cnd] at hc2
        refine WX.exit ?_
        refine Fin.then_exit ?_
        refine Fin.loop_exit ?_
        refine Fin.block_hit rfl ?_
        refine Fin.then_normal ?_
        refine WX.seq ?_
        have hfl : Flow n f := ⟨hfe, fun i hi => hcaps i (by omega)⟩
        refine WX.region rfl ?_
        refine WXL.ldN (vs := [_, _, _, _]) Met.none rfl agg36 sz36 ?_
        refine WXL.move Met.none rfl ?_
        refine WXL.cl (O1 := _) Met.none rfl (fnOk_of Try.func46 (by decide +kernel)) rfl (fun _ h => h) (balance_ok _ n f a af c cf hn hfl src_ src_) (fun v O' hp => ?_)
        obtain ⟨bO, rfl, rfl⟩ := hp
        refine WXL.assign Met.none rfl ?_
        refine WXL.nil ?_
        refine Fin.then_normal ?_
        refine WX.seq ?_
        refine WX.seq ?_
        have hol := outs_len n (netOut n f)
        refine WX.region rfl ?_
        refine WXL.move Met.none rfl ?_
        refine WXL.len Met.none rfl Try.underlying22 ?_
        refine WXL.move Met.none rfl ?_
        refine WXL.nil ?_
        refine Fin.then_normal ?_
        refine WX.block ?_
        refine WX.loop (fun w : Nat => [(2, Ptr b2 0), (9, Row bO 0 n.nodes.toNat n.nodes.toNat), (52, Row bO 0 n.nodes.toNat n.nodes.toNat), (53, I (n.nodes.toNat : Int)), (54, I (w : Int))]) (fun _ => (bO, ⟨1, false, (outs n (netOut n f)).map I⟩) :: (b2, ⟨0, false, [I n.nodes, I n.source, I n.sink, .slice a n.edges.length c]⟩) :: O) (fun w => w ≤ n.nodes.toNat ∧ ∀ v : Int, 0 ≤ v → v < w → v ≠ n.source → v ≠ n.sink → netOut n f v = 0) (fun w => n.nodes.toNat - w) 0 ⟨Nat.zero_le _, fun v h0 h1 => by omega⟩ (fun s hs => hs.tl [0, 1] 2) (fun w hw => ?_)
        obtain ⟨hw, hbal⟩ := hw
        refine WX.seq ?_
        refine WX.region rfl ?_
        refine WXL.bin Met.none rfl rfl rfl ?_
        refine WXL.nil ?_
        refine Fin.then_normal ?_
        refine WX.seq ?_
        refine WX.cond rfl (fun hc4 => ?_) (fun hc4 => ?_)
        · try simp only [cnd] at hc4
          refine WX.skip ?_
          refine Fin.then_normal ?_
          refine WX.seq ?_
          refine WX.block ?_
          refine WX.seq ?_
          have hat : nth (outs n (netOut n f)) w = netOut n f w := outs_nth n (netOut n f) (v := (w : Int)) (by omega) (by omega)
          refine WX.region rfl ?_
          refine WXL.move Met.none rfl ?_
          first | refine WXL.ix Met.none rfl rfl elem22 sz3 ?_ | refine WXL.ixS Met.none rfl rfl elem22 sz3 ?_
          first | refine WXL.ld Met.none rfl agg3 ?_ | refine WXL.ldS Met.none rfl agg3 ?_
          rw [hat]
          refine WXL.assign Met.none rfl ?_
          refine WXL.assign Met.none rfl ?_
          refine WXL.nil ?_
          refine Fin.then_normal ?_
          refine WX.seq ?_
          refine WX.region rfl ?_
          refine WXL.move Met.none rfl ?_
          refine WXL.bin Met.none rfl rfl rfl ?_
          refine WXL.move Met.none rfl ?_
          refine WXL.split (d := 61) rfl (fun hg61 => ?_) (fun hg61 => ?_)
          · try simp only [cnd] at hg61
            refine WXL.move (Met.some rfl rfl rfl) rfl ?_
            refine WXL.fieldAddr (off' := 1) (Met.some rfl rfl rfl) rfl Try.underlying36 rfl sz3 rfl ?_
            first | refine WXL.ld (Met.some rfl rfl rfl) rfl agg3 ?_ | refine WXL.ldS (Met.some rfl rfl rfl) rfl agg3 ?_
            refine WXL.bin (Met.some rfl rfl rfl) rfl rfl rfl ?_
            refine WXL.pick_t Met.none rfl rfl ?_
            refine WXL.move Met.none rfl ?_
            refine WXL.split (d := 67) rfl (fun hg67 => ?_) (fun hg67 => ?_)
            · try simp only [cnd] at hg67
              refine WXL.move (Met.some rfl rfl rfl) rfl ?_
              refine WXL.fieldAddr (off' := 2) (Met.some rfl rfl rfl) rfl Try.underlying36 rfl sz3 rfl ?_
              first | refine WXL.ld (Met.some rfl rfl rfl) rfl agg3 ?_ | refine WXL.ldS (Met.some rfl rfl rfl) rfl agg3 ?_
              refine WXL.bin (Met.some rfl rfl rfl) rfl rfl rfl ?_
              refine WXL.pick_t Met.none rfl rfl ?_
              refine WXL.nil ?_
              refine Fin.then_normal ?_
              refine WX.cond rfl (fun hc5 => ?_) (fun hc5 => ?_)
              · try simp only [cnd] at hc5
                refine WX.seq ?_
                refine WX.region rfl ?_
                refine WXL.assign Met.none rfl ?_
                refine WXL.assign Met.none rfl ?_
                refine WXL.nil ?_
                refine Fin.then_normal ?_
                refine WX.ret ?_
                refine Fin.block_ret ?_
                refine Fin.then_ret ?_
                refine Fin.loop_ret ?_
                refine Fin.block_ret ?_
                refine Fin.then_ret ?_
                refine Fin.result (O' := O) (.inr rfl) rfl rfl drop_ ⟨_, _, rfl, ?_, rfl⟩
                first
                | exact ⟨k, hk, fun _ => ⟨rfl, rfl⟩, fun e => absurd e hc0⟩
                | exact ⟨0, hk, fun e => absurd rfl e, fun _ => .inr ⟨fun q => absurd q.1.len (by omega), rfl, rfl⟩⟩
                | exact ⟨0, hk, fun e => absurd rfl e, fun _ => .inr ⟨fun q => by have := q.1.cap j (by omega); omega, rfl, rfl⟩⟩
                | exact ⟨0, hk, fun e => absurd rfl e, fun _ => .inr ⟨fun q => absurd (q.2 w (by omega) (by omega) (by first | assumption | omega) (by first | assumption | omega)) (by first | assumption | omega), rfl, rfl⟩⟩
                | exact ⟨0, hk, fun e => absurd rfl e, fun _ => .inl ⟨⟨hfl, fun v h0 h1 h2 h3 => hbal v h0 (by omega) h2 h3⟩, rfl, rfl⟩⟩
              · try simp only [cnd] at hc5
                refine WX.skip ?_
                refine Fin.block_normal ?_
                refine Fin.then_normal ?_
                refine WX.region rfl ?_
                refine WXL.bin Met.none rfl rfl bvA ?_
                refine WXL.move Met.none rfl ?_
                refine WXL.nil ?_
                refine Fin.loop_next (w + 1) ⟨by omega, fun v h0 h1 h2 h3 => ?_⟩ (by first | omega | (simp only; omega)) (fun s hs => hs.tl [0, 1] 2)
                by_cases q : v < w
                · exact hbal v h0 q h2 h3
                · have e : v = w := by omega
                  subst e
                  first | contradiction | assumption | omega
            · try simp only [cnd] at hg67
              refine WXL.miss (j := 8) (d := 67) rfl rfl rfl ?_
              refine WXL.miss (j := 8) (d := 67) rfl rfl rfl ?_
              refine WXL.miss (j := 8) (d := 67) rfl rfl rfl ?_
              refine WXL.miss (j := 8) (d := 67) rfl rfl rfl ?_
              refine WXL.pick_f Met.none rfl rfl ?_
              refine WXL.nil ?_
              refine Fin.then_normal ?_
              refine WX.cond rfl (fun hc5 => nomatch hc5) (fun hc5 => ?_)
              refine WX.skip ?_
              refine Fin.block_normal ?_
              refine Fin.then_normal ?_
              refine WX.region rfl ?_
              refine WXL.bin Met.none rfl rfl bvA ?_
              refine WXL.move Met.none rfl ?_
              refine WXL.nil ?_
              refine Fin.loop_next (w + 1) ⟨by omega, fun v h0 h1 h2 h3 => ?_⟩ (by first | omega | (simp only; omega)) (fun s hs => hs.tl [0, 1] 2)
              by_cases q : v < w
              · exact hbal v h0 q h2 h3
              · have e : v = w := by omega
                subst e
                first | contradiction | assumption | omega
          · try simp only [cnd] at hg61
            refine WXL.miss (j := 2) (d := 61) rfl rfl rfl ?_
            refine WXL.miss (j := 2) (d := 61) rfl rfl rfl ?_
            refine WXL.miss (j := 2) (d := 61) rfl rfl rfl ?_
            refine WXL.miss (j := 2) (d := 61) rfl rfl rfl ?_
            refine WXL.pick_f Met.none rfl rfl ?_
            refine WXL.move Met.none rfl ?_
            refine WXL.miss (j := 8) (d := 67) rfl rfl rfl ?_
            refine WXL.miss (j := 8) (d := 67) rfl rfl rfl ?_
            refine WXL.miss (j := 8) (d := 67) rfl rfl rfl ?_
            refine WXL.miss (j := 8) (d := 67) rfl rfl rfl ?_
            refine WXL.pick_f Met.none rfl rfl ?_
            refine WXL.nil ?_
            refine Fin.then_normal ?_
            refine WX.cond rfl (fun hc5 => nomatch hc5) (fun hc5 => ?_)
            refine WX.skip ?_
            refine Fin.block_normal ?_
            refine Fin.then_normal ?_
            refine WX.region rfl ?_
            refine WXL.bin Met.none rfl rfl bvA ?_
            refine WXL.move Met.none rfl ?_
            refine WXL.nil ?_
            refine Fin.loop_next (w + 1) ⟨by omega, fun v h0 h1 h2 h3 => ?_⟩ (by first | omega | (simp only; omega)) (fun s hs => hs.tl [0, 1] 2)
            by_cases q : v < w
            · exact hbal v h0 q h2 h3
            · have e : v = w := by omega
              subst e
              first | contradiction | assumption | omega
        · try simp only [cnd] at hc4
          refine WX.exit ?_
          refine Fin.then_exit ?_
          refine Fin.loop_exit ?_
          refine Fin.block_hit rfl ?_
          refine Fin.then_normal ?_
          refine WX.seq ?_
          have hat : nth (outs n (netOut n f)) n.source.toNat = netOut n f n.source := outs_nth n (netOut n f) hns.1 hns.2
          refine WX.region rfl ?_
          refine WXL.move Met.none rfl ?_
          refine WXL.fieldAddr (off' := 1) Met.none rfl Try.underlying36 rfl sz3 rfl ?_
          first | refine WXL.ld Met.none rfl agg3 ?_ | refine WXL.ldS Met.none rfl agg3 ?_
          first | refine WXL.ix Met.none rfl rfl elem22 sz3 ?_ | refine WXL.ixS Met.none rfl rfl elem22 sz3 ?_
          first | refine WXL.ld Met.none rfl agg3 ?_ | refine WXL.ldS Met.none rfl agg3 ?_
          rw [hat]
          refine WXL.assign Met.none rfl ?_
          refine WXL.assign Met.none rfl ?_
          refine WXL.nil ?_
          refine Fin.then_normal ?_
          refine WX.ret ?_
          refine Fin.result (O' := O) (.inr rfl) rfl rfl drop_ ⟨_, _, rfl, ?_, rfl⟩
          first
          | exact ⟨k, hk, fun _ => ⟨rfl, rfl⟩, fun e => absurd e hc0⟩
          | exact ⟨0, hk, fun e => absurd rfl e, fun _ => .inr ⟨fun q => absurd q.1.len (by omega), rfl, rfl⟩⟩
          | exact ⟨0, hk, fun e => absurd rfl e, fun _ => .inr ⟨fun q => by have := q.1.cap j (by omega); omega, rfl, rfl⟩⟩
          | exact ⟨0, hk, fun e => absurd rfl e, fun _ => .inr ⟨fun q => absurd (q.2 w (by omega) (by omega) (by first | assumption | omega) (by first | assumption | omega)) (by first | assumption | omega), rfl, rfl⟩⟩
          | exact ⟨0, hk, fun e => absurd rfl e, fun _ => .inl ⟨⟨hfl, fun v h0 h1 h2 h3 => hbal v h0 (by omega) h2 h3⟩, rfl, rfl⟩⟩

end Go.Proofs.Ytjmklialkjncaaa.Eng

set_option linter.unusedVariables false
set_option linter.unusedSimpArgs false
namespace Go.Proofs.Ytjmklialkjncaaa.Eng

theorem Src.whole {O : Objs} {b sz n c : Nat} {cs : List Value} (h : Knows O b ⟨sz, false, cs⟩) (hl : cs.length = n * sz) : Src O sz (Row b 0 n c) n cs :=
  Src.of h (by show 0 + n * sz ≤ cs.length; omega) (by show (cs.drop 0).take (n * sz) = cs; rw [List.drop_zero, List.take_of_length_le (by omega)])

theorem ArcRows.src {n : Net4} {k : Nat} {A : Nat → Option Addr} {C : Nat → Nat} {Gs : List Objs} (h : ArcRows n k A C Gs) (R : Objs) {u : Nat} (hu : u < n.nodes.toNat) :
    Src (Gs.flatten ++ R) 3 (.slice (A u) (arcsTo n k u).length (C u)) (arcsTo n k u).length (flat encA (arcsTo n k u)) := by
  rw [flatten_at (by rw [h.len]; exact hu)]
  exact Src.app (h.row u hu).src

theorem Grow.some {sz b n c : Nat} {cs : List Value} {G : Objs} (h : Grow sz (some ⟨b, 0, none⟩) n c cs G) : G = [(b, ⟨sz, false, cs⟩)] ∧ cs.length = n * sz := by
  rcases h with ⟨h, _⟩ | ⟨b', h1, h2, h3⟩
  · cases h
  · simp only [Option.some.injEq, Addr.mk.injEq, and_true] at h1
    subst h1
    exact ⟨h2, h3⟩

theorem by_at {n : Net4} {S : BS} {v : Int} {i : Nat} (hv : 0 ≤ v) (hl : v.toNat < S.by_.length) (hi : nth S.by_ v.toNat = i) :
    nth (byL n S) v.toNat = ⟨i, v, decide ((nth n.edges i).b = v)⟩ ∧ nth (fromL n S) v.toNat = otherR (nth n.edges i) v := by
  have hto : ((v.toNat : Nat) : Int) = v := Int.toNat_of_nonneg hv
  constructor
  · have := nth_genOf (byF n) hl
    rw [hi] at this
    refine this.trans ?_
    unfold byF
    rw [if_pos (by omega), Int.toNat_natCast, hto]
  · have := nth_genOf (fromF n) hl
    rw [hi] at this
    refine this.trans ?_
    unfold fromF
    rw [if_pos (by omega), Int.toNat_natCast, hto]

theorem rest_by {n : Net4} (hn : Sound n) {f : List Int} {i : Nat} {v : Int} (hi : i < n.edges.length) (hv : (nth n.edges i).a = v ∨ (nth n.edges i).b = v) :
    restP n f ⟨i, v, decide ((nth n.edges i).b = v)⟩ = restOn n f (i, v) := by
  rw [restOn_eq hn hi hv]
  unfold restP
  by_cases hb : (nth n.edges i).b = v
  · simp only [hb, decide_true, if_true]
  · simp only [hb, decide_false, Bool.false_eq_true, if_false]

theorem push_by {n : Net4} {f : List Int} {i : Nat} {v d : Int} : pushP f ⟨i, v, decide ((nth n.edges i).b = v)⟩ d = changeR n f i v d := by
  unfold pushP changeR
  by_cases hb : (nth n.edges i).b = v
  · simp only [hb, decide_true, if_true]
  · simp only [hb, decide_false, Bool.false_eq_true, if_false]
    congr 1

theorem Sat.mid {h : AHeap} {G A R : Objs} (hs : Sat h (G ++ (A ++ R))) : Sat h (G ++ R) := hs.swap.app_right

def MaxOut (n : Net4) (O : Objs) (v : Value) (O' : Objs) : Prop := ∃ r a' c' G, MaxTo n (zeros n) 0 r ∧ MaxIn n r.2 r.1 ∧ v = .tuple #[I r.1, .slice a' r.2.length c', I 0] ∧ Grow 1 a' r.2.length c' (r.2.map I) G ∧ O' = G ++ O

theorem max_ok (O : Objs) (n : Net4) (a : Option Addr) (c : Nat) (hl : Edges O n a c) (hlen : n.edges.length ≤ 1000000) :
    Spec Try.prog false 15 #[netV n a c] O fun v O' => ∃ k, Wrong n k ∧ (k = 0 → MaxOut n O v O') ∧ (k ≠ 0 → v = .tuple #[I 0, .slice none 0 0, I k] ∧ O' = O) := by
  refine Spec.enter (args := [_]) (m := 89) Try.func15 rfl rfl (by decide +kernel) fun h0 => ?_
  refine WX.seq ?_
  refine WX.region rfl ?_
  refine WXL.box (c := [_, _, _, _]) Met.none rfl rfl rfl (fun b1 => ?_)
  refine WXL.assign Met.none rfl ?_
  refine WXL.assign Met.none rfl ?_
  refine WXL.assign Met.none rfl ?_
  refine WXL.nil ?_
  refine Fin.then_normal ?_
  refine WX.seq ?_
  refine WX.seq ?_
  refine WX.region rfl ?_
  refine WXL.ldN (vs := [_, _, _, _]) Met.none rfl agg36 sz36 ?_
  refine WXL.cl (O1 := _) Met.none rfl (fnOk_of Try.func34 (by decide +kernel)) rfl (fun _ h => h) (valid_ok _ n a c src_ hlen) (fun v O' hp => ?_)
  obtain ⟨k, rfl, hk, rfl⟩ := hp
  refine WXL.assign Met.none rfl ?_
  refine WXL.nil ?_
  refine Fin.then_normal ?_
  refine WX.seq ?_
  refine WX.region rfl ?_
  refine WXL.move Met.none rfl ?_
  refine WXL.bin Met.none rfl rfl rfl ?_
  refine WXL.nil ?_
  refine Fin.then_normal ?_
  refine WX.cond rfl (fun hc0 => ?_) (fun hc0 => ?_)
  · try simp only [cnd] at hc0
    refine WX.seq ?_
    refine WX.region rfl ?_
    refine WXL.move Met.none rfl ?_
    refine WXL.assign Met.none rfl ?_
    refine WXL.assign Met.none rfl ?_
    refine WXL.assign Met.none rfl ?_
    refine WXL.nil ?_
    refine Fin.then_normal ?_
    refine WX.ret ?_
    refine Fin.then_ret ?_
    first
    | exact Fin.result (O' := O) (.inr rfl) rfl rfl drop_ ⟨k, hk, fun e => absurd e hc0, fun _ => ⟨rfl, rfl⟩⟩
    | exact Fin.result (O' := [(b23, ⟨1, false, f.map I⟩)] ++ O) (.inr rfl) rfl rfl (fun _ hs => Sat.mid (G := [_]) (A := Gs.flatten) (Sat.told [3] 6 (by decide) (by decide) rfl hs)) ⟨0, hk, fun _ => ⟨(v, f), _, _, [_], hin.goal _ (.done hby), hin, rfl, .row (by simp), rfl⟩, fun e => absurd rfl e⟩
  · try simp only [cnd] at hc0
    refine WX.skip ?_
    refine Fin.then_normal ?_
    refine WX.seq ?_
    have hk0 : k = 0 := by omega
    subst hk0
    have hn := hk.sound
    have hnn := hn.nodes
    have hns := hn.source
    have hnk := hn.sink
    have hlen2 := hn.len
    refine WX.draw rfl ?_
    refine WXL.fieldAddr (off' := 3) Met.none rfl Try.underlying36 rfl sz34 rfl ?_
    first | refine WXL.ld Met.none rfl agg34 ?_ | refine WXL.ldS Met.none rfl agg34 ?_
    refine WXL.len Met.none rfl Try.underlying34 ?_
    refine WXL.makeSlice Met.none rfl rfl elem22 sz3 by3 zero3 (by omega) (by omega) (by omega) rfl (by decide) (by first | rw [Int.toNat_natCast] | exact rfl) (by first | exact zerosL_map I 0 _ | exact zerosL_map Value.bool false _ | exact rfl) (fun b23 => ?_)
    refine WXL.ldN (vs := [_, _, _, _]) Met.none rfl agg36 sz36 ?_
    refine WXL.cl (O1 := _) Met.none rfl (fnOk_of Try.func36 (by decide +kernel)) rfl (fun _ h => h) (arcs_q _ n a c hn src_) (fun v O' hp => ?_)
    obtain ⟨bA, cA, A, C, Gs, rfl, hR, rfl⟩ := hp
    refine WXL.of (fun s hs => St.swap (G := (bA, _) :: Gs.flatten) [_, _] hs) ?_
    refine WXL.assign Met.none rfl ?_
    refine WXL.assign Met.none rfl ?_
    refine WXL.assign Met.none rfl ?_
    refine WXL.nil ?_
    refine Fin.then_normal ?_
    refine WX.block ?_
    refine WX.loop (fun q : List Int × Int => [(1, Ptr b1 0), (6, Row b23 0 q.1.length n.edges.length), (7, Row bA 0 n.nodes.toNat cA), (8, I q.2)]) (fun q => (b23, ⟨1, false, q.1.map I⟩) :: (b1, ⟨0, false, [I n.nodes, I n.source, I n.sink, .slice a n.edges.length c]⟩) :: (bA, ⟨1, false, rowsV n n.edges.length A C⟩) :: (Gs.flatten ++ O)) (fun q => MaxIn n q.1 q.2) (fun q => (9007199254740993 - q.2).toNat) (List.replicate n.edges.length 0, 0) (MaxIn.start hn) (by simp only [List.length_replicate]; exact (fun s hs => hs.tl [0, 1] 2)) (fun q hq => ?_)
    obtain ⟨f, v⟩ := q
    have hin := hq
    simp only at hin
    dsimp only
    have hsl := search_len hn f true
    have hfl := hin.flow
    have hfe := hfl.len
    have hv0 := hin.pos
    have hvb := hin.bound hn
    refine WX.block ?_
    refine WX.seq ?_
    refine WX.region rfl ?_
    refine WXL.ldN (vs := [_, _, _, _]) Met.none rfl agg36 sz36 ?_
    refine WXL.move Met.none rfl ?_
    refine WXL.move Met.none rfl ?_
    refine WXL.cl (O1 := _) Met.none rfl (fnOk_of Try.func37 (by decide +kernel)) rfl (fun _ h => h) (search_ok _ n f true a _ _ c _ _ A C hn hfl src_ (Src.whole at_ (by rw [List.length_map]; omega)) (Src.whole at_ (by rw [rows_len]; omega)) (fun u hu => Src.cons (Src.cons (Src.cons (hR.src O hu))))) (fun v O' hp => ?_)
    obtain ⟨S, bB, bF, bS, hS, hSl, rfl, rfl⟩ := hp
    rw [hS] at hsl
    refine WXL.move Met.none rfl ?_
    refine WXL.extract Met.none rfl rfl ?_
    refine WXL.extract Met.none rfl rfl ?_
    refine WXL.extract Met.none rfl rfl ?_
    refine WXL.assign Met.none rfl ?_
    refine WXL.assign Met.none rfl ?_
    refine WXL.assign Met.none rfl ?_
    refine WXL.nil ?_
    refine Fin.then_normal ?_
    refine WX.seq ?_
    refine WX.seq ?_
    have hsL : (seenL S).length = S.by_.length := genOf_len _ _
    refine WX.region rfl ?_
    refine WXL.move Met.none rfl ?_
    refine WXL.fieldAddr (off' := 2) Met.none rfl Try.underlying36 rfl sz3 rfl ?_
    first | refine WXL.ld Met.none rfl agg3 ?_ | refine WXL.ldS Met.none rfl agg3 ?_
    first | refine WXL.ix Met.none rfl rfl elem46 sz4 ?_ | refine WXL.ixS Met.none rfl rfl elem46 sz4 ?_
    first | refine WXL.ld Met.none rfl agg4 ?_ | refine WXL.ldS Met.none rfl agg4 ?_
    refine WXL.not Met.none rfl ?_
    refine WXL.nil ?_
    refine Fin.then_normal ?_
    refine WX.cond rfl (fun hc1 => ?_) (fun hc1 => ?_)
    · try simp only [cnd] at hc1
      refine WX.seq ?_
      have hby : nth (searchR n f true) n.sink.toNat = -2 := by
        rw [hS]
        have := seen_nth (S := S) (v := n.sink.toNat) (by omega)
        rw [this] at hc1
        have h2 := of_decide_eq_false hc1
        omega
      refine WX.region rfl ?_
      refine WXL.move Met.none rfl ?_
      refine WXL.move Met.none rfl ?_
      refine WXL.assign Met.none rfl ?_
      refine WXL.assign Met.none rfl ?_
      refine WXL.assign Met.none rfl ?_
      refine WXL.nil ?_
      refine Fin.then_normal ?_
      refine WX.ret ?_
      refine Fin.then_ret ?_
      refine Fin.block_ret ?_
      refine Fin.loop_ret ?_
      refine Fin.block_ret ?_
      first
      | exact Fin.result (O' := O) (.inr rfl) rfl rfl drop_ ⟨k, hk, fun e => absurd e hc0, fun _ => ⟨rfl, rfl⟩⟩
      | exact Fin.result (O' := [(b23, ⟨1, false, f.map I⟩)] ++ O) (.inr rfl) rfl rfl (fun _ hs => Sat.mid (G := [_]) (A := Gs.flatten) (Sat.told [3] 6 (by decide) (by decide) rfl hs)) ⟨0, hk, fun _ => ⟨(v, f), _, _, [_], hin.goal _ (.done hby), hin, rfl, .row (by simp), rfl⟩, fun e => absurd rfl e⟩
    · try simp only [cnd] at hc1
      refine WX.skip ?_
      refine Fin.then_normal ?_
      refine WX.seq ?_
      have hby : nth (searchR n f true) n.sink.toNat ≠ -2 := by
        rw [hS]
        have := seen_nth (S := S) (v := n.sink.toNat) (by omega)
        rw [this] at hc1
        exact of_decide_eq_true hc1
      obtain ⟨p0, hW0⟩ := search_way hn hby
      have hm := minW_le hn hfl hW0
      have hstep := hin.step hn hW0
      have hsb := hstep.bound hn
      obtain ⟨i0, p0', hp0, hi0, hie0, hW0'⟩ := hW0.uncons (fun e => hn.ne e.symm)
      rw [hS] at hi0
      have hb0 := (by_at (n := n) hnk.1 (by omega) hi0).1
      have hed0 := hW0.edges (i0, n.sink) (by rw [hp0]; exact List.mem_cons_self ..)
      have hr0 := rest_by hn (f := f) hie0 hed0.2.2.1
      have hin0 := hfl.in64 hn hie0
      have hyl : (byL n S).length = S.by_.length := genOf_len _ _
      have hfrl : (fromL n S).length = S.by_.length := genOf_len _ _
      refine WX.draw rfl ?_
      refine WXL.ldN (vs := [_, _, _, _]) Met.none rfl agg36 sz36 ?_
      refine WXL.move Met.none rfl ?_
      refine WXL.move Met.none rfl ?_
      refine WXL.fieldAddr (off' := 2) Met.none rfl Try.underlying36 rfl sz3 rfl ?_
      first | refine WXL.ld Met.none rfl agg3 ?_ | refine WXL.ldS Met.none rfl agg3 ?_
      first | refine WXL.ix Met.none rfl rfl elem74 sz79 ?_ | refine WXL.ixS Met.none rfl rfl elem74 sz79 ?_
      first | refine WXL.ldN Met.none rfl agg79 sz79 ?_ (hv := (cellsAt_flat encA_len (byL n S) n.sink.toNat (by omega))) | refine WXL.ldNS Met.none rfl agg79 sz79 ?_ (hv := (cellsAt_flat encA_len (byL n S) n.sink.toNat (by omega)))
      rw [hb0]
      refine WXL.cl (O1 := _) Met.none rfl (fnOk_of Try.func38 (by decide +kernel)) rfl (fun _ h => h) (rest_ok _ n f ⟨i0, n.sink, decide ((nth n.edges i0).b = n.sink)⟩ a _ c _ src_ (Src.whole at_ (by rw [List.length_map]; omega)) hfe (by simp only; omega) (fun _ => hin0.1) (fun _ => hin0.2)) (fun v O' hp => ?_)
      obtain ⟨rfl, hO⟩ := hp
      subst O'
      rw [hr0]
      refine WXL.assign Met.none rfl ?_
      refine WXL.nil ?_
      refine Fin.then_normal ?_
      refine WX.seq ?_
      refine WX.seq ?_
      refine WX.region rfl ?_
      refine WXL.fieldAddr (off' := 2) Met.none rfl Try.underlying36 rfl sz3 rfl ?_
      first | refine WXL.ld Met.none rfl agg3 ?_ | refine WXL.ldS Met.none rfl agg3 ?_
      refine WXL.assign Met.none rfl ?_
      refine WXL.nil ?_
      refine Fin.then_normal ?_
      refine WX.block ?_
      refine WX.loop (fun q : List (Nat × Int) × Int × Int => [(1, Ptr b1 0), (6, Row b23 0 f.length n.edges.length), (7, Row bA 0 n.nodes.toNat cA), (8, I v), (9, Row bB 0 n.nodes.toNat n.nodes.toNat), (10, Row bF 0 n.nodes.toNat n.nodes.toNat), (12, I q.2.1), (13, I q.2.2)]) (fun q => (bS, ⟨1, false, (seenL S).map .bool⟩) :: (bF, ⟨1, false, (fromL n S).map I⟩) :: (bB, ⟨3, false, flat encA (byL n S)⟩) :: (b23, ⟨1, false, f.map I⟩) :: (b1, ⟨0, false, [I n.nodes, I n.source, I n.sink, .slice a n.edges.length c]⟩) :: (bA, ⟨1, false, rowsV n n.edges.length A C⟩) :: (Gs.flatten ++ O)) (fun q => Way n f (searchR n f true) q.2.2 q.1 ∧ leastW n f q.2.1 q.1 = minW n f p0) (fun q => q.1.length) (p0, restOn n f (i0, n.sink), n.sink) ⟨hW0, by rw [hp0]; rfl⟩ (fun s hs => hs.tl [0, 1, 2, 3, 4, 5] 6) (fun q hq => ?_)
      obtain ⟨p, x, w⟩ := q
      obtain ⟨hW, hlr⟩ := hq
      simp only at hW hlr
      dsimp only
      have hwi := hW.inside hn
      refine WX.seq ?_
      refine WX.seq ?_
      refine WX.region rfl ?_
      refine WXL.move Met.none rfl ?_
      refine WXL.fieldAddr (off' := 1) Met.none rfl Try.underlying36 rfl sz3 rfl ?_
      first | refine WXL.ld Met.none rfl agg3 ?_ | refine WXL.ldS Met.none rfl agg3 ?_
      refine WXL.bin Met.none rfl rfl rfl ?_
      refine WXL.nil ?_
      refine Fin.then_normal ?_
      refine WX.cond rfl (fun hc2 => ?_) (fun hc2 => ?_)
      · try simp only [cnd] at hc2
        refine WX.skip ?_
        refine Fin.then_normal ?_
        refine WX.seq ?_
        refine WX.block ?_
        obtain ⟨i, p', rfl, hi, hie, hW'⟩ := hW.uncons hc2
        rw [hS] at hi
        have hb := by_at (n := n) hwi.1 (by omega) hi
        have hed := hW.edges _ (List.mem_cons_self ..)
        have hr := rest_by hn (f := f) hie hed.2.2.1
        have hin64 := hfl.in64 hn hie
        refine WX.draw rfl ?_
        refine WXL.move Met.none rfl ?_
        refine WXL.ldN (vs := [_, _, _, _]) Met.none rfl agg36 sz36 ?_
        refine WXL.move Met.none rfl ?_
        refine WXL.move Met.none rfl ?_
        refine WXL.move Met.none rfl ?_
        first | refine WXL.ix Met.none rfl rfl elem74 sz79 ?_ | refine WXL.ixS Met.none rfl rfl elem74 sz79 ?_
        first | refine WXL.ldN Met.none rfl agg79 sz79 ?_ (hv := (cellsAt_flat encA_len (byL n S) w.toNat (by omega))) | refine WXL.ldNS Met.none rfl agg79 sz79 ?_ (hv := (cellsAt_flat encA_len (byL n S) w.toNat (by omega)))
        rw [hb.1]
        refine WXL.cl (O1 := _) Met.none rfl (fnOk_of Try.func38 (by decide +kernel)) rfl (fun _ h => h) (rest_ok _ n f ⟨i, w, decide ((nth n.edges i).b = w)⟩ a _ c _ src_ (Src.whole at_ (by rw [List.length_map]; omega)) hfe (by simp only; omega) (fun _ => hin64.1) (fun _ => hin64.2)) (fun v O' hp => ?_)
        obtain ⟨rfl, hO⟩ := hp
        subst O'
        rw [hr]
        refine WXL.min Met.none rfl rfl ?_
        refine WXL.assign Met.none rfl ?_
        refine WXL.nil ?_
        refine Fin.block_normal ?_
        refine Fin.then_normal ?_
        refine WX.region rfl ?_
        refine WXL.move Met.none rfl ?_
        refine WXL.move Met.none rfl ?_
        first | refine WXL.ix Met.none rfl rfl elem22 sz3 ?_ | refine WXL.ixS Met.none rfl rfl elem22 sz3 ?_
        first | refine WXL.ld Met.none rfl agg3 ?_ | refine WXL.ldS Met.none rfl agg3 ?_
        rw [hb.2]
        refine WXL.assign Met.none rfl ?_
        refine WXL.nil ?_
        exact Fin.loop_next (p', min x (restOn n f (i, w)), otherR (nth n.edges i) w) ⟨hW', hlr⟩ (by simp) (fun s hs => hs.tl [0, 1, 2, 3, 4, 5] 6)
      · try simp only [cnd] at hc2
        refine WX.exit ?_
        refine Fin.then_exit ?_
        refine Fin.loop_exit ?_
        refine Fin.block_hit rfl ?_
        refine Fin.then_normal ?_
        refine WX.seq ?_
        refine WX.seq ?_
        have hpn := hW.nil_of hc2
        subst hpn
        have hx : x = minW n f p0 := hlr
        subst hx
        refine WX.region rfl ?_
        refine WXL.fieldAddr (off' := 2) Met.none rfl Try.underlying36 rfl sz3 rfl ?_
        first | refine WXL.ld Met.none rfl agg3 ?_ | refine WXL.ldS Met.none rfl agg3 ?_
        refine WXL.assign Met.none rfl ?_
        refine WXL.nil ?_
        refine Fin.then_normal ?_
        refine WX.block ?_
        refine WX.loop (fun q : List (Nat × Int) × List Int × Int => [(1, Ptr b1 0), (6, Row b23 0 q.2.1.length n.edges.length), (7, Row bA 0 n.nodes.toNat cA), (8, I v), (9, Row bB 0 n.nodes.toNat n.nodes.toNat), (10, Row bF 0 n.nodes.toNat n.nodes.toNat), (12, I (minW n f p0)), (14, I q.2.2)]) (fun q => (b23, ⟨1, false, q.2.1.map I⟩) :: (bS, ⟨1, false, (seenL S).map .bool⟩) :: (bF, ⟨1, false, (fromL n S).map I⟩) :: (bB, ⟨3, false, flat encA (byL n S)⟩) :: (b1, ⟨0, false, [I n.nodes, I n.source, I n.sink, .slice a n.edges.length c]⟩) :: (bA, ⟨1, false, rowsV n n.edges.length A C⟩) :: (Gs.flatten ++ O)) (fun q => Chg n f (minW n f p0) p0 q.2.2 q.1 q.2.1) (fun q => q.1.length) (p0, f, n.sink) (Chg.start hn hW0) (fun s hs => hs.tl [3, 0, 1, 2, 4, 5] 6) (fun q hq => ?_)
        obtain ⟨p, f', w2⟩ := q
        have hC := hq
        simp only at hC
        dsimp only
        have hwi2 := hC.way.inside hn
        have hcl := hC.len
        refine WX.seq ?_
        refine WX.seq ?_
        refine WX.region rfl ?_
        refine WXL.move Met.none rfl ?_
        refine WXL.fieldAddr (off' := 1) Met.none rfl Try.underlying36 rfl sz3 rfl ?_
        first | refine WXL.ld Met.none rfl agg3 ?_ | refine WXL.ldS Met.none rfl agg3 ?_
        refine WXL.bin Met.none rfl rfl rfl ?_
        refine WXL.nil ?_
        refine Fin.then_normal ?_
        refine WX.cond rfl (fun hc3 => ?_) (fun hc3 => ?_)
        · try simp only [cnd] at hc3
          refine WX.skip ?_
          refine Fin.then_normal ?_
          refine WX.seq ?_
          refine WX.block ?_
          obtain ⟨i, p', rfl, hi, hie, hW'⟩ := hC.way.uncons hc3
          rw [hS] at hi
          have hb := by_at (n := n) hwi2.1 (by omega) hi
          have hin64 := hC.in64 hn hfl hm.1
          have hpd : In64 (nth f' i + if (decide ((nth n.edges i).b = w2)) = true then minW n f p0 else -(minW n f p0)) := by
            by_cases hbb : (nth n.edges i).b = w2
            · rw [if_pos (decide_eq_true hbb)]
              exact hin64.1 hbb
            · rw [if_neg (by rw [decide_eq_false hbb]; decide)]
              exact hin64.2.1 hbb
          refine WX.region rfl ?_
          refine WXL.move Met.none rfl ?_
          refine WXL.move Met.none rfl ?_
          refine WXL.move Met.none rfl ?_
          first | refine WXL.ix Met.none rfl rfl elem74 sz79 ?_ | refine WXL.ixS Met.none rfl rfl elem74 sz79 ?_
          first | refine WXL.ldN Met.none rfl agg79 sz79 ?_ (hv := (cellsAt_flat encA_len (byL n S) w2.toNat (by omega))) | refine WXL.ldNS Met.none rfl agg79 sz79 ?_ (hv := (cellsAt_flat encA_len (byL n S) w2.toNat (by omega)))
          rw [hb.1]
          refine WXL.move Met.none rfl ?_
          refine WXL.cl (O1 := _) Met.none rfl (fnOk_of Try.func39 (by decide +kernel)) rfl (fun _ h => h) (push_ok _ [_] f' ⟨i, w2, decide ((nth n.edges i).b = w2)⟩ (minW n f p0) _ _ (.row (by simp)) (by simp only; omega) (by omega) hpd) (fun v O' hp => ?_)
          obtain ⟨G9, hG9, rfl⟩ := hp
          obtain ⟨rfl, _⟩ := hG9.some; rw [push_by]
          refine WXL.nil ?_
          refine Fin.block_normal ?_
          refine Fin.then_normal ?_
          refine WX.region rfl ?_
          refine WXL.move Met.none rfl ?_
          refine WXL.move Met.none rfl ?_
          first | refine WXL.ix Met.none rfl rfl elem22 sz3 ?_ | refine WXL.ixS Met.none rfl rfl elem22 sz3 ?_
          first | refine WXL.ld Met.none rfl agg3 ?_ | refine WXL.ldS Met.none rfl agg3 ?_
          rw [hb.2]
          refine WXL.assign Met.none rfl ?_
          refine WXL.nil ?_
          exact Fin.loop_next (p', changeR n f' i w2 (minW n f p0), otherR (nth n.edges i) w2) (hC.next hfe hW') (by simp) (by simp only [changeR_length]; exact (fun s hs => hs.tl [0, 1, 2, 3, 4, 5] 6))
        · try simp only [cnd] at hc3
          refine WX.exit ?_
          refine Fin.then_exit ?_
          refine Fin.loop_exit ?_
          refine Fin.block_hit rfl ?_
          refine Fin.then_normal ?_
          have hpn := hC.way.nil_of hc3
          subst hpn
          have hlast := hC.last
          subst hlast
          refine WX.region rfl ?_
          refine WXL.move Met.none rfl ?_
          refine WXL.move Met.none rfl ?_
          refine WXL.bin Met.none rfl rfl bvA ?_
          refine WXL.assign Met.none rfl ?_
          refine WXL.nil ?_
          refine Fin.block_normal ?_
          exact Fin.loop_next (_, v + minW n f p0) hstep (by simp only; omega) (fun s hs => hs.tl [0, 4, 5] 6)

end Go.Proofs.Ytjmklialkjncaaa.Eng

set_option linter.unusedVariables false
set_option linter.unusedSimpArgs false
namespace Go.Proofs.Ytjmklialkjncaaa.Eng

abbrev Bl (b : Bool) : Value := .bool b

theorem sides_ok (O : Objs) (l m : List Bool) (a b : Option Addr) (c e : Nat) (hlen : Short l) (hl : Src O 1 (.slice a l.length c) l.length (l.map Bl)) (hm : Src O 1 (.slice b m.length e) m.length (m.map Bl)) :
    Spec Try.prog true 25 #[.slice a l.length c, .slice b m.length e] O fun v O' => v = .bool (decide (l = m)) ∧ O' = O := by
  unfold Short at hlen
  refine Spec.enter (args := [_, _]) (m := 26) Try.func25 rfl rfl (by decide +kernel) fun h0 => ?_
  refine WX.seq ?_
  refine WX.region rfl ?_
  refine WXL.assign Met.none rfl ?_
  refine WXL.nil ?_
  refine Fin.then_normal ?_
  refine WX.seq ?_
  refine WX.seq ?_
  refine WX.region rfl ?_
  refine WXL.move Met.none rfl ?_
  refine WXL.len Met.none rfl Try.underlying46 ?_
  refine WXL.move Met.none rfl ?_
  refine WXL.len Met.none rfl Try.underlying46 ?_
  refine WXL.bin Met.none rfl rfl rfl ?_
  refine WXL.nil ?_
  refine Fin.then_normal ?_
  refine WX.cond rfl (fun hc0 => ?_) (fun hc0 => ?_)
  · try simp only [cnd] at hc0
    refine WX.seq ?_
    refine WX.region rfl ?_
    refine WXL.assign Met.none rfl ?_
    refine WXL.nil ?_
    refine Fin.then_normal ?_
    refine WX.ret ?_
    refine Fin.then_ret ?_
    refine Fin.result (.inr rfl) rfl rfl (fun _ h => h) ⟨?_, rfl⟩
    first
    | exact bool_false (fun h => hc0 (by rw [h]))
    | exact bool_false (fun h => by rw [h] at hc2; simp at hc2)
    | exact bool_true (by
        have e1 : k = l.length := by omega
        have e2 := hk.2
        rw [e1, List.take_length, List.take_of_length_le (by omega)] at e2
        exact e2)
  · try simp only [cnd] at hc0
    refine WX.skip ?_
    refine Fin.then_normal ?_
    refine WX.seq ?_
    refine WX.seq ?_
    refine WX.region rfl ?_
    refine WXL.assign Met.none rfl ?_
    refine WXL.nil ?_
    refine Fin.then_normal ?_
    refine WX.block ?_
    refine WX.loop (fun k : Nat => [(0, .slice a l.length c), (1, .slice b m.length e), (5, I k)]) (fun _ => O) (fun k => k ≤ l.length ∧ l.take k = m.take k) (fun k => l.length - k) 0 ⟨Nat.zero_le _, rfl⟩ (fun s hs => hs.tl [] 0) (fun k hk => ?_)
    refine WX.seq ?_
    refine WX.seq ?_
    refine WX.region rfl ?_
    refine WXL.move Met.none rfl ?_
    refine WXL.move Met.none rfl ?_
    refine WXL.len Met.none rfl Try.underlying46 ?_
    refine WXL.bin Met.none rfl rfl rfl ?_
    refine WXL.nil ?_
    refine Fin.then_normal ?_
    refine WX.cond rfl (fun hc1 => ?_) (fun hc1 => ?_)
    · try simp only [cnd] at hc1
      refine WX.skip ?_
      refine Fin.then_normal ?_
      refine WX.seq ?_
      refine WX.block ?_
      refine WX.seq ?_
      have hkl : k < l.length := by omega
      have hkm : k < m.length := by omega
      refine WX.draw rfl ?_
      refine WXL.move Met.none rfl ?_
      refine WXL.move Met.none rfl ?_
      first | refine WXL.ix Met.none rfl rfl elem46 sz4 ?_ | refine WXL.ixS Met.none rfl rfl elem46 sz4 ?_
      first | refine WXL.ld Met.none rfl agg4 ?_ (hv := (cell_map Bl l k hkl)) | refine WXL.ldS Met.none rfl agg4 ?_ (hv := (cell_map Bl l k hkl))
      refine WXL.move Met.none rfl ?_
      refine WXL.move Met.none rfl ?_
      first | refine WXL.ix Met.none rfl rfl elem46 sz4 ?_ | refine WXL.ixS Met.none rfl rfl elem46 sz4 ?_
      first | refine WXL.ld Met.none rfl agg4 ?_ (hv := (cell_map Bl m k hkm)) | refine WXL.ldS Met.none rfl agg4 ?_ (hv := (cell_map Bl m k hkm))
      refine WXL.neB Met.none rfl rfl Try.underlying4 ?_
      refine WXL.nil ?_
      refine Fin.then_normal ?_
      refine WX.cond rfl (fun hc2 => ?_) (fun hc2 => ?_)
      · try simp only [cnd] at hc2
        refine WX.seq ?_
        refine WX.region rfl ?_
        refine WXL.assign Met.none rfl ?_
        refine WXL.nil ?_
        refine Fin.then_normal ?_
        refine WX.ret ?_
        refine Fin.block_ret ?_
        refine Fin.then_ret ?_
        refine Fin.loop_ret ?_
        refine Fin.block_ret ?_
        refine Fin.then_ret ?_
        refine Fin.result (.inr rfl) rfl rfl (fun _ h => h) ⟨?_, rfl⟩
        first
        | exact bool_false (fun h => hc0 (by rw [h]))
        | exact bool_false (fun h => by rw [h] at hc2; simp at hc2)
        | exact bool_true (by
            have e1 : k = l.length := by omega
            have e2 := hk.2
            rw [e1, List.take_length, List.take_of_length_le (by omega)] at e2
            exact e2)
      · try simp only [cnd] at hc2
        refine WX.skip ?_
        refine Fin.block_normal ?_
        refine Fin.then_normal ?_
        refine WX.region rfl ?_
        refine WXL.move Met.none rfl ?_
        refine WXL.bin Met.none rfl rfl bvA ?_
        refine WXL.assign Met.none rfl ?_
        refine WXL.nil ?_
        refine Fin.loop_next (k + 1) ⟨by omega, ?_⟩ (by omega) (fun s hs => hs.tl [] 0)
        rw [take_succ_nth (by omega), take_succ_nth (by omega), hk.2, show nth l k = nth m k from by first | exact hc2 | simpa using hc2]
    · try simp only [cnd] at hc1
      refine WX.exit ?_
      refine Fin.then_exit ?_
      refine Fin.loop_exit ?_
      refine Fin.block_hit rfl ?_
      refine Fin.then_normal ?_
      refine WX.seq ?_
      refine WX.region rfl ?_
      refine WXL.assign Met.none rfl ?_
      refine WXL.nil ?_
      refine Fin.then_normal ?_
      refine WX.ret ?_
      refine Fin.result (.inr rfl) rfl rfl (fun _ h => h) ⟨?_, rfl⟩
      first
      | exact bool_false (fun h => hc0 (by rw [h]))
      | exact bool_false (fun h => by rw [h] at hc2; simp at hc2)
      | exact bool_true (by
          have e1 : k = l.length := by omega
          have e2 := hk.2
          rw [e1, List.take_length, List.take_of_length_le (by omega)] at e2
          exact e2)

/-- The nodes that a search has reached. -/
def reach (n : Net4) (f : List Int) : List Bool := (searchR n f false).map fun i => decide (i ≠ -2)

def CutR (n : Net4) (f : List Int) (s : List Bool) (e : Int) : Prop := ∃ k, Wrong n k ∧ (k ≠ 0 → s = [] ∧ e = k) ∧ (k = 0 → ¬ FlowOk n f → s = [] ∧ e = 1) ∧
  (k = 0 → FlowOk n f → nth (searchR n f false) n.sink.toNat ≠ -2 → s = [] ∧ e = 17) ∧ (k = 0 → FlowOk n f → nth (searchR n f false) n.sink.toNat = -2 → s = reach n f ∧ e = 0)

theorem CutR.uniq {n : Net4} {f : List Int} {s s' : List Bool} {e e' : Int} (h : CutR n f s e) (h' : CutR n f s' e') : s = s' ∧ e = e' := by
  obtain ⟨k, h1, h2, h3, h4, h5⟩ := h
  obtain ⟨k', g1, g2, g3, g4, g5⟩ := h'
  have ek := h1.uniq g1
  subst ek
  have key : ∀ {x : List Bool} {y : Int}, (s = x ∧ e = y) → (s' = x ∧ e' = y) → s = s' ∧ e = e' := fun a b => ⟨a.1.trans b.1.symm, a.2.trans b.2.symm⟩
  by_cases hk : k = 0
  · by_cases hf : FlowOk n f
    · by_cases hs : nth (searchR n f false) n.sink.toNat = -2
      · exact key (h5 hk hf hs) (g5 hk hf hs)
      · exact key (h4 hk hf hs) (g4 hk hf hs)
    · exact key (h3 hk hf) (g3 hk hf)
  · exact key (h2 hk) (g2 hk)

theorem seenL_map (S : BS) : seenL S = S.by_.map fun i => decide (i ≠ -2) := by
  unfold seenL
  refine ext_nth (by rw [genOf_len, List.length_map]) fun j hj => ?_
  rw [genOf_len] at hj
  rw [nth_genOf seenF hj, nth_map hj]
  rfl

def CutOut (n : Net4) (f : List Int) (O : Objs) (v : Value) (O' : Objs) : Prop := ∃ s e a' c' G, v = .tuple #[.slice a' s.length c', I e] ∧ CutR n f s e ∧ Grow 1 a' s.length c' (s.map Bl) G ∧ O' = G ++ O

theorem cut_ok (O : Objs) (n : Net4) (f : List Int) (a af : Option Addr) (c cf : Nat) (hlen : n.edges.length ≤ 1000000) (hl : Edges O n a c) (hf : Src O 1 (.slice af f.length cf) f.length (f.map I)) :
    Spec Try.prog false 22 #[netV n a c, .slice af f.length cf] O (CutOut n f O) := by
  refine Spec.enter (args := [_, _]) (m := 35) Try.func22 rfl rfl (by decide +kernel) fun h0 => ?_
  refine WX.seq ?_
  refine WX.region rfl ?_
  refine WXL.box (c := [_, _, _, _]) Met.none rfl rfl rfl (fun b2 => ?_)
  refine WXL.assign Met.none rfl ?_
  refine WXL.assign Met.none rfl ?_
  refine WXL.nil ?_
  refine Fin.then_normal ?_
  refine WX.seq ?_
  refine WX.seq ?_
  refine WX.region rfl ?_
  refine WXL.ldN (vs := [_, _, _, _]) Met.none rfl agg36 sz36 ?_
  refine WXL.move Met.none rfl ?_
  refine WXL.cl (O1 := _) Met.none rfl (fnOk_of Try.func23 (by decide +kernel)) rfl (fun _ h => h) (value_ok _ n f a af c cf hlen src_ src_) (fun v O' hp => ?_)
  obtain ⟨x, e, rfl, hv, rfl⟩ := hp
  refine WXL.move Met.none rfl ?_
  refine WXL.extract Met.none rfl rfl ?_
  refine WXL.extract Met.none rfl rfl ?_
  refine WXL.assign Met.none rfl ?_
  refine WXL.assign Met.none rfl ?_
  refine WXL.nil ?_
  refine Fin.then_normal ?_
  refine WX.seq ?_
  refine WX.region rfl ?_
  refine WXL.move Met.none rfl ?_
  refine WXL.bin Met.none rfl rfl rfl ?_
  refine WXL.nil ?_
  refine Fin.then_normal ?_
  refine WX.cond rfl (fun hc0 => ?_) (fun hc0 => ?_)
  · try simp only [cnd] at hc0
    refine WX.seq ?_
    refine WX.region rfl ?_
    refine WXL.move Met.none rfl ?_
    refine WXL.assign Met.none rfl ?_
    refine WXL.assign Met.none rfl ?_
    refine WXL.nil ?_
    refine Fin.then_normal ?_
    refine WX.ret ?_
    refine Fin.then_ret ?_
    first
    | exact Fin.result (O' := [] ++ O) (.inr rfl) rfl rfl drop_ ⟨[], e, none, 0, [], rfl, by
        obtain ⟨k, hk, hv1, hv2⟩ := hv
        refine ⟨k, hk, fun q => ⟨rfl, (hv1 q).2⟩, fun q1 q2 => ?_, fun q1 q2 => ?_, fun q1 q2 => ?_⟩
        · rcases hv2 q1 with r | r
          · exact absurd r.1 q2
          · exact ⟨rfl, r.2.2⟩
        · rcases hv2 q1 with r | r
          · exact absurd r.2.2 hc0
          · exact absurd q2 r.1
        · rcases hv2 q1 with r | r
          · exact absurd r.2.2 hc0
          · exact absurd q2 r.1, .nil, rfl⟩
    | exact Fin.result (O' := [] ++ O) (.inr rfl) rfl rfl (fun _ hs => (Sat.told (O' := Gs.flatten ++ O) [] 5 (by decide) (by decide) rfl hs).app_right) ⟨[], 17, none, 0, [], rfl, by
        have h2 : nth (searchR n f false) n.sink.toNat ≠ -2 := by
          rw [hS]
          rw [hsn] at hc1
          exact of_decide_eq_true hc1
        exact ⟨0, hk, fun q => absurd rfl q, fun _ q => absurd hfo q, fun _ _ _ => ⟨rfl, rfl⟩, fun _ _ q => absurd q h2⟩, .nil, rfl⟩
    | exact Fin.result (O' := [(bS, ⟨1, false, (seenL S).map Bl⟩)] ++ O) (.inr rfl) rfl (vs := [.slice (some ⟨bS, 0, none⟩) (seenL S).length n.nodes.toNat, I 0]) (by rw [show (seenL S).length = n.nodes.toNat by omega]; rfl) (fun _ hs => Sat.mid (G := [_]) (A := Gs.flatten) (Sat.told [0] 5 (by decide) (by decide) rfl hs)) ⟨seenL S, 0, _, _, [_], rfl, by
        have h2 : nth (searchR n f false) n.sink.toNat = -2 := by
          rw [hS]
          rw [hsn] at hc1
          have := of_decide_eq_false hc1
          omega
        exact ⟨0, hk, fun q => absurd rfl q, fun _ q => absurd hfo q, fun _ _ q => absurd h2 q, fun _ _ _ => ⟨by unfold reach; rw [hS, seenL_map], rfl⟩⟩, .row (by simp), rfl⟩
  · try simp only [cnd] at hc0
    refine WX.skip ?_
    refine Fin.then_normal ?_
    refine WX.seq ?_
    have he0 : e = 0 := by omega
    subst he0
    obtain ⟨k, hk, hv1, hv2⟩ := hv
    have hk0 : k = 0 := by
      by_cases q : k = 0
      · exact q
      · have := (hv1 q).2; omega
    subst hk0
    have hfo : FlowOk n f := by
      rcases hv2 rfl with q | q
      · exact q.1
      · have := q.2.2; omega
    have hn := hk.sound
    have hnn := hn.nodes
    have hnk := hn.sink
    refine WX.draw rfl ?_
    refine WXL.ldN (vs := [_, _, _, _]) Met.none rfl agg36 sz36 ?_
    refine WXL.move Met.none rfl ?_
    refine WXL.ldN (vs := [_, _, _, _]) Met.none rfl agg36 sz36 ?_
    refine WXL.cl (O1 := _) Met.none rfl (fnOk_of Try.func36 (by decide +kernel)) rfl (fun _ h => h) (arcs_q _ n a c hn src_) (fun v O' hp => ?_)
    obtain ⟨bA, cA, A, C, Gs, rfl, hR, rfl⟩ := hp
    refine WXL.of (fun s hs => St.swap (G := (bA, _) :: Gs.flatten) [_] hs) ?_
    refine WXL.cl (O1 := _) Met.none rfl (fnOk_of Try.func37 (by decide +kernel)) rfl (fun _ h => h) (search_ok _ n f false a _ _ c _ _ A C hn hfo.1 src_ src_ (Src.whole at_ (by rw [rows_len]; omega)) (fun u hu => Src.cons (Src.cons (hR.src _ hu)))) (fun v O' hp => ?_)
    obtain ⟨S, bB, bF, bS, hS, hSl, rfl, rfl⟩ := hp
    refine WXL.move Met.none rfl ?_
    refine WXL.extract Met.none rfl rfl ?_
    refine WXL.extract Met.none rfl rfl ?_
    refine WXL.extract Met.none rfl rfl ?_
    refine WXL.assign Met.none rfl ?_
    refine WXL.assign Met.none rfl ?_
    refine WXL.assign Met.none rfl ?_
    refine WXL.nil ?_
    refine Fin.then_normal ?_
    refine WX.seq ?_
    refine WX.seq ?_
    have hsL : (seenL S).length = S.by_.length := genOf_len _ _
    have hsn := seen_nth (S := S) (v := n.sink.toNat) (by omega)
    refine WX.region rfl ?_
    refine WXL.move Met.none rfl ?_
    refine WXL.fieldAddr (off' := 2) Met.none rfl Try.underlying36 rfl sz3 rfl ?_
    first | refine WXL.ld Met.none rfl agg3 ?_ | refine WXL.ldS Met.none rfl agg3 ?_
    first | refine WXL.ix Met.none rfl rfl elem46 sz4 ?_ | refine WXL.ixS Met.none rfl rfl elem46 sz4 ?_
    first | refine WXL.ld Met.none rfl agg4 ?_ (hv := (cell_map Bl (seenL S) n.sink.toNat (by omega))) | refine WXL.ldS Met.none rfl agg4 ?_ (hv := (cell_map Bl (seenL S) n.sink.toNat (by omega)))
    refine WXL.nil ?_
    refine Fin.then_normal ?_
    refine WX.cond rfl (fun hc1 => ?_) (fun hc1 => ?_)
    · try simp only [cnd] at hc1
      refine WX.seq ?_
      refine WX.region rfl ?_
      refine WXL.assign Met.none rfl ?_
      refine WXL.assign Met.none rfl ?_
      refine WXL.nil ?_
      refine Fin.then_normal ?_
      refine WX.ret ?_
      refine Fin.then_ret ?_
      first
      | exact Fin.result (O' := [] ++ O) (.inr rfl) rfl rfl drop_ ⟨[], e, none, 0, [], rfl, by
          obtain ⟨k, hk, hv1, hv2⟩ := hv
          refine ⟨k, hk, fun q => ⟨rfl, (hv1 q).2⟩, fun q1 q2 => ?_, fun q1 q2 => ?_, fun q1 q2 => ?_⟩
          · rcases hv2 q1 with r | r
            · exact absurd r.1 q2
            · exact ⟨rfl, r.2.2⟩
          · rcases hv2 q1 with r | r
            · exact absurd r.2.2 hc0
            · exact absurd q2 r.1
          · rcases hv2 q1 with r | r
            · exact absurd r.2.2 hc0
            · exact absurd q2 r.1, .nil, rfl⟩
      | exact Fin.result (O' := [] ++ O) (.inr rfl) rfl rfl (fun _ hs => (Sat.told (O' := Gs.flatten ++ O) [] 5 (by decide) (by decide) rfl hs).app_right) ⟨[], 17, none, 0, [], rfl, by
          have h2 : nth (searchR n f false) n.sink.toNat ≠ -2 := by
            rw [hS]
            rw [hsn] at hc1
            exact of_decide_eq_true hc1
          exact ⟨0, hk, fun q => absurd rfl q, fun _ q => absurd hfo q, fun _ _ _ => ⟨rfl, rfl⟩, fun _ _ q => absurd q h2⟩, .nil, rfl⟩
      | exact Fin.result (O' := [(bS, ⟨1, false, (seenL S).map Bl⟩)] ++ O) (.inr rfl) rfl (vs := [.slice (some ⟨bS, 0, none⟩) (seenL S).length n.nodes.toNat, I 0]) (by rw [show (seenL S).length = n.nodes.toNat by omega]; rfl) (fun _ hs => Sat.mid (G := [_]) (A := Gs.flatten) (Sat.told [0] 5 (by decide) (by decide) rfl hs)) ⟨seenL S, 0, _, _, [_], rfl, by
          have h2 : nth (searchR n f false) n.sink.toNat = -2 := by
            rw [hS]
            rw [hsn] at hc1
            have := of_decide_eq_false hc1
            omega
          exact ⟨0, hk, fun q => absurd rfl q, fun _ q => absurd hfo q, fun _ _ q => absurd h2 q, fun _ _ _ => ⟨by unfold reach; rw [hS, seenL_map], rfl⟩⟩, .row (by simp), rfl⟩
    · try simp only [cnd] at hc1
      refine WX.skip ?_
      refine Fin.then_normal ?_
      refine WX.seq ?_
      refine WX.region rfl ?_
      refine WXL.move Met.none rfl ?_
      refine WXL.assign Met.none rfl ?_
      refine WXL.assign Met.none rfl ?_
      refine WXL.nil ?_
      refine Fin.then_normal ?_
      refine WX.ret ?_
      first
      | exact Fin.result (O' := [] ++ O) (.inr rfl) rfl rfl drop_ ⟨[], e, none, 0, [], rfl, by
          obtain ⟨k, hk, hv1, hv2⟩ := hv
          refine ⟨k, hk, fun q => ⟨rfl, (hv1 q).2⟩, fun q1 q2 => ?_, fun q1 q2 => ?_, fun q1 q2 => ?_⟩
          · rcases hv2 q1 with r | r
            · exact absurd r.1 q2
            · exact ⟨rfl, r.2.2⟩
          · rcases hv2 q1 with r | r
            · exact absurd r.2.2 hc0
            · exact absurd q2 r.1
          · rcases hv2 q1 with r | r
            · exact absurd r.2.2 hc0
            · exact absurd q2 r.1, .nil, rfl⟩
      | exact Fin.result (O' := [] ++ O) (.inr rfl) rfl rfl (fun _ hs => (Sat.told (O' := Gs.flatten ++ O) [] 5 (by decide) (by decide) rfl hs).app_right) ⟨[], 17, none, 0, [], rfl, by
          have h2 : nth (searchR n f false) n.sink.toNat ≠ -2 := by
            rw [hS]
            rw [hsn] at hc1
            exact of_decide_eq_true hc1
          exact ⟨0, hk, fun q => absurd rfl q, fun _ q => absurd hfo q, fun _ _ _ => ⟨rfl, rfl⟩, fun _ _ q => absurd q h2⟩, .nil, rfl⟩
      | exact Fin.result (O' := [(bS, ⟨1, false, (seenL S).map Bl⟩)] ++ O) (.inr rfl) rfl (vs := [.slice (some ⟨bS, 0, none⟩) (seenL S).length n.nodes.toNat, I 0]) (by rw [show (seenL S).length = n.nodes.toNat by omega]; rfl) (fun _ hs => Sat.mid (G := [_]) (A := Gs.flatten) (Sat.told [0] 5 (by decide) (by decide) rfl hs)) ⟨seenL S, 0, _, _, [_], rfl, by
          have h2 : nth (searchR n f false) n.sink.toNat = -2 := by
            rw [hS]
            rw [hsn] at hc1
            have := of_decide_eq_false hc1
            omega
          exact ⟨0, hk, fun q => absurd rfl q, fun _ q => absurd hfo q, fun _ _ q => absurd h2 q, fun _ _ _ => ⟨by unfold reach; rw [hS, seenL_map], rfl⟩⟩, .row (by simp), rfl⟩

/-- The documented example. -/
def netL : Net4 := ⟨4, 0, 3, [⟨0, 1, 3, 0⟩, ⟨0, 2, 2, 0⟩, ⟨1, 2, 5, 0⟩, ⟨1, 3, 2, 0⟩, ⟨2, 3, 3, 0⟩]⟩

theorem netL_sound : Sound netL := by
  refine ⟨by decide, by decide, by decide, by decide, by decide, fun i hi => ?_⟩
  have : i = 0 ∨ i = 1 ∨ i = 2 ∨ i = 3 ∨ i = 4 := by
    have : i < 5 := hi
    omega
  rcases this with rfl | rfl | rfl | rfl | rfl <;> decide

theorem Sound.wrong {n : Net4} (h : Sound n) {k : Int} (hk : Wrong n k) : k = 0 := by
  refine hk.uniq (.inr (.inr (.inr ⟨?_, ?_, ?_, rfl⟩)))
  · have := h.nodes; have := h.len; unfold Bad4; omega
  · have := h.nodes; have := h.source; have := h.sink; have := h.ne; unfold Bad1; omega
  · rintro ⟨i, hi, hb⟩; exact h.edge i hi hb

theorem netL_max : MaxTo netL (zeros netL) 0 (5, [3, 2, 1, 2, 3]) := by
  refine MaxTo.more (p := [(3, 3), (0, 1)]) ?_ (MaxTo.more (p := [(4, 3), (1, 2)]) ?_ (MaxTo.more (p := [(4, 3), (2, 2), (0, 1)]) ?_ (MaxTo.done ?_)))
  · exact .step (by decide) (by decide) (by decide +kernel) (by decide) (by decide) (by decide) (by decide) (by decide) (.step (by decide) (by decide) (by decide +kernel) (by decide) (by decide) (by decide) (by decide) (by decide) .root)
  · exact .step (by decide) (by decide) (by decide +kernel) (by decide) (by decide) (by decide) (by decide) (by decide) (.step (by decide) (by decide) (by decide +kernel) (by decide) (by decide) (by decide) (by decide) (by decide) .root)
  · exact .step (by decide) (by decide) (by decide +kernel) (by decide) (by decide) (by decide) (by decide) (by decide) (.step (by decide) (by decide) (by decide +kernel) (by decide) (by decide) (by decide) (by decide) (by decide) (.step (by decide) (by decide) (by decide +kernel) (by decide) (by decide) (by decide) (by decide) (by decide) .root))
  · decide +kernel

theorem netL_flow : FlowOk netL [3, 2, 1, 2, 3] := by
  refine ⟨⟨rfl, fun i hi => ?_⟩, fun v h0 h1 h2 h3 => ?_⟩
  · have : i = 0 ∨ i = 1 ∨ i = 2 ∨ i = 3 ∨ i = 4 := by
      have : i < 5 := hi
      omega
    rcases this with rfl | rfl | rfl | rfl | rfl <;> decide
  · have h1' : v < 4 := h1
    have h2' : v ≠ 0 := h2
    have h3' : v ≠ 3 := h3
    have : v = 1 ∨ v = 2 := by omega
    rcases this with rfl | rfl <;> decide

theorem netL_cut {s : List Bool} {e : Int} (h : CutR netL [3, 2, 1, 2, 3] s e) : s = [true, false, false, false] ∧ e = 0 := by
  obtain ⟨k, h1, _, _, _, h5⟩ := h
  obtain ⟨a, b⟩ := h5 (netL_sound.wrong h1) netL_flow (by decide +kernel)
  exact ⟨a.trans (by decide +kernel), b⟩

theorem lives_ok (O : Objs) : Spec Try.prog false 19 #[] O fun v O' => v = .bool true ∧ O' = O := by
  refine Spec.enter (args := []) (m := 46) Try.func19 rfl rfl (by decide +kernel) fun h0 => ?_
  refine WX.seq ?_
  refine WX.region rfl ?_
  refine WXL.assign Met.none rfl ?_
  refine WXL.nil ?_
  refine Fin.then_normal ?_
  refine WX.seq ?_
  refine WX.region rfl ?_
  refine WXL.build (c := [_, _, _, _]) Met.none rfl zero44 places44 rfl ?_
  refine WXL.build (c := [_, _, _, _]) Met.none rfl zero44 places44 rfl ?_
  refine WXL.build (c := [_, _, _, _]) Met.none rfl zero44 places44 rfl ?_
  refine WXL.build (c := [_, _, _, _]) Met.none rfl zero44 places44 rfl ?_
  refine WXL.build (c := [_, _, _, _]) Met.none rfl zero44 places44 rfl ?_
  refine WXL.buildSlice (c := [_, _, _, _, _, _, _, _, _, _, _, _, _, _, _, _, _, _, _, _]) Met.none rfl elem34 sz44 zero44 (by decide) (by decide) rfl rfl rfl rfl (fun b12 => ?_)
  refine WXL.build (c := [_, _, _, _]) Met.none rfl zero36 places36 rfl ?_
  refine WXL.alloc (c := [_, _, _, _]) Met.none zero36 rfl (fun b1 => ?_)
  refine WXL.st (vs := [_, _, _, _]) (c' := [_, _, _, _]) Met.none rfl rfl rfl sz36 ?_
  refine WXL.nil ?_
  refine Fin.then_normal ?_
  refine WX.seq ?_
  refine WX.region rfl ?_
  refine WXL.ldN (vs := [_, _, _, _]) Met.none rfl agg36 sz36 ?_
  refine WXL.cl (O1 := _) Met.none rfl (fnOk_of Try.func15 (by decide +kernel)) rfl (fun _ h => h) (max_ok _ netL (some ⟨b12, 0, none⟩) 5 (Src.whole (cs := flat encE netL.edges) at_ rfl) (by decide)) (fun v O' hp => ?_)
  obtain ⟨k, hk, hk0, _⟩ := hp
  have hkz := netL_sound.wrong hk
  subst hkz
  obtain ⟨r, aF, cF, F, hr, hin, rfl, hF, rfl⟩ := hk0 rfl
  have hre := hr.uniq netL_sound netL_max
  subst hre
  simp only at hF
  dsimp only
  refine WXL.of (fun s hs => St.swap (G := F) [_, _] hs) ?_
  refine WXL.move Met.none rfl ?_
  refine WXL.extract Met.none rfl rfl ?_
  refine WXL.extract Met.none rfl rfl ?_
  refine WXL.extract Met.none rfl rfl ?_
  refine WXL.assign Met.none rfl ?_
  refine WXL.assign Met.none rfl ?_
  refine WXL.assign Met.none rfl ?_
  refine WXL.nil ?_
  refine Fin.then_normal ?_
  refine WX.seq ?_
  refine WX.region rfl ?_
  refine WXL.ldN (vs := [_, _, _, _]) Met.none rfl agg36 sz36 ?_
  refine WXL.move Met.none rfl ?_
  refine WXL.cl (O1 := _) Met.none rfl (fnOk_of Try.func22 (by decide +kernel)) rfl (fun _ h => h) (cut_ok _ netL [3, 2, 1, 2, 3] (some ⟨b12, 0, none⟩) aF 5 cF (by decide) (Src.whole (cs := flat encE netL.edges) at_ rfl) src_) (fun v O' hp => ?_)
  obtain ⟨s, e, aS, cS, G, rfl, hcut, hG, rfl⟩ := hp
  obtain ⟨rfl, rfl⟩ := netL_cut hcut
  refine WXL.move Met.none rfl ?_
  refine WXL.extract Met.none rfl rfl ?_
  refine WXL.extract Met.none rfl rfl ?_
  refine WXL.assign Met.none rfl ?_
  refine WXL.assign Met.none rfl ?_
  refine WXL.nil ?_
  refine Fin.then_normal ?_
  refine WX.seq ?_
  refine WX.region rfl ?_
  refine WXL.move Met.none rfl ?_
  refine WXL.bin Met.none rfl rfl rfl ?_
  refine WXL.move Met.none rfl ?_
  refine WXL.split (d := 28) rfl (fun hg28 => ?_) (fun hg28 => ?_)
  · try simp only [cnd] at hg28
    refine WXL.move (Met.some rfl rfl rfl) rfl ?_
    refine WXL.bin (Met.some rfl rfl rfl) rfl rfl rfl ?_
    refine WXL.pick_t Met.none rfl rfl ?_
    refine WXL.move Met.none rfl ?_
    refine WXL.split (d := 32) rfl (fun hg32 => ?_) (fun hg32 => ?_)
    · try simp only [cnd] at hg32
      refine WXL.move (Met.some rfl rfl rfl) rfl ?_
      refine WXL.bin (Met.some rfl rfl rfl) rfl rfl rfl ?_
      refine WXL.pick_t Met.none rfl rfl ?_
      refine WXL.move Met.none rfl ?_
      refine WXL.split (d := 36) rfl (fun hg36 => ?_) (fun hg36 => ?_)
      · try simp only [cnd] at hg36
        refine WXL.move (Met.some rfl rfl rfl) rfl ?_
        refine WXL.buildSlice (c := [_, _, _, _, _]) (Met.some rfl rfl rfl) rfl elem22 sz3 zero3 (by decide) (by decide) rfl rfl rfl rfl (fun b38 => ?_)
        refine WXL.cl (O1 := _) (Met.some rfl rfl rfl) rfl (fnOk_of Try.func18 (by decide +kernel)) rfl (fun _ h => h) (same_ok _ [3, 2, 1, 2, 3] [3, 2, 1, 2, 3] aF (some ⟨b38, 0, none⟩) cF 5 (by decide) src_ (Src.whole at_ rfl)) (fun v O' hp => ?_)
        obtain ⟨rfl, hO⟩ := hp
        subst O'
        refine WXL.pick_t Met.none rfl rfl ?_
        refine WXL.move Met.none rfl ?_
        refine WXL.split (d := 41) rfl (fun hg41 => ?_) (fun hg41 => ?_)
        · try simp only [cnd] at hg41
          refine WXL.move (Met.some rfl rfl rfl) rfl ?_
          refine WXL.buildSlice (c := [_, _, _, _]) (Met.some rfl rfl rfl) rfl elem46 sz4 zero4 (by decide) (by decide) rfl rfl rfl rfl (fun b43 => ?_)
          refine WXL.cl (O1 := _) (Met.some rfl rfl rfl) rfl (fnOk_of Try.func25 (by decide +kernel)) rfl (fun _ h => h) (sides_ok _ [true, false, false, false] [true, false, false, false] aS (some ⟨b43, 0, none⟩) cS 4 (by decide) src_ (Src.whole at_ rfl)) (fun v O' hp => ?_)
          obtain ⟨rfl, hO⟩ := hp
          subst O'
          refine WXL.pick_t Met.none rfl rfl ?_
          refine WXL.assign Met.none rfl ?_
          refine WXL.nil ?_
          refine Fin.then_normal ?_
          refine WX.ret ?_
          exact Fin.result (O' := O) (.inr rfl) rfl rfl (fun _ hs => by
            have h1 := (hs.tail.tail).app_right
            exact h1.tail.tail.app_right.app_right) ⟨rfl, rfl⟩
        · try simp only [cnd] at hg41
          first | exact absurd rfl hg41 | exact absurd trivial hg41 --end
      · try simp only [cnd] at hg36
        first | exact absurd rfl hg36 | exact absurd trivial hg36 --end
    · try simp only [cnd] at hg32
      first | exact absurd rfl hg32 | exact absurd trivial hg32 --end
  · try simp only [cnd] at hg28
    first | exact absurd rfl hg28 | exact absurd trivial hg28 --end

end Go.Proofs.Ytjmklialkjncaaa.Eng

set_option linter.unusedVariables false
set_option linter.unusedSimpArgs false
namespace Go.Proofs.Ytjmklialkjncaaa.Eng

instance : Inhabited Net4 := ⟨⟨0, 0, 0, []⟩⟩

/-- A network with its row. -/
structure NetP where
  net : Net4
  a : Option Addr
  c : Nat
  deriving Inhabited

def encN (p : NetP) : List Value := [I p.net.nodes, I p.net.source, I p.net.sink, .slice p.a p.net.edges.length p.c]
theorem encN_len (p : NetP) : (encN p).length = 4 := rfl

theorem cell_flatN (l : List NetP) (k j : Nat) {v : Value} (h : k < l.length) (hv : (encN (nth l k))[j]? = some v) : (flat encN l)[k * 4 + j]? = some v := by
  rw [cell_flat encN_len l k j h, hv]
  have := (List.getElem?_eq_some_iff.1 hv).1
  rw [encN_len] at this
  exact this

theorem spoilt_q (O : Objs) (n : Net4) (how by_ : Int) (a : Option Addr) (c : Nat) (hl : Edges O n a c) (hlen : n.edges.length ≤ 1000) (hh : In64 how) (hb : In64 by_) :
    Spec Try.prog true 12 #[netV n a c, I how, I by_] O fun v O' => ∃ (x : Net4) (a' : Option Addr) (c' : Nat) (G : Objs), v = netV x a' c' ∧ Grow 4 a' x.edges.length c' (flat encE x.edges) G ∧ x.edges.length ≤ n.edges.length + 1 ∧ O' = G ++ O :=
  (Spec.frame (Post := fun v N => ∃ (x : Net4) (a' : Option Addr) (c' : Nat), v = netV x a' c' ∧ Grow 4 a' x.edges.length c' (flat encE x.edges) N ∧ x.edges.length ≤ n.edges.length + 1)
    ((spoilt_ok (roO O) n how by_ a c hl.roh hlen hh hb).mono fun v O' ⟨x, a', c', G, h1, h2, h3, h4⟩ => ⟨G, ⟨x, a', c', h1, h2, h3⟩, h2.own, h4⟩)).mono fun v O' ⟨N, ⟨x, a', c', h1, h2, h3⟩, h4⟩ => ⟨x, a', c', N, h1, h2, h3, h4⟩

theorem St.mid {x : Cx} {L : Tmps} {G A R : Objs} {s : ASt} (hs : St x L (G ++ (A ++ R)) s) : St x L (G ++ R) s := ⟨hs.m, hs.t, hs.sat.mid, hs.old⟩

theorem netOf_len (l : List Int) : (netOf l).edges.length ≤ 16 := by
  unfold netOf mkEdges
  simp only [List.length_map, List.length_range]
  omega

theorem flowMax_ok (O : Objs) (l : List Int) (how by_ : Int) (a : Option Addr) (c : Nat) (hl : Src O 1 (.slice a l.length c) l.length (l.map I)) (h64 : All64 l) (hlen : Short l) (hh : In64 how) (hb : In64 by_) :
    Spec Try.prog false 3 #[.slice a l.length c, I how, I by_] O fun v _ => v = .bool true := by
  have h9 := around_range (n := by_) (m := 9) (by omega)
  have hnl := netOf_len l
  refine Spec.enter (args := [_, _, _]) (m := 76) Try.func3 rfl rfl (by decide +kernel) fun h0 => ?_
  refine WX.seq ?_
  refine WX.region rfl ?_
  refine WXL.assign Met.none rfl ?_
  refine WXL.nil ?_
  refine Fin.then_normal ?_
  refine WX.seq ?_
  refine WX.region rfl ?_
  refine WXL.move Met.none rfl ?_
  refine WXL.cl (O1 := _) Met.none rfl (fnOk_of Try.func11 (by decide +kernel)) rfl (fun _ h => h) (network_ok _ l a c src_ h64 hlen) (fun v O' hp => ?_)
  obtain ⟨a1, c1, G1, rfl, hG1, rfl⟩ := hp
  refine WXL.alloc (c := [_, _, _, _]) Met.none zero25 rfl (fun b7 => ?_)
  refine WXL.st (vs := [_, _, _, _]) (c' := [_, _, _, _]) Met.none rfl rfl rfl sz25 ?_
  refine WXL.nil ?_
  refine Fin.then_normal ?_
  refine WX.seq ?_
  refine WX.draw rfl ?_
  refine WXL.ldN (vs := [_, _, _, _]) Met.none rfl agg25 sz25 ?_
  refine WXL.move Met.none rfl ?_
  refine WXL.move Met.none rfl ?_
  refine WXL.cl (O1 := _) Met.none rfl (fnOk_of Try.func13 (by decide +kernel)) rfl (fun _ h => h) (around_ok _ _ _ hb (by omega)) (fun v O' hp => ?_)
  obtain ⟨rfl, hO⟩ := hp
  subst O'
  refine WXL.cl (O1 := _) Met.none rfl (fnOk_of Try.func12 (by decide +kernel)) rfl (fun _ h => h) (spoilt_q _ (netOf l) how (around by_ 9) a1 c1 src_ (by omega) hh (by unfold In64; omega)) (fun v O' hp => ?_)
  obtain ⟨x, a2, c2, G2, rfl, hG2, hxl, rfl⟩ := hp
  refine WXL.of (fun s hs => St.swap (G := G2) [_] hs) ?_
  refine WXL.alloc (c := [_, _, _, _]) Met.none zero25 rfl (fun b8 => ?_)
  refine WXL.st (vs := [_, _, _, _]) (c' := [_, _, _, _]) Met.none rfl rfl rfl sz25 ?_
  refine WXL.nil ?_
  refine Fin.then_normal ?_
  refine WX.seq ?_
  refine WX.region rfl ?_
  refine WXL.ldN (vs := [_, _, _, _]) Met.none rfl agg25 sz25 ?_
  refine WXL.ldN (vs := [_, _, _, _]) Met.none rfl agg25 sz25 ?_
  refine WXL.buildSlice (c := [_, _, _, _, _, _, _, _]) Met.none rfl elem29 sz25 zero25 (by decide) (by decide) rfl rfl rfl rfl (fun b25 => ?_)
  refine WXL.assign Met.none rfl ?_
  refine WXL.nil ?_
  refine Fin.then_normal ?_
  refine WX.seq ?_
  refine WX.seq ?_
  refine WX.region rfl ?_
  refine WXL.assign Met.none rfl ?_
  refine WXL.nil ?_
  refine Fin.then_normal ?_
  refine WX.block ?_
  obtain ⟨Ls, hLs⟩ : ∃ Ls : List NetP, Ls = [⟨netOf l, a1, c1⟩, ⟨x, a2, c2⟩] := ⟨_, rfl⟩
  have hLl : Ls.length = 2 := by rw [hLs]; rfl
  obtain ⟨T, hT⟩ : ∃ T : Objs, T = G2 ++ (G1 ++ O) := ⟨_, rfl⟩
  have hE : ∀ k, k < 2 → Edges T (nth Ls k).net (nth Ls k).a (nth Ls k).c ∧ (nth Ls k).net.edges.length ≤ 1000 := by
    intro k hk
    rw [hT, hLs]
    have : k = 0 ∨ k = 1 := by omega
    rcases this with rfl | rfl
    · exact ⟨Src.app hG1.src, by show (netOf l).edges.length ≤ 1000; omega⟩
    · exact ⟨hG2.src, by show x.edges.length ≤ 1000; omega⟩
  refine WX.loop (fun k : Nat => [(9, Row b25 0 2 2), (10, I (k : Int))]) (fun _ => (b25, ⟨4, false, flat encN Ls⟩) :: T) (fun k => k ≤ 2) (fun k => 2 - k) 0 (by omega) ?_ (fun k hk => ?_)
  · rw [hLs, hT]
    exact (fun s hs => hs.tl [0] 3)
  refine WX.seq ?_
  refine WX.seq ?_
  refine WX.region rfl ?_
  refine WXL.move Met.none rfl ?_
  refine WXL.bin Met.none rfl rfl rfl ?_
  refine WXL.nil ?_
  refine Fin.then_normal ?_
  refine WX.cond rfl (fun hc0 => ?_) (fun hc0 => ?_)
  · try simp only [cnd] at hc0
    refine WX.skip ?_
    refine Fin.then_normal ?_
    refine WX.seq ?_
    refine WX.block ?_
    refine WX.seq ?_
    refine WX.seq ?_
    obtain ⟨hEk, hlk⟩ := hE k (by omega)
    refine WX.region rfl ?_
    refine WXL.move Met.none rfl ?_
    refine WXL.move Met.none rfl ?_
    first | refine WXL.ix Met.none rfl rfl elem29 sz25 ?_ | refine WXL.ixS Met.none rfl rfl elem29 sz25 ?_
    first | refine WXL.ldN Met.none rfl agg25 sz25 ?_ (hv := (cellsAt_flat encN_len Ls k (by omega))) | refine WXL.ldNS Met.none rfl agg25 sz25 ?_ (hv := (cellsAt_flat encN_len Ls k (by omega)))
    refine WXL.cl (O1 := _) Met.none rfl (fnOk_of Try.func14 (by decide +kernel)) rfl (fun _ h => h) (refValid_ok _ (nth Ls k).net (nth Ls k).a (nth Ls k).c src_ (by omega)) (fun v O' hp => ?_)
    obtain ⟨e0, rfl, hw0, rfl⟩ := hp
    refine WXL.bin Met.none rfl rfl rfl ?_
    refine WXL.move Met.none rfl ?_
    refine WXL.split (d := 36) rfl (fun hg36 => ?_) (fun hg36 => ?_)
    · try simp only [cnd] at hg36
      refine WXL.miss (j := 6) (d := 36) rfl rfl rfl ?_
      refine WXL.miss (j := 6) (d := 36) rfl rfl rfl ?_
      refine WXL.miss (j := 6) (d := 36) rfl rfl rfl ?_
      refine WXL.miss (j := 6) (d := 36) rfl rfl rfl ?_
      refine WXL.miss (j := 6) (d := 36) rfl rfl rfl ?_
      refine WXL.miss (j := 6) (d := 36) rfl rfl rfl ?_
      refine WXL.pick_t Met.none rfl rfl ?_
      refine WXL.nil ?_
      refine Fin.then_normal ?_
      refine WX.cond rfl (fun hc1 => ?_) (fun hc1 => nomatch hc1)
      refine WX.exit ?_
      refine Fin.then_exit ?_
      refine Fin.block_hit rfl ?_
      refine Fin.then_normal ?_
      refine WX.region rfl ?_
      refine WXL.move Met.none rfl ?_
      refine WXL.bin Met.none rfl rfl bvA ?_
      refine WXL.assign Met.none rfl ?_
      refine WXL.nil ?_
      first
      | exact Fin.loop_next (k + 1) (by omega) (by omega) (fun s hs => hs.tl [0] 1)
      | exact Fin.loop_next (k + 1) (by omega) (by omega) (fun s hs => St.mid (G := [_]) (A := G3) (St.mid (G := [_]) (A := G4) (St.mid (G := [_]) (A := G5) (hs.told (L' := [(9, Row b25 0 2 2), (10, I ((k + 1 : Nat) : Int))]) ⟨eq_, eq_, trivial⟩ [0] 1 (by decide) (by decide) rfl))))
    · try simp only [cnd] at hg36
      refine WXL.move (Met.some rfl rfl rfl) rfl ?_
      refine WXL.move (Met.some rfl rfl rfl) rfl ?_
      first | refine WXL.ix (Met.some rfl rfl rfl) rfl rfl elem29 sz25 ?_ | refine WXL.ixS (Met.some rfl rfl rfl) rfl rfl elem29 sz25 ?_
      first | refine WXL.fieldAddr (Met.some rfl rfl rfl) rfl Try.underlying25 rfl sz3 rfl ?_ | refine WXL.faS (Met.some rfl rfl rfl) rfl Try.underlying25 rfl sz3 ?_
      refine WXL.load1 lz_ (Met.some rfl rfl rfl) rfl at_ agg3 (cell_flatN Ls k 0 (by omega) rfl) ?_
      refine WXL.bin (Met.some rfl rfl rfl) rfl rfl rfl ?_
      refine WXL.pick_f Met.none rfl rfl ?_
      refine WXL.nil ?_
      refine Fin.then_normal ?_
      refine WX.cond rfl (fun hc1 => ?_) (fun hc1 => ?_)
      · try simp only [cnd] at hc1
        refine WX.exit ?_
        refine Fin.then_exit ?_
        refine Fin.block_hit rfl ?_
        refine Fin.then_normal ?_
        refine WX.region rfl ?_
        refine WXL.move Met.none rfl ?_
        refine WXL.bin Met.none rfl rfl bvA ?_
        refine WXL.assign Met.none rfl ?_
        refine WXL.nil ?_
        first
        | exact Fin.loop_next (k + 1) (by omega) (by omega) (fun s hs => hs.tl [0] 1)
        | exact Fin.loop_next (k + 1) (by omega) (by omega) (fun s hs => St.mid (G := [_]) (A := G3) (St.mid (G := [_]) (A := G4) (St.mid (G := [_]) (A := G5) (hs.told (L' := [(9, Row b25 0 2 2), (10, I ((k + 1 : Nat) : Int))]) ⟨eq_, eq_, trivial⟩ [0] 1 (by decide) (by decide) rfl))))
      · try simp only [cnd] at hc1
        refine WX.skip ?_
        refine Fin.then_normal ?_
        refine WX.seq ?_
        have he0 : e0 = 0 := by omega
        subst he0
        have hn := hw0.sound
        refine WX.region rfl ?_
        refine WXL.move Met.none rfl ?_
        refine WXL.move Met.none rfl ?_
        first | refine WXL.ix Met.none rfl rfl elem29 sz25 ?_ | refine WXL.ixS Met.none rfl rfl elem29 sz25 ?_
        first | refine WXL.ldN Met.none rfl agg25 sz25 ?_ (hv := (cellsAt_flat encN_len Ls k (by omega))) | refine WXL.ldNS Met.none rfl agg25 sz25 ?_ (hv := (cellsAt_flat encN_len Ls k (by omega)))
        refine WXL.cl (O1 := _) Met.none rfl (fnOk_of Try.func16 (by decide +kernel)) rfl (fun _ h => h) (own_ok _ (nth Ls k).net (nth Ls k).a (nth Ls k).c src_ (by omega)) (fun v O' hp => ?_)
        obtain ⟨a3, c3, G3, rfl, hG3, rfl⟩ := hp
        refine WXL.cl (O1 := _) Met.none rfl (fnOk_of Try.func15 (by decide +kernel)) rfl (fun _ h => h) (max_ok _ (nth Ls k).net a3 c3 src_ (by omega)) (fun v O' hp => ?_)
        obtain ⟨e1, hw1, hm1, _⟩ := hp
        have he1 := hn.wrong hw1
        subst he1
        obtain ⟨r, a4, c4, G4, hr, hin, rfl, hG4, rfl⟩ := hm1 rfl
        refine WXL.of (fun s hs => St.swap (G := G4 ++ G3) [_] (by rw [List.append_assoc]; exact hs)) ?_
        rw [List.append_assoc]
        refine WXL.move Met.none rfl ?_
        refine WXL.extract Met.none rfl rfl ?_
        refine WXL.extract Met.none rfl rfl ?_
        refine WXL.extract Met.none rfl rfl ?_
        refine WXL.assign Met.none rfl ?_
        refine WXL.assign Met.none rfl ?_
        refine WXL.assign Met.none rfl ?_
        refine WXL.nil ?_
        refine Fin.then_normal ?_
        refine WX.seq ?_
        refine WX.region rfl ?_
        refine WXL.move Met.none rfl ?_
        refine WXL.move Met.none rfl ?_
        first | refine WXL.ix Met.none rfl rfl elem29 sz25 ?_ | refine WXL.ixS Met.none rfl rfl elem29 sz25 ?_
        first | refine WXL.ldN Met.none rfl agg25 sz25 ?_ (hv := (cellsAt_flat encN_len Ls k (by omega))) | refine WXL.ldNS Met.none rfl agg25 sz25 ?_ (hv := (cellsAt_flat encN_len Ls k (by omega)))
        refine WXL.cl (O1 := _) Met.none rfl (fnOk_of Try.func17 (by decide +kernel)) rfl (fun _ h => h) (refMax_ok _ (nth Ls k).net (nth Ls k).a (nth Ls k).c hn src_) (fun v O' hp => ?_)
        obtain ⟨r', a5, c5, G5, hr', hin', rfl, hG5, rfl⟩ := hp
        have hre := hr.uniq hn hr'
        subst hre
        have hrl := hin.flow.len
        refine WXL.of (fun s hs => St.swap (G := G5) [_] hs) ?_
        refine WXL.move Met.none rfl ?_
        refine WXL.extract Met.none rfl rfl ?_
        refine WXL.extract Met.none rfl rfl ?_
        refine WXL.assign Met.none rfl ?_
        refine WXL.assign Met.none rfl ?_
        refine WXL.nil ?_
        refine Fin.then_normal ?_
        refine WX.seq ?_
        refine WX.region rfl ?_
        refine WXL.move Met.none rfl ?_
        refine WXL.bin Met.none rfl rfl rfl ?_
        refine WXL.move Met.none rfl ?_
        refine WXL.split (d := 64) rfl (fun hg64 => ?_) (fun hg64 => ?_)
        · try simp only [cnd] at hg64
          exact absurd hg64 (by simp) --end
        · try simp only [cnd] at hg64
          refine WXL.move (Met.some rfl rfl rfl) rfl ?_
          refine WXL.move (Met.some rfl rfl rfl) rfl ?_
          refine WXL.bin (Met.some rfl rfl rfl) rfl rfl rfl ?_
          refine WXL.pick_f Met.none rfl rfl ?_
          refine WXL.move Met.none rfl ?_
          refine WXL.split (d := 69) rfl (fun hg69 => ?_) (fun hg69 => ?_)
          · try simp only [cnd] at hg69
            exact absurd hg69 (by simp) --end
          · try simp only [cnd] at hg69
            refine WXL.move (Met.some rfl rfl rfl) rfl ?_
            refine WXL.move (Met.some rfl rfl rfl) rfl ?_
            refine WXL.cl (O1 := _) (Met.some rfl rfl rfl) rfl (fnOk_of Try.func18 (by decide +kernel)) rfl (fun _ h => h) (same_ok _ r.2 r.2 a4 a5 c4 c5 (by unfold Short; omega) src_ src_) (fun v O' hp => ?_)
            obtain ⟨rfl, hO⟩ := hp
            subst O'
            refine WXL.not (Met.some rfl rfl rfl) rfl ?_
            refine WXL.pick_f Met.none rfl rfl ?_
            refine WXL.nil ?_
            refine Fin.then_normal ?_
            refine WX.cond rfl (fun hc2 => ?_) (fun hc2 => ?_)
            · try simp only [cnd] at hc2
              exact absurd hc2 (by simp) --end
            · try simp only [cnd] at hc2
              refine WX.skip ?_
              refine Fin.block_normal ?_
              refine Fin.then_normal ?_
              refine WX.region rfl ?_
              refine WXL.move Met.none rfl ?_
              refine WXL.bin Met.none rfl rfl bvA ?_
              refine WXL.assign Met.none rfl ?_
              refine WXL.nil ?_
              first
              | exact Fin.loop_next (k + 1) (by omega) (by omega) (fun s hs => hs.tl [0] 1)
              | exact Fin.loop_next (k + 1) (by omega) (by omega) (fun s hs => St.mid (G := [_]) (A := G3) (St.mid (G := [_]) (A := G4) (St.mid (G := [_]) (A := G5) (hs.told (L' := [(9, Row b25 0 2 2), (10, I ((k + 1 : Nat) : Int))]) ⟨eq_, eq_, trivial⟩ [0] 1 (by decide) (by decide) rfl))))
  · try simp only [cnd] at hc0
    refine WX.exit ?_
    refine Fin.then_exit ?_
    refine Fin.loop_exit ?_
    refine Fin.block_hit rfl ?_
    refine Fin.then_normal ?_
    refine WX.seq ?_
    refine WX.region rfl ?_
    refine WXL.cl (O1 := _) Met.none rfl (fnOk_of Try.func19 (by decide +kernel)) rfl (fun _ h => h) (lives_ok _) (fun v O' hp => ?_)
    obtain ⟨rfl, hO⟩ := hp
    subst O'
    refine WXL.assign Met.none rfl ?_
    refine WXL.nil ?_
    refine Fin.then_normal ?_
    refine WX.ret ?_
    exact Fin.result (O' := []) (.inr rfl) rfl rfl (fun _ hs => Sat.nil hs.wf) rfl

end Go.Proofs.Ytjmklialkjncaaa.Eng

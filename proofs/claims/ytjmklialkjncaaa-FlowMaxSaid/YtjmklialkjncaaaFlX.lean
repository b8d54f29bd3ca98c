/- A network with a part changed. Own work; no condition. -/
import Derived.Test.YtjmklialkjncaaaFlV
set_option linter.unusedVariables false
set_option linter.unusedSimpArgs false
namespace Go.Proofs.Ytjmklialkjncaaa.Eng

theorem flat_one {α : Type} (E : α → List Value) (a : α) : flat E [a] = E a := by simp [flat]

theorem flat_cons {α : Type} (E : α → List Value) (a : α) (l : List α) : flat E (a :: l) = E a ++ flat E l := by simp [flat]

theorem set_flat_part {α : Type} [Inhabited α] {E : α → List Value} {m : Nat} (hE : ∀ a, (E a).length = m) (j : Nat) (hj : j < m) (x : Value) (e' : α) : ∀ (l : List α) (k : Nat), k < l.length → E e' = (E (nth l k)).set j x → (flat E l).set (k * m + j) x = flat E (l.set k e')
  | [], k, h, _ => by simp at h
  | a :: l, 0, h, he => by
    rw [flat_cons, Nat.zero_mul, Nat.zero_add, List.set_append_left _ _ (by rw [hE]; exact hj), List.set_cons_zero, flat_cons, he]
    rfl
  | a :: l, k + 1, h, he => by
    rw [flat_cons, List.set_cons_succ, flat_cons, List.set_append_right _ _ (by rw [hE, Nat.succ_mul]; omega), hE, ← set_flat_part hE j hj x e' l k (by simpa using h) he]
    congr 2
    rw [Nat.succ_mul]
    omega

theorem splice_flat_part {α : Type} [Inhabited α] {E : α → List Value} {m : Nat} (hE : ∀ a, (E a).length = m) (l : List α) (k j : Nat) (x : Value) (e' : α) (hk : k < l.length) (hj : j < m) (he : E e' = (E (nth l k)).set j x) : splice (flat E l) (k * m + j) [x] = flat E (l.set k e') := by
  rw [← set_flat_part hE j hj x e' l k hk he]
  refine splice_one _ _ _ ?_
  rw [flat_length hE]
  have : k * m + m ≤ l.length * m := by rw [← Nat.succ_mul]; exact Nat.mul_le_mul_right _ hk
  omega

theorem splice_cap (l : List E4) (k : Nat) (x : Int) (hk : k < l.length) : splice (flat encE l) (k * 4 + 2) [I x] = flat encE (l.set k ⟨(nth l k).a, (nth l k).b, x, (nth l k).back⟩) := splice_flat_part encE_len l k 2 _ _ hk (by decide) rfl
theorem splice_back (l : List E4) (k : Nat) (x : Int) (hk : k < l.length) : splice (flat encE l) (k * 4 + 3) [I x] = flat encE (l.set k ⟨(nth l k).a, (nth l k).b, (nth l k).cap, x⟩) := splice_flat_part encE_len l k 3 _ _ hk (by decide) rfl
theorem splice_b (l : List E4) (k : Nat) (x : Int) (hk : k < l.length) : splice (flat encE l) (k * 4 + 1) [I x] = flat encE (l.set k ⟨(nth l k).a, x, (nth l k).cap, (nth l k).back⟩) := splice_flat_part encE_len l k 1 _ _ hk (by decide) rfl

theorem spoilt_ok0 (O : Objs) (n : Net4) (how by_ : Int) (a : Option Addr) (c : Nat) (hl : Edges O n a c) (hlen : n.edges.length ≤ 1000) (hh : In64 how) (hb : In64 by_) :
    Spec Try.prog false 12 #[netV n a c, I how, I by_] O fun v O' => ∃ (nd so si : Int) (es : List E4) (a' : Option Addr) (c' m : Nat) (G : Objs), v = .agg #[I nd, I so, I si, .slice a' m c'] ∧ m = es.length ∧ Grow 4 a' m c' (flat encE es) G ∧ es.length ≤ n.edges.length + 1 ∧ O' = G ++ O := by
  have hh' := hh
  unfold In64 at hh'
  have h5 := around_range (n := by_) (m := 5) (by omega)
  have h4 := around_range (n := by_) (m := 4) (by omega)
  refine Spec.enter (args := [_, _, _]) (m := 121) Try.func12 rfl rfl (by decide +kernel) fun h0 => ?_
  refine WX.seq ?_
  refine WX.region rfl ?_
  refine WXL.box (c := [_, _, _, _]) Met.none rfl rfl rfl (fun b3 => ?_)
  refine WXL.alloc (c := [_, _, _, _]) Met.none zero25 rfl (fun b6 => ?_)
  refine WXL.nil ?_
  refine Fin.then_normal ?_
  refine WX.seq ?_
  refine WX.region rfl ?_
  refine WXL.buildSlice (c := []) Met.none rfl elem23 sz63 zero63 (by decide) (by decide) rfl rfl rfl rfl (fun b9 => ?_)
  refine WXL.fieldAddr (off' := 3) Met.none rfl Try.underlying25 rfl sz23 rfl ?_
  first | refine WXL.ld Met.none rfl agg23 ?_ | refine WXL.ldS Met.none rfl agg23 ?_
  first | refine WXL.append 0 Met.none rfl rfl rfl isrow23 rfl src_ elem23 sz63 by63 zero63 rfl (by simp) (by omega) (by decide) (by decide) (show _ = flat encE n.edges from rfl) (by repeat (first | exact Clear.nil | refine Clear.cons 0 rfl rfl ?_ | refine Clear.cons 1 rfl rfl ?_ | refine Clear.cons 2 rfl rfl ?_ | refine Clear.cons 3 rfl rfl ?_ | refine Clear.cons 4 rfl rfl ?_)) (fun b => (by simp only [List.cons_append, List.nil_append, List.set_cons_zero, List.set_cons_succ]; exact rfl)) (fun b12 => ?_) | refine WXL.append 1 Met.none rfl rfl rfl isrow23 rfl src_ elem23 sz63 by63 zero63 rfl (by simp) (by omega) (by decide) (by decide) (show _ = flat encE n.edges from rfl) (by repeat (first | exact Clear.nil | refine Clear.cons 0 rfl rfl ?_ | refine Clear.cons 1 rfl rfl ?_ | refine Clear.cons 2 rfl rfl ?_ | refine Clear.cons 3 rfl rfl ?_ | refine Clear.cons 4 rfl rfl ?_)) (fun b => (by simp only [List.cons_append, List.nil_append, List.set_cons_zero, List.set_cons_succ]; exact rfl)) (fun b12 => ?_) | refine WXL.append 2 Met.none rfl rfl rfl isrow23 rfl src_ elem23 sz63 by63 zero63 rfl (by simp) (by omega) (by decide) (by decide) (show _ = flat encE n.edges from rfl) (by repeat (first | exact Clear.nil | refine Clear.cons 0 rfl rfl ?_ | refine Clear.cons 1 rfl rfl ?_ | refine Clear.cons 2 rfl rfl ?_ | refine Clear.cons 3 rfl rfl ?_ | refine Clear.cons 4 rfl rfl ?_)) (fun b => (by simp only [List.cons_append, List.nil_append, List.set_cons_zero, List.set_cons_succ]; exact rfl)) (fun b12 => ?_) | refine WXL.append 3 Met.none rfl rfl rfl isrow23 rfl src_ elem23 sz63 by63 zero63 rfl (by simp) (by omega) (by decide) (by decide) (show _ = flat encE n.edges from rfl) (by repeat (first | exact Clear.nil | refine Clear.cons 0 rfl rfl ?_ | refine Clear.cons 1 rfl rfl ?_ | refine Clear.cons 2 rfl rfl ?_ | refine Clear.cons 3 rfl rfl ?_ | refine Clear.cons 4 rfl rfl ?_)) (fun b => (by simp only [List.cons_append, List.nil_append, List.set_cons_zero, List.set_cons_succ]; exact rfl)) (fun b12 => ?_) | refine WXL.append 4 Met.none rfl rfl rfl isrow23 rfl src_ elem23 sz63 by63 zero63 rfl (by simp) (by omega) (by decide) (by decide) (show _ = flat encE n.edges from rfl) (by repeat (first | exact Clear.nil | refine Clear.cons 0 rfl rfl ?_ | refine Clear.cons 1 rfl rfl ?_ | refine Clear.cons 2 rfl rfl ?_ | refine Clear.cons 3 rfl rfl ?_ | refine Clear.cons 4 rfl rfl ?_)) (fun b => (by simp only [List.cons_append, List.nil_append, List.set_cons_zero, List.set_cons_succ]; exact rfl)) (fun b12 => ?_) | refine WXL.append 5 Met.none rfl rfl rfl isrow23 rfl src_ elem23 sz63 by63 zero63 rfl (by simp) (by omega) (by decide) (by decide) (show _ = flat encE n.edges from rfl) (by repeat (first | exact Clear.nil | refine Clear.cons 0 rfl rfl ?_ | refine Clear.cons 1 rfl rfl ?_ | refine Clear.cons 2 rfl rfl ?_ | refine Clear.cons 3 rfl rfl ?_ | refine Clear.cons 4 rfl rfl ?_)) (fun b => (by simp only [List.cons_append, List.nil_append, List.set_cons_zero, List.set_cons_succ]; exact rfl)) (fun b12 => ?_) | refine WXL.append 6 Met.none rfl rfl rfl isrow23 rfl src_ elem23 sz63 by63 zero63 rfl (by simp) (by omega) (by decide) (by decide) (show _ = flat encE n.edges from rfl) (by repeat (first | exact Clear.nil | refine Clear.cons 0 rfl rfl ?_ | refine Clear.cons 1 rfl rfl ?_ | refine Clear.cons 2 rfl rfl ?_ | refine Clear.cons 3 rfl rfl ?_ | refine Clear.cons 4 rfl rfl ?_)) (fun b => (by simp only [List.cons_append, List.nil_append, List.set_cons_zero, List.set_cons_succ]; exact rfl)) (fun b12 => ?_) | refine WXL.append 7 Met.none rfl rfl rfl isrow23 rfl src_ elem23 sz63 by63 zero63 rfl (by simp) (by omega) (by decide) (by decide) (show _ = flat encE n.edges from rfl) (by repeat (first | exact Clear.nil | refine Clear.cons 0 rfl rfl ?_ | refine Clear.cons 1 rfl rfl ?_ | refine Clear.cons 2 rfl rfl ?_ | refine Clear.cons 3 rfl rfl ?_ | refine Clear.cons 4 rfl rfl ?_)) (fun b => (by simp only [List.cons_append, List.nil_append, List.set_cons_zero, List.set_cons_succ]; exact rfl)) (fun b12 => ?_)
  rw [Nat.zero_add n.edges.length]
  refine WXL.assign Met.none rfl ?_
  refine WXL.nil ?_
  refine Fin.then_normal ?_
  refine WX.seq ?_
  refine WX.region rfl ?_
  refine WXL.move Met.none rfl ?_
  refine WXL.fieldAddr (off' := 3) Met.none rfl Try.underlying25 rfl sz23 rfl ?_
  refine WXL.st (vs := [_]) (c' := [_, _, _, _]) Met.none rfl rfl rfl sz23 ?_
  refine WXL.nil ?_
  refine Fin.then_normal ?_
  refine WX.seq ?_
  refine WX.region rfl ?_
  refine WXL.assign Met.none rfl ?_
  refine WXL.nil ?_
  refine Fin.then_normal ?_
  refine WX.seq ?_
  refine WX.seq ?_
  refine WX.region rfl ?_
  refine WXL.move Met.none rfl ?_
  refine WXL.len Met.none rfl Try.underlying23 ?_
  refine WXL.bin Met.none rfl rfl rfl ?_
  refine WXL.nil ?_
  refine Fin.then_normal ?_
  refine WX.cond rfl (fun hc0 => ?_) (fun hc0 => ?_)
  · try simp only [cnd] at hc0
    refine WX.region rfl ?_
    refine WXL.move Met.none rfl ?_
    refine WXL.qu Met.none rfl rfl ?_
    refine WXL.move Met.none rfl ?_
    refine WXL.len Met.none rfl Try.underlying23 ?_
    refine WXL.cl (O1 := _) Met.none rfl (fnOk_of Try.func13 (by decide +kernel)) rfl (fun _ h => h) (around_ok _ _ _ (In64.quo hh (by omega)) (by omega)) (fun v O' hp => ?_)
    obtain ⟨rfl, hO⟩ := hp
    subst O'
    refine WXL.assign Met.none rfl ?_
    refine WXL.nil ?_
    refine Fin.then_normal ?_
    refine WX.seq ?_
    refine WX.seq ?_
    have hka := around_range (n := how.tdiv 8) (m := (n.edges.length : Int))
    refine WX.region rfl ?_
    refine WXL.move Met.none rfl ?_
    refine WXL.cl (O1 := _) Met.none rfl (fnOk_of Try.func13 (by decide +kernel)) rfl (fun _ h => h) (around_ok _ _ _ hh (by omega)) (fun v O' hp => ?_)
    obtain ⟨rfl, hO⟩ := hp
    subst O'
    refine WXL.nil ?_
    refine Fin.then_normal ?_
    refine WX.block ?_
    refine WX.seq ?_
    refine WX.region rfl ?_
    refine WXL.bin Met.none rfl rfl rfl ?_
    refine WXL.assign Met.none rfl ?_
    refine WXL.nil ?_
    refine Fin.then_normal ?_
    refine WX.cond rfl (fun hc1 => ?_) (fun hc1 => ?_)
    · try simp only [cnd] at hc1
      refine WX.region rfl ?_
      refine WXL.move Met.none rfl ?_
      refine WXL.buildSlice (c := [_, _, _, _, _]) Met.none rfl elem22 sz3 zero3 (by decide) (by decide) rfl rfl rfl rfl (fun b28 => ?_)
      refine WXL.move Met.none rfl ?_
      refine WXL.cl (O1 := _) Met.none rfl (fnOk_of Try.func13 (by decide +kernel)) rfl (fun _ h => h) (around_ok _ _ _ hb (by omega)) (fun v O' hp => ?_)
      obtain ⟨rfl, hO⟩ := hp
      subst O'
      first | refine WXL.ix Met.none rfl rfl elem22 sz3 ?_ | refine WXL.ixS Met.none rfl rfl elem22 sz3 ?_
      refine WXL.load1 lz_ Met.none rfl at_ agg3 (cell_map I [by_, 1024, 1025, 1, 0] (around by_ 5).toNat (by simp only [List.length_cons, List.length_nil]; omega)) ?_
      refine WXL.fieldAddr (off' := 0) Met.none rfl Try.underlying25 rfl sz3 rfl ?_
      refine WXL.st (vs := [_]) (c' := [_, _, _, _]) Met.none rfl rfl rfl sz3 ?_
      refine WXL.nil ?_
      refine Fin.block_normal ?_
      refine Fin.then_normal ?_
      refine WX.seq ?_
      refine WX.region rfl ?_
      refine WXL.ldN (vs := [_, _, _, _]) Met.none rfl agg25 sz25 ?_
      refine WXL.st (vs := [_, _, _, _]) (c' := [_, _, _, _]) Met.none rfl rfl rfl sz25 ?_
      refine WXL.nil ?_
      refine Fin.then_normal ?_
      refine WX.ret ?_
      first
      | exact Fin.results (O' := [(b12, ⟨4, false, flat encE _⟩)] ++ O) (.inr rfl) rfl (vs := [.agg #[_, _, _, _]]) ⟨⟨b6, 0, rfl, load_agg (n := 4) (vs := [_, _, _, _]) at_ agg25 sz25 rfl⟩, trivial⟩ (fun _ => Sat.told [0] 3 (by decide) (by decide) rfl) ⟨_, _, _, _, _, _, _, [_], rfl, (by simp), .row (by simp [flat_encE_len]), (by simp), rfl⟩
      | exact Fin.results (O' := [(_, ⟨4, false, flat encE _⟩)] ++ O) (.inr rfl) rfl (vs := [.agg #[_, _, _, _]]) ⟨⟨b6, 0, rfl, load_agg (n := 4) (vs := [_, _, _, _]) at_ agg25 sz25 rfl⟩, trivial⟩ (fun _ => Sat.told [1] 4 (by decide) (by decide) rfl) ⟨_, _, _, _, _, _, _, [_], rfl, (by simp), .row (by simp [flat_encE_len]), (by simp), rfl⟩
    · try simp only [cnd] at hc1
      refine WX.seq ?_
      refine WX.region rfl ?_
      refine WXL.bin Met.none rfl rfl rfl ?_
      refine WXL.assign Met.none rfl ?_
      refine WXL.nil ?_
      refine Fin.then_normal ?_
      refine WX.cond rfl (fun hc2 => ?_) (fun hc2 => ?_)
      · try simp only [cnd] at hc2
        refine WX.draw rfl ?_
        refine WXL.move Met.none rfl ?_
        refine WXL.fieldAddr (off' := 2) Met.none rfl Try.underlying25 rfl sz3 rfl ?_
        first | refine WXL.ld Met.none rfl agg3 ?_ | refine WXL.ldS Met.none rfl agg3 ?_
        refine WXL.fieldAddr (off' := 0) Met.none rfl Try.underlying25 rfl sz3 rfl ?_
        first | refine WXL.ld Met.none rfl agg3 ?_ | refine WXL.ldS Met.none rfl agg3 ?_
        refine WXL.buildSlice (c := [_, _, _, _]) Met.none rfl elem22 sz3 zero3 (by decide) (by decide) rfl rfl rfl rfl (fun b41 => ?_)
        refine WXL.move Met.none rfl ?_
        refine WXL.cl (O1 := _) Met.none rfl (fnOk_of Try.func13 (by decide +kernel)) rfl (fun _ h => h) (around_ok _ _ _ hb (by omega)) (fun v O' hp => ?_)
        obtain ⟨rfl, hO⟩ := hp
        subst O'
        first | refine WXL.ix Met.none rfl rfl elem22 sz3 ?_ | refine WXL.ixS Met.none rfl rfl elem22 sz3 ?_
        refine WXL.load1 lz_ Met.none rfl at_ agg3 (cell_map I [by_, n.sink, -1, n.nodes] (around by_ 4).toNat (by simp only [List.length_cons, List.length_nil]; omega)) ?_
        refine WXL.fieldAddr (off' := 1) Met.none rfl Try.underlying25 rfl sz3 rfl ?_
        refine WXL.st (vs := [_]) (c' := [_, _, _, _]) Met.none rfl rfl rfl sz3 ?_
        refine WXL.nil ?_
        refine Fin.block_normal ?_
        refine Fin.then_normal ?_
        refine WX.seq ?_
        refine WX.region rfl ?_
        refine WXL.ldN (vs := [_, _, _, _]) Met.none rfl agg25 sz25 ?_
        refine WXL.st (vs := [_, _, _, _]) (c' := [_, _, _, _]) Met.none rfl rfl rfl sz25 ?_
        refine WXL.nil ?_
        refine Fin.then_normal ?_
        refine WX.ret ?_
        first
        | exact Fin.results (O' := [(b12, ⟨4, false, flat encE _⟩)] ++ O) (.inr rfl) rfl (vs := [.agg #[_, _, _, _]]) ⟨⟨b6, 0, rfl, load_agg (n := 4) (vs := [_, _, _, _]) at_ agg25 sz25 rfl⟩, trivial⟩ (fun _ => Sat.told [0] 3 (by decide) (by decide) rfl) ⟨_, _, _, _, _, _, _, [_], rfl, (by simp), .row (by simp [flat_encE_len]), (by simp), rfl⟩
        | exact Fin.results (O' := [(_, ⟨4, false, flat encE _⟩)] ++ O) (.inr rfl) rfl (vs := [.agg #[_, _, _, _]]) ⟨⟨b6, 0, rfl, load_agg (n := 4) (vs := [_, _, _, _]) at_ agg25 sz25 rfl⟩, trivial⟩ (fun _ => Sat.told [1] 4 (by decide) (by decide) rfl) ⟨_, _, _, _, _, _, _, [_], rfl, (by simp), .row (by simp [flat_encE_len]), (by simp), rfl⟩
      · try simp only [cnd] at hc2
        refine WX.seq ?_
        refine WX.region rfl ?_
        refine WXL.bin Met.none rfl rfl rfl ?_
        refine WXL.assign Met.none rfl ?_
        refine WXL.nil ?_
        refine Fin.then_normal ?_
        refine WX.cond rfl (fun hc3 => ?_) (fun hc3 => ?_)
        · try simp only [cnd] at hc3
          refine WX.draw rfl ?_
          refine WXL.move Met.none rfl ?_
          refine WXL.fieldAddr (off' := 0) Met.none rfl Try.underlying25 rfl sz3 rfl ?_
          first | refine WXL.ld Met.none rfl agg3 ?_ | refine WXL.ldS Met.none rfl agg3 ?_
          refine WXL.fieldAddr (off' := 0) Met.none rfl Try.underlying25 rfl sz3 rfl ?_
          first | refine WXL.ld Met.none rfl agg3 ?_ | refine WXL.ldS Met.none rfl agg3 ?_
          refine WXL.bin Met.none rfl rfl rfl ?_
          refine WXL.buildSlice (c := [_, _, _, _]) Met.none rfl elem22 sz3 zero3 (by decide) (by decide) rfl rfl rfl rfl (fun b55 => ?_)
          refine WXL.move Met.none rfl ?_
          refine WXL.cl (O1 := _) Met.none rfl (fnOk_of Try.func13 (by decide +kernel)) rfl (fun _ h => h) (around_ok _ _ _ hb (by omega)) (fun v O' hp => ?_)
          obtain ⟨rfl, hO⟩ := hp
          subst O'
          first | refine WXL.ix Met.none rfl rfl elem22 sz3 ?_ | refine WXL.ixS Met.none rfl rfl elem22 sz3 ?_
          refine WXL.load1 lz_ Met.none rfl at_ agg3 (cell_map I [by_, -1, n.nodes, IntKind.wrap .i64 (n.nodes - 1)] (around by_ 4).toNat (by simp only [List.length_cons, List.length_nil]; omega)) ?_
          refine WXL.fieldAddr (off' := 2) Met.none rfl Try.underlying25 rfl sz3 rfl ?_
          refine WXL.st (vs := [_]) (c' := [_, _, _, _]) Met.none rfl rfl rfl sz3 ?_
          refine WXL.nil ?_
          refine Fin.block_normal ?_
          refine Fin.then_normal ?_
          refine WX.seq ?_
          refine WX.region rfl ?_
          refine WXL.ldN (vs := [_, _, _, _]) Met.none rfl agg25 sz25 ?_
          refine WXL.st (vs := [_, _, _, _]) (c' := [_, _, _, _]) Met.none rfl rfl rfl sz25 ?_
          refine WXL.nil ?_
          refine Fin.then_normal ?_
          refine WX.ret ?_
          first
          | exact Fin.results (O' := [(b12, ⟨4, false, flat encE _⟩)] ++ O) (.inr rfl) rfl (vs := [.agg #[_, _, _, _]]) ⟨⟨b6, 0, rfl, load_agg (n := 4) (vs := [_, _, _, _]) at_ agg25 sz25 rfl⟩, trivial⟩ (fun _ => Sat.told [0] 3 (by decide) (by decide) rfl) ⟨_, _, _, _, _, _, _, [_], rfl, (by simp), .row (by simp [flat_encE_len]), (by simp), rfl⟩
          | exact Fin.results (O' := [(_, ⟨4, false, flat encE _⟩)] ++ O) (.inr rfl) rfl (vs := [.agg #[_, _, _, _]]) ⟨⟨b6, 0, rfl, load_agg (n := 4) (vs := [_, _, _, _]) at_ agg25 sz25 rfl⟩, trivial⟩ (fun _ => Sat.told [1] 4 (by decide) (by decide) rfl) ⟨_, _, _, _, _, _, _, [_], rfl, (by simp), .row (by simp [flat_encE_len]), (by simp), rfl⟩
        · try simp only [cnd] at hc3
          refine WX.seq ?_
          refine WX.region rfl ?_
          refine WXL.bin Met.none rfl rfl rfl ?_
          refine WXL.assign Met.none rfl ?_
          refine WXL.nil ?_
          refine Fin.then_normal ?_
          refine WX.cond rfl (fun hc4 => ?_) (fun hc4 => ?_)
          · try simp only [cnd] at hc4
            refine WX.region rfl ?_
            refine WXL.move Met.none rfl ?_
            refine WXL.move Met.none rfl ?_
            refine WXL.build (c := [_, _, _, _]) Met.none rfl zero63 places63 rfl ?_
            refine WXL.buildSlice (c := [_, _, _, _]) Met.none rfl elem23 sz63 zero63 (by decide) (by decide) rfl rfl rfl rfl (fun b66 => ?_)
            refine WXL.append 1 Met.none rfl rfl rfl isrow23 rfl (Src.lit (cs := [_, _, _, _])) elem23 sz63 by63 zero63 rfl (by rw [flat_encE_len]; omega) (by omega) (by decide) (by decide) (show _ = flat encE (n.edges ++ [⟨by_, 0, 1, 0⟩]) from by rw [List.drop_zero, flat_append, flat_one]; rfl) (by repeat (first | exact Clear.nil | refine Clear.cons 0 rfl rfl ?_ | refine Clear.cons 1 rfl rfl ?_ | refine Clear.cons 2 rfl rfl ?_ | refine Clear.cons 3 rfl rfl ?_ | refine Clear.cons 4 rfl rfl ?_)) (fun b => (by simp only [List.cons_append, List.nil_append, List.set_cons_zero, List.set_cons_succ]; exact rfl)) (fun b67 => ?_)
            refine WXL.fieldAddr (off' := 3) Met.none rfl Try.underlying25 rfl sz23 rfl ?_
            refine WXL.st (vs := [_]) (c' := [_, _, _, _]) Met.none rfl rfl rfl sz23 ?_
            refine WXL.nil ?_
            refine Fin.block_normal ?_
            refine Fin.then_normal ?_
            refine WX.seq ?_
            refine WX.region rfl ?_
            refine WXL.ldN (vs := [_, _, _, _]) Met.none rfl agg25 sz25 ?_
            refine WXL.st (vs := [_, _, _, _]) (c' := [_, _, _, _]) Met.none rfl rfl rfl sz25 ?_
            refine WXL.nil ?_
            refine Fin.then_normal ?_
            refine WX.ret ?_
            first
            | exact Fin.results (O' := [(b12, ⟨4, false, flat encE _⟩)] ++ O) (.inr rfl) rfl (vs := [.agg #[_, _, _, _]]) ⟨⟨b6, 0, rfl, load_agg (n := 4) (vs := [_, _, _, _]) at_ agg25 sz25 rfl⟩, trivial⟩ (fun _ => Sat.told [0] 3 (by decide) (by decide) rfl) ⟨_, _, _, _, _, _, _, [_], rfl, (by simp), .row (by simp [flat_encE_len]), (by simp), rfl⟩
            | exact Fin.results (O' := [(_, ⟨4, false, flat encE _⟩)] ++ O) (.inr rfl) rfl (vs := [.agg #[_, _, _, _]]) ⟨⟨b6, 0, rfl, load_agg (n := 4) (vs := [_, _, _, _]) at_ agg25 sz25 rfl⟩, trivial⟩ (fun _ => Sat.told [1] 4 (by decide) (by decide) rfl) ⟨_, _, _, _, _, _, _, [_], rfl, (by simp), .row (by simp [flat_encE_len]), (by simp), rfl⟩
          · try simp only [cnd] at hc4
            refine WX.seq ?_
            refine WX.region rfl ?_
            refine WXL.bin Met.none rfl rfl rfl ?_
            refine WXL.assign Met.none rfl ?_
            refine WXL.nil ?_
            refine Fin.then_normal ?_
            refine WX.cond rfl (fun hc5 => ?_) (fun hc5 => ?_)
            · try simp only [cnd] at hc5
              refine WX.seq ?_
              refine WX.region rfl ?_
              refine WXL.move Met.none rfl ?_
              refine WXL.len Met.none rfl Try.underlying23 ?_
              refine WXL.bin Met.none rfl rfl rfl ?_
              refine WXL.nil ?_
              refine Fin.then_normal ?_
              refine WX.cond rfl (fun hc6 => ?_) (fun hc6 => ?_)
              · try simp only [cnd] at hc6
                refine WX.region rfl ?_
                refine WXL.move Met.none rfl ?_
                refine WXL.move Met.none rfl ?_
                refine WXL.move Met.none rfl ?_
                refine WXL.buildSlice (c := [_, _, _, _]) Met.none rfl elem22 sz3 zero3 (by decide) (by decide) rfl rfl rfl rfl (fun b77 => ?_)
                refine WXL.move Met.none rfl ?_
                refine WXL.cl (O1 := _) Met.none rfl (fnOk_of Try.func13 (by decide +kernel)) rfl (fun _ h => h) (around_ok _ _ _ hb (by omega)) (fun v O' hp => ?_)
                obtain ⟨rfl, hO⟩ := hp
                subst O'
                first | refine WXL.ix Met.none rfl rfl elem22 sz3 ?_ | refine WXL.ixS Met.none rfl rfl elem22 sz3 ?_
                refine WXL.load1 lz_ Met.none rfl at_ agg3 (cell_map I [by_, -1, 1099511627776, 1099511627777] (around by_ 4).toNat (by simp only [List.length_cons, List.length_nil]; omega)) ?_
                first | refine WXL.ix Met.none rfl rfl elem23 sz63 ?_ | refine WXL.ixS Met.none rfl rfl elem23 sz63 ?_
                first | refine WXL.fieldAddr Met.none rfl Try.underlying63 rfl sz3 rfl ?_ | refine WXL.faS Met.none rfl Try.underlying63 rfl sz3 ?_
                refine WXL.st (vs := [_]) (j := 1) Met.none rfl rfl rfl sz3 ?_ (hj := rfl) (hl := (by rw [flat_encE_len]; show _ * 4 + 2 + 1 ≤ _; omega)) (hc := (splice_cap n.edges _ _ (by omega)))
                refine WXL.nil ?_
                refine Fin.block_normal ?_
                refine Fin.then_normal ?_
                refine WX.seq ?_
                refine WX.region rfl ?_
                refine WXL.ldN (vs := [_, _, _, _]) Met.none rfl agg25 sz25 ?_
                refine WXL.st (vs := [_, _, _, _]) (c' := [_, _, _, _]) Met.none rfl rfl rfl sz25 ?_
                refine WXL.nil ?_
                refine Fin.then_normal ?_
                refine WX.ret ?_
                first
                | exact Fin.results (O' := [(b12, ⟨4, false, flat encE _⟩)] ++ O) (.inr rfl) rfl (vs := [.agg #[_, _, _, _]]) ⟨⟨b6, 0, rfl, load_agg (n := 4) (vs := [_, _, _, _]) at_ agg25 sz25 rfl⟩, trivial⟩ (fun _ => Sat.told [0] 3 (by decide) (by decide) rfl) ⟨_, _, _, _, _, _, _, [_], rfl, (by simp), .row (by simp [flat_encE_len]), (by simp), rfl⟩
                | exact Fin.results (O' := [(_, ⟨4, false, flat encE _⟩)] ++ O) (.inr rfl) rfl (vs := [.agg #[_, _, _, _]]) ⟨⟨b6, 0, rfl, load_agg (n := 4) (vs := [_, _, _, _]) at_ agg25 sz25 rfl⟩, trivial⟩ (fun _ => Sat.told [1] 4 (by decide) (by decide) rfl) ⟨_, _, _, _, _, _, _, [_], rfl, (by simp), .row (by simp [flat_encE_len]), (by simp), rfl⟩
              · try simp only [cnd] at hc6
                refine WX.skip ?_
                refine Fin.block_normal ?_
                refine Fin.then_normal ?_
                refine WX.seq ?_
                refine WX.region rfl ?_
                refine WXL.ldN (vs := [_, _, _, _]) Met.none rfl agg25 sz25 ?_
                refine WXL.st (vs := [_, _, _, _]) (c' := [_, _, _, _]) Met.none rfl rfl rfl sz25 ?_
                refine WXL.nil ?_
                refine Fin.then_normal ?_
                refine WX.ret ?_
                first
                | exact Fin.results (O' := [(b12, ⟨4, false, flat encE _⟩)] ++ O) (.inr rfl) rfl (vs := [.agg #[_, _, _, _]]) ⟨⟨b6, 0, rfl, load_agg (n := 4) (vs := [_, _, _, _]) at_ agg25 sz25 rfl⟩, trivial⟩ (fun _ => Sat.told [0] 3 (by decide) (by decide) rfl) ⟨_, _, _, _, _, _, _, [_], rfl, (by simp), .row (by simp [flat_encE_len]), (by simp), rfl⟩
                | exact Fin.results (O' := [(_, ⟨4, false, flat encE _⟩)] ++ O) (.inr rfl) rfl (vs := [.agg #[_, _, _, _]]) ⟨⟨b6, 0, rfl, load_agg (n := 4) (vs := [_, _, _, _]) at_ agg25 sz25 rfl⟩, trivial⟩ (fun _ => Sat.told [1] 4 (by decide) (by decide) rfl) ⟨_, _, _, _, _, _, _, [_], rfl, (by simp), .row (by simp [flat_encE_len]), (by simp), rfl⟩
            · try simp only [cnd] at hc5
              refine WX.seq ?_
              refine WX.region rfl ?_
              refine WXL.bin Met.none rfl rfl rfl ?_
              refine WXL.assign Met.none rfl ?_
              refine WXL.nil ?_
              refine Fin.then_normal ?_
              refine WX.cond rfl (fun hc7 => ?_) (fun hc7 => ?_)
              · try simp only [cnd] at hc7
                refine WX.seq ?_
                refine WX.region rfl ?_
                refine WXL.move Met.none rfl ?_
                refine WXL.len Met.none rfl Try.underlying23 ?_
                refine WXL.bin Met.none rfl rfl rfl ?_
                refine WXL.nil ?_
                refine Fin.then_normal ?_
                refine WX.cond rfl (fun hc8 => ?_) (fun hc8 => ?_)
                · try simp only [cnd] at hc8
                  refine WX.region rfl ?_
                  refine WXL.move Met.none rfl ?_
                  refine WXL.move Met.none rfl ?_
                  refine WXL.move Met.none rfl ?_
                  refine WXL.buildSlice (c := [_, _, _, _]) Met.none rfl elem22 sz3 zero3 (by decide) (by decide) rfl rfl rfl rfl (fun b92 => ?_)
                  refine WXL.move Met.none rfl ?_
                  refine WXL.cl (O1 := _) Met.none rfl (fnOk_of Try.func13 (by decide +kernel)) rfl (fun _ h => h) (around_ok _ _ _ hb (by omega)) (fun v O' hp => ?_)
                  obtain ⟨rfl, hO⟩ := hp
                  subst O'
                  first | refine WXL.ix Met.none rfl rfl elem22 sz3 ?_ | refine WXL.ixS Met.none rfl rfl elem22 sz3 ?_
                  refine WXL.load1 lz_ Met.none rfl at_ agg3 (cell_map I [by_, -1, 1099511627776, 1099511627777] (around by_ 4).toNat (by simp only [List.length_cons, List.length_nil]; omega)) ?_
                  first | refine WXL.ix Met.none rfl rfl elem23 sz63 ?_ | refine WXL.ixS Met.none rfl rfl elem23 sz63 ?_
                  first | refine WXL.fieldAddr Met.none rfl Try.underlying63 rfl sz3 rfl ?_ | refine WXL.faS Met.none rfl Try.underlying63 rfl sz3 ?_
                  refine WXL.st (vs := [_]) (j := 1) Met.none rfl rfl rfl sz3 ?_ (hj := rfl) (hl := (by rw [flat_encE_len]; show _ * 4 + 3 + 1 ≤ _; omega)) (hc := (splice_back n.edges _ _ (by omega)))
                  refine WXL.nil ?_
                  refine Fin.block_normal ?_
                  refine Fin.then_normal ?_
                  refine WX.seq ?_
                  refine WX.region rfl ?_
                  refine WXL.ldN (vs := [_, _, _, _]) Met.none rfl agg25 sz25 ?_
                  refine WXL.st (vs := [_, _, _, _]) (c' := [_, _, _, _]) Met.none rfl rfl rfl sz25 ?_
                  refine WXL.nil ?_
                  refine Fin.then_normal ?_
                  refine WX.ret ?_
                  first
                  | exact Fin.results (O' := [(b12, ⟨4, false, flat encE _⟩)] ++ O) (.inr rfl) rfl (vs := [.agg #[_, _, _, _]]) ⟨⟨b6, 0, rfl, load_agg (n := 4) (vs := [_, _, _, _]) at_ agg25 sz25 rfl⟩, trivial⟩ (fun _ => Sat.told [0] 3 (by decide) (by decide) rfl) ⟨_, _, _, _, _, _, _, [_], rfl, (by simp), .row (by simp [flat_encE_len]), (by simp), rfl⟩
                  | exact Fin.results (O' := [(_, ⟨4, false, flat encE _⟩)] ++ O) (.inr rfl) rfl (vs := [.agg #[_, _, _, _]]) ⟨⟨b6, 0, rfl, load_agg (n := 4) (vs := [_, _, _, _]) at_ agg25 sz25 rfl⟩, trivial⟩ (fun _ => Sat.told [1] 4 (by decide) (by decide) rfl) ⟨_, _, _, _, _, _, _, [_], rfl, (by simp), .row (by simp [flat_encE_len]), (by simp), rfl⟩
                · try simp only [cnd] at hc8
                  refine WX.skip ?_
                  refine Fin.block_normal ?_
                  refine Fin.then_normal ?_
                  refine WX.seq ?_
                  refine WX.region rfl ?_
                  refine WXL.ldN (vs := [_, _, _, _]) Met.none rfl agg25 sz25 ?_
                  refine WXL.st (vs := [_, _, _, _]) (c' := [_, _, _, _]) Met.none rfl rfl rfl sz25 ?_
                  refine WXL.nil ?_
                  refine Fin.then_normal ?_
                  refine WX.ret ?_
                  first
                  | exact Fin.results (O' := [(b12, ⟨4, false, flat encE _⟩)] ++ O) (.inr rfl) rfl (vs := [.agg #[_, _, _, _]]) ⟨⟨b6, 0, rfl, load_agg (n := 4) (vs := [_, _, _, _]) at_ agg25 sz25 rfl⟩, trivial⟩ (fun _ => Sat.told [0] 3 (by decide) (by decide) rfl) ⟨_, _, _, _, _, _, _, [_], rfl, (by simp), .row (by simp [flat_encE_len]), (by simp), rfl⟩
                  | exact Fin.results (O' := [(_, ⟨4, false, flat encE _⟩)] ++ O) (.inr rfl) rfl (vs := [.agg #[_, _, _, _]]) ⟨⟨b6, 0, rfl, load_agg (n := 4) (vs := [_, _, _, _]) at_ agg25 sz25 rfl⟩, trivial⟩ (fun _ => Sat.told [1] 4 (by decide) (by decide) rfl) ⟨_, _, _, _, _, _, _, [_], rfl, (by simp), .row (by simp [flat_encE_len]), (by simp), rfl⟩
              · try simp only [cnd] at hc7
                refine WX.seq ?_
                refine WX.region rfl ?_
                refine WXL.bin Met.none rfl rfl rfl ?_
                refine WXL.assign Met.none rfl ?_
                refine WXL.nil ?_
                refine Fin.then_normal ?_
                refine WX.cond rfl (fun hc9 => ?_) (fun hc9 => ?_)
                · try simp only [cnd] at hc9
                  refine WX.seq ?_
                  refine WX.region rfl ?_
                  refine WXL.move Met.none rfl ?_
                  refine WXL.len Met.none rfl Try.underlying23 ?_
                  refine WXL.bin Met.none rfl rfl rfl ?_
                  refine WXL.nil ?_
                  refine Fin.then_normal ?_
                  refine WX.cond rfl (fun hc10 => ?_) (fun hc10 => ?_)
                  · try simp only [cnd] at hc10
                    refine WX.region rfl ?_
                    refine WXL.move Met.none rfl ?_
                    refine WXL.move Met.none rfl ?_
                    refine WXL.move Met.none rfl ?_
                    refine WXL.move Met.none rfl ?_
                    first | refine WXL.ix Met.none rfl rfl elem23 sz63 ?_ | refine WXL.ixS Met.none rfl rfl elem23 sz63 ?_
                    first | refine WXL.fieldAddr Met.none rfl Try.underlying63 rfl sz3 rfl ?_ | refine WXL.faS Met.none rfl Try.underlying63 rfl sz3 ?_
                    first | refine WXL.ld Met.none rfl agg3 ?_ | refine WXL.ldS Met.none rfl agg3 ?_
                    first | refine WXL.ix Met.none rfl rfl elem23 sz63 ?_ | refine WXL.ixS Met.none rfl rfl elem23 sz63 ?_
                    first | refine WXL.fieldAddr Met.none rfl Try.underlying63 rfl sz3 rfl ?_ | refine WXL.faS Met.none rfl Try.underlying63 rfl sz3 ?_
                    refine WXL.st (vs := [_]) (j := 0) Met.none rfl rfl rfl sz3 ?_ (hj := rfl) (hl := (by rw [flat_encE_len]; show _ * 4 + 1 + 1 ≤ _; omega)) (hc := (splice_b n.edges _ _ (by omega)))
                    refine WXL.nil ?_
                    refine Fin.block_normal ?_
                    refine Fin.then_normal ?_
                    refine WX.seq ?_
                    refine WX.region rfl ?_
                    refine WXL.ldN (vs := [_, _, _, _]) Met.none rfl agg25 sz25 ?_
                    refine WXL.st (vs := [_, _, _, _]) (c' := [_, _, _, _]) Met.none rfl rfl rfl sz25 ?_
                    refine WXL.nil ?_
                    refine Fin.then_normal ?_
                    refine WX.ret ?_
                    first
                    | exact Fin.results (O' := [(b12, ⟨4, false, flat encE _⟩)] ++ O) (.inr rfl) rfl (vs := [.agg #[_, _, _, _]]) ⟨⟨b6, 0, rfl, load_agg (n := 4) (vs := [_, _, _, _]) at_ agg25 sz25 rfl⟩, trivial⟩ (fun _ => Sat.told [0] 3 (by decide) (by decide) rfl) ⟨_, _, _, _, _, _, _, [_], rfl, (by simp), .row (by simp [flat_encE_len]), (by simp), rfl⟩
                    | exact Fin.results (O' := [(_, ⟨4, false, flat encE _⟩)] ++ O) (.inr rfl) rfl (vs := [.agg #[_, _, _, _]]) ⟨⟨b6, 0, rfl, load_agg (n := 4) (vs := [_, _, _, _]) at_ agg25 sz25 rfl⟩, trivial⟩ (fun _ => Sat.told [1] 4 (by decide) (by decide) rfl) ⟨_, _, _, _, _, _, _, [_], rfl, (by simp), .row (by simp [flat_encE_len]), (by simp), rfl⟩
                  · try simp only [cnd] at hc10
                    refine WX.skip ?_
                    refine Fin.block_normal ?_
                    refine Fin.then_normal ?_
                    refine WX.seq ?_
                    refine WX.region rfl ?_
                    refine WXL.ldN (vs := [_, _, _, _]) Met.none rfl agg25 sz25 ?_
                    refine WXL.st (vs := [_, _, _, _]) (c' := [_, _, _, _]) Met.none rfl rfl rfl sz25 ?_
                    refine WXL.nil ?_
                    refine Fin.then_normal ?_
                    refine WX.ret ?_
                    first
                    | exact Fin.results (O' := [(b12, ⟨4, false, flat encE _⟩)] ++ O) (.inr rfl) rfl (vs := [.agg #[_, _, _, _]]) ⟨⟨b6, 0, rfl, load_agg (n := 4) (vs := [_, _, _, _]) at_ agg25 sz25 rfl⟩, trivial⟩ (fun _ => Sat.told [0] 3 (by decide) (by decide) rfl) ⟨_, _, _, _, _, _, _, [_], rfl, (by simp), .row (by simp [flat_encE_len]), (by simp), rfl⟩
                    | exact Fin.results (O' := [(_, ⟨4, false, flat encE _⟩)] ++ O) (.inr rfl) rfl (vs := [.agg #[_, _, _, _]]) ⟨⟨b6, 0, rfl, load_agg (n := 4) (vs := [_, _, _, _]) at_ agg25 sz25 rfl⟩, trivial⟩ (fun _ => Sat.told [1] 4 (by decide) (by decide) rfl) ⟨_, _, _, _, _, _, _, [_], rfl, (by simp), .row (by simp [flat_encE_len]), (by simp), rfl⟩
                · try simp only [cnd] at hc9
                  refine WX.seq ?_
                  refine WX.region rfl ?_
                  refine WXL.bin Met.none rfl rfl rfl ?_
                  refine WXL.assign Met.none rfl ?_
                  refine WXL.nil ?_
                  refine Fin.then_normal ?_
                  refine WX.cond rfl (fun hc11 => ?_) (fun hc11 => ?_)
                  · try simp only [cnd] at hc11
                    refine WX.region rfl ?_
                    refine WXL.move Met.none rfl ?_
                    refine WXL.build (c := [_, _, _, _]) Met.none rfl zero63 places63 rfl ?_
                    refine WXL.buildSlice (c := [_, _, _, _]) Met.none rfl elem23 sz63 zero63 (by decide) (by decide) rfl rfl rfl rfl (fun b117 => ?_)
                    refine WXL.append 1 Met.none rfl rfl rfl isrow23 rfl (Src.lit (cs := [_, _, _, _])) elem23 sz63 by63 zero63 rfl (by rw [flat_encE_len]; omega) (by omega) (by decide) (by decide) (show _ = flat encE (n.edges ++ [⟨0, 1, 3, 0⟩]) from by rw [List.drop_zero, flat_append, flat_one]; rfl) (by repeat (first | exact Clear.nil | refine Clear.cons 0 rfl rfl ?_ | refine Clear.cons 1 rfl rfl ?_ | refine Clear.cons 2 rfl rfl ?_ | refine Clear.cons 3 rfl rfl ?_ | refine Clear.cons 4 rfl rfl ?_)) (fun b => (by simp only [List.cons_append, List.nil_append, List.set_cons_zero, List.set_cons_succ]; exact rfl)) (fun b118 => ?_)
                    refine WXL.fieldAddr (off' := 3) Met.none rfl Try.underlying25 rfl sz23 rfl ?_
                    refine WXL.st (vs := [_]) (c' := [_, _, _, _]) Met.none rfl rfl rfl sz23 ?_
                    refine WXL.nil ?_
                    refine Fin.block_normal ?_
                    refine Fin.then_normal ?_
                    refine WX.seq ?_
                    refine WX.region rfl ?_
                    refine WXL.ldN (vs := [_, _, _, _]) Met.none rfl agg25 sz25 ?_
                    refine WXL.st (vs := [_, _, _, _]) (c' := [_, _, _, _]) Met.none rfl rfl rfl sz25 ?_
                    refine WXL.nil ?_
                    refine Fin.then_normal ?_
                    refine WX.ret ?_
                    first
                    | exact Fin.results (O' := [(b12, ⟨4, false, flat encE _⟩)] ++ O) (.inr rfl) rfl (vs := [.agg #[_, _, _, _]]) ⟨⟨b6, 0, rfl, load_agg (n := 4) (vs := [_, _, _, _]) at_ agg25 sz25 rfl⟩, trivial⟩ (fun _ => Sat.told [0] 3 (by decide) (by decide) rfl) ⟨_, _, _, _, _, _, _, [_], rfl, (by simp), .row (by simp [flat_encE_len]), (by simp), rfl⟩
                    | exact Fin.results (O' := [(_, ⟨4, false, flat encE _⟩)] ++ O) (.inr rfl) rfl (vs := [.agg #[_, _, _, _]]) ⟨⟨b6, 0, rfl, load_agg (n := 4) (vs := [_, _, _, _]) at_ agg25 sz25 rfl⟩, trivial⟩ (fun _ => Sat.told [1] 4 (by decide) (by decide) rfl) ⟨_, _, _, _, _, _, _, [_], rfl, (by simp), .row (by simp [flat_encE_len]), (by simp), rfl⟩
                  · try simp only [cnd] at hc11
                    refine WX.skip ?_
                    refine Fin.block_normal ?_
                    refine Fin.then_normal ?_
                    refine WX.seq ?_
                    refine WX.region rfl ?_
                    refine WXL.ldN (vs := [_, _, _, _]) Met.none rfl agg25 sz25 ?_
                    refine WXL.st (vs := [_, _, _, _]) (c' := [_, _, _, _]) Met.none rfl rfl rfl sz25 ?_
                    refine WXL.nil ?_
                    refine Fin.then_normal ?_
                    refine WX.ret ?_
                    first
                    | exact Fin.results (O' := [(b12, ⟨4, false, flat encE _⟩)] ++ O) (.inr rfl) rfl (vs := [.agg #[_, _, _, _]]) ⟨⟨b6, 0, rfl, load_agg (n := 4) (vs := [_, _, _, _]) at_ agg25 sz25 rfl⟩, trivial⟩ (fun _ => Sat.told [0] 3 (by decide) (by decide) rfl) ⟨_, _, _, _, _, _, _, [_], rfl, (by simp), .row (by simp [flat_encE_len]), (by simp), rfl⟩
                    | exact Fin.results (O' := [(_, ⟨4, false, flat encE _⟩)] ++ O) (.inr rfl) rfl (vs := [.agg #[_, _, _, _]]) ⟨⟨b6, 0, rfl, load_agg (n := 4) (vs := [_, _, _, _]) at_ agg25 sz25 rfl⟩, trivial⟩ (fun _ => Sat.told [1] 4 (by decide) (by decide) rfl) ⟨_, _, _, _, _, _, _, [_], rfl, (by simp), .row (by simp [flat_encE_len]), (by simp), rfl⟩
  · try simp only [cnd] at hc0
    refine WX.skip ?_
    refine Fin.then_normal ?_
    refine WX.seq ?_
    refine WX.seq ?_
    have hka := around_range (n := how.tdiv 8) (m := (n.edges.length : Int))
    refine WX.region rfl ?_
    refine WXL.move Met.none rfl ?_
    refine WXL.cl (O1 := _) Met.none rfl (fnOk_of Try.func13 (by decide +kernel)) rfl (fun _ h => h) (around_ok _ _ _ hh (by omega)) (fun v O' hp => ?_)
    obtain ⟨rfl, hO⟩ := hp
    subst O'
    refine WXL.nil ?_
    refine Fin.then_normal ?_
    refine WX.block ?_
    refine WX.seq ?_
    refine WX.region rfl ?_
    refine WXL.bin Met.none rfl rfl rfl ?_
    refine WXL.assign Met.none rfl ?_
    refine WXL.nil ?_
    refine Fin.then_normal ?_
    refine WX.cond rfl (fun hc1 => ?_) (fun hc1 => ?_)
    · try simp only [cnd] at hc1
      refine WX.region rfl ?_
      refine WXL.move Met.none rfl ?_
      refine WXL.buildSlice (c := [_, _, _, _, _]) Met.none rfl elem22 sz3 zero3 (by decide) (by decide) rfl rfl rfl rfl (fun b28 => ?_)
      refine WXL.move Met.none rfl ?_
      refine WXL.cl (O1 := _) Met.none rfl (fnOk_of Try.func13 (by decide +kernel)) rfl (fun _ h => h) (around_ok _ _ _ hb (by omega)) (fun v O' hp => ?_)
      obtain ⟨rfl, hO⟩ := hp
      subst O'
      first | refine WXL.ix Met.none rfl rfl elem22 sz3 ?_ | refine WXL.ixS Met.none rfl rfl elem22 sz3 ?_
      refine WXL.load1 lz_ Met.none rfl at_ agg3 (cell_map I [by_, 1024, 1025, 1, 0] (around by_ 5).toNat (by simp only [List.length_cons, List.length_nil]; omega)) ?_
      refine WXL.fieldAddr (off' := 0) Met.none rfl Try.underlying25 rfl sz3 rfl ?_
      refine WXL.st (vs := [_]) (c' := [_, _, _, _]) Met.none rfl rfl rfl sz3 ?_
      refine WXL.nil ?_
      refine Fin.block_normal ?_
      refine Fin.then_normal ?_
      refine WX.seq ?_
      refine WX.region rfl ?_
      refine WXL.ldN (vs := [_, _, _, _]) Met.none rfl agg25 sz25 ?_
      refine WXL.st (vs := [_, _, _, _]) (c' := [_, _, _, _]) Met.none rfl rfl rfl sz25 ?_
      refine WXL.nil ?_
      refine Fin.then_normal ?_
      refine WX.ret ?_
      first
      | exact Fin.results (O' := [(b12, ⟨4, false, flat encE _⟩)] ++ O) (.inr rfl) rfl (vs := [.agg #[_, _, _, _]]) ⟨⟨b6, 0, rfl, load_agg (n := 4) (vs := [_, _, _, _]) at_ agg25 sz25 rfl⟩, trivial⟩ (fun _ => Sat.told [0] 3 (by decide) (by decide) rfl) ⟨_, _, _, _, _, _, _, [_], rfl, (by simp), .row (by simp [flat_encE_len]), (by simp), rfl⟩
      | exact Fin.results (O' := [(_, ⟨4, false, flat encE _⟩)] ++ O) (.inr rfl) rfl (vs := [.agg #[_, _, _, _]]) ⟨⟨b6, 0, rfl, load_agg (n := 4) (vs := [_, _, _, _]) at_ agg25 sz25 rfl⟩, trivial⟩ (fun _ => Sat.told [1] 4 (by decide) (by decide) rfl) ⟨_, _, _, _, _, _, _, [_], rfl, (by simp), .row (by simp [flat_encE_len]), (by simp), rfl⟩
    · try simp only [cnd] at hc1
      refine WX.seq ?_
      refine WX.region rfl ?_
      refine WXL.bin Met.none rfl rfl rfl ?_
      refine WXL.assign Met.none rfl ?_
      refine WXL.nil ?_
      refine Fin.then_normal ?_
      refine WX.cond rfl (fun hc2 => ?_) (fun hc2 => ?_)
      · try simp only [cnd] at hc2
        refine WX.draw rfl ?_
        refine WXL.move Met.none rfl ?_
        refine WXL.fieldAddr (off' := 2) Met.none rfl Try.underlying25 rfl sz3 rfl ?_
        first | refine WXL.ld Met.none rfl agg3 ?_ | refine WXL.ldS Met.none rfl agg3 ?_
        refine WXL.fieldAddr (off' := 0) Met.none rfl Try.underlying25 rfl sz3 rfl ?_
        first | refine WXL.ld Met.none rfl agg3 ?_ | refine WXL.ldS Met.none rfl agg3 ?_
        refine WXL.buildSlice (c := [_, _, _, _]) Met.none rfl elem22 sz3 zero3 (by decide) (by decide) rfl rfl rfl rfl (fun b41 => ?_)
        refine WXL.move Met.none rfl ?_
        refine WXL.cl (O1 := _) Met.none rfl (fnOk_of Try.func13 (by decide +kernel)) rfl (fun _ h => h) (around_ok _ _ _ hb (by omega)) (fun v O' hp => ?_)
        obtain ⟨rfl, hO⟩ := hp
        subst O'
        first | refine WXL.ix Met.none rfl rfl elem22 sz3 ?_ | refine WXL.ixS Met.none rfl rfl elem22 sz3 ?_
        refine WXL.load1 lz_ Met.none rfl at_ agg3 (cell_map I [by_, n.sink, -1, n.nodes] (around by_ 4).toNat (by simp only [List.length_cons, List.length_nil]; omega)) ?_
        refine WXL.fieldAddr (off' := 1) Met.none rfl Try.underlying25 rfl sz3 rfl ?_
        refine WXL.st (vs := [_]) (c' := [_, _, _, _]) Met.none rfl rfl rfl sz3 ?_
        refine WXL.nil ?_
        refine Fin.block_normal ?_
        refine Fin.then_normal ?_
        refine WX.seq ?_
        refine WX.region rfl ?_
        refine WXL.ldN (vs := [_, _, _, _]) Met.none rfl agg25 sz25 ?_
        refine WXL.st (vs := [_, _, _, _]) (c' := [_, _, _, _]) Met.none rfl rfl rfl sz25 ?_
        refine WXL.nil ?_
        refine Fin.then_normal ?_
        refine WX.ret ?_
        first
        | exact Fin.results (O' := [(b12, ⟨4, false, flat encE _⟩)] ++ O) (.inr rfl) rfl (vs := [.agg #[_, _, _, _]]) ⟨⟨b6, 0, rfl, load_agg (n := 4) (vs := [_, _, _, _]) at_ agg25 sz25 rfl⟩, trivial⟩ (fun _ => Sat.told [0] 3 (by decide) (by decide) rfl) ⟨_, _, _, _, _, _, _, [_], rfl, (by simp), .row (by simp [flat_encE_len]), (by simp), rfl⟩
        | exact Fin.results (O' := [(_, ⟨4, false, flat encE _⟩)] ++ O) (.inr rfl) rfl (vs := [.agg #[_, _, _, _]]) ⟨⟨b6, 0, rfl, load_agg (n := 4) (vs := [_, _, _, _]) at_ agg25 sz25 rfl⟩, trivial⟩ (fun _ => Sat.told [1] 4 (by decide) (by decide) rfl) ⟨_, _, _, _, _, _, _, [_], rfl, (by simp), .row (by simp [flat_encE_len]), (by simp), rfl⟩
      · try simp only [cnd] at hc2
        refine WX.seq ?_
        refine WX.region rfl ?_
        refine WXL.bin Met.none rfl rfl rfl ?_
        refine WXL.assign Met.none rfl ?_
        refine WXL.nil ?_
        refine Fin.then_normal ?_
        refine WX.cond rfl (fun hc3 => ?_) (fun hc3 => ?_)
        · try simp only [cnd] at hc3
          refine WX.draw rfl ?_
          refine WXL.move Met.none rfl ?_
          refine WXL.fieldAddr (off' := 0) Met.none rfl Try.underlying25 rfl sz3 rfl ?_
          first | refine WXL.ld Met.none rfl agg3 ?_ | refine WXL.ldS Met.none rfl agg3 ?_
          refine WXL.fieldAddr (off' := 0) Met.none rfl Try.underlying25 rfl sz3 rfl ?_
          first | refine WXL.ld Met.none rfl agg3 ?_ | refine WXL.ldS Met.none rfl agg3 ?_
          refine WXL.bin Met.none rfl rfl rfl ?_
          refine WXL.buildSlice (c := [_, _, _, _]) Met.none rfl elem22 sz3 zero3 (by decide) (by decide) rfl rfl rfl rfl (fun b55 => ?_)
          refine WXL.move Met.none rfl ?_
          refine WXL.cl (O1 := _) Met.none rfl (fnOk_of Try.func13 (by decide +kernel)) rfl (fun _ h => h) (around_ok _ _ _ hb (by omega)) (fun v O' hp => ?_)
          obtain ⟨rfl, hO⟩ := hp
          subst O'
          first | refine WXL.ix Met.none rfl rfl elem22 sz3 ?_ | refine WXL.ixS Met.none rfl rfl elem22 sz3 ?_
          refine WXL.load1 lz_ Met.none rfl at_ agg3 (cell_map I [by_, -1, n.nodes, IntKind.wrap .i64 (n.nodes - 1)] (around by_ 4).toNat (by simp only [List.length_cons, List.length_nil]; omega)) ?_
          refine WXL.fieldAddr (off' := 2) Met.none rfl Try.underlying25 rfl sz3 rfl ?_
          refine WXL.st (vs := [_]) (c' := [_, _, _, _]) Met.none rfl rfl rfl sz3 ?_
          refine WXL.nil ?_
          refine Fin.block_normal ?_
          refine Fin.then_normal ?_
          refine WX.seq ?_
          refine WX.region rfl ?_
          refine WXL.ldN (vs := [_, _, _, _]) Met.none rfl agg25 sz25 ?_
          refine WXL.st (vs := [_, _, _, _]) (c' := [_, _, _, _]) Met.none rfl rfl rfl sz25 ?_
          refine WXL.nil ?_
          refine Fin.then_normal ?_
          refine WX.ret ?_
          first
          | exact Fin.results (O' := [(b12, ⟨4, false, flat encE _⟩)] ++ O) (.inr rfl) rfl (vs := [.agg #[_, _, _, _]]) ⟨⟨b6, 0, rfl, load_agg (n := 4) (vs := [_, _, _, _]) at_ agg25 sz25 rfl⟩, trivial⟩ (fun _ => Sat.told [0] 3 (by decide) (by decide) rfl) ⟨_, _, _, _, _, _, _, [_], rfl, (by simp), .row (by simp [flat_encE_len]), (by simp), rfl⟩
          | exact Fin.results (O' := [(_, ⟨4, false, flat encE _⟩)] ++ O) (.inr rfl) rfl (vs := [.agg #[_, _, _, _]]) ⟨⟨b6, 0, rfl, load_agg (n := 4) (vs := [_, _, _, _]) at_ agg25 sz25 rfl⟩, trivial⟩ (fun _ => Sat.told [1] 4 (by decide) (by decide) rfl) ⟨_, _, _, _, _, _, _, [_], rfl, (by simp), .row (by simp [flat_encE_len]), (by simp), rfl⟩
        · try simp only [cnd] at hc3
          refine WX.seq ?_
          refine WX.region rfl ?_
          refine WXL.bin Met.none rfl rfl rfl ?_
          refine WXL.assign Met.none rfl ?_
          refine WXL.nil ?_
          refine Fin.then_normal ?_
          refine WX.cond rfl (fun hc4 => ?_) (fun hc4 => ?_)
          · try simp only [cnd] at hc4
            refine WX.region rfl ?_
            refine WXL.move Met.none rfl ?_
            refine WXL.move Met.none rfl ?_
            refine WXL.build (c := [_, _, _, _]) Met.none rfl zero63 places63 rfl ?_
            refine WXL.buildSlice (c := [_, _, _, _]) Met.none rfl elem23 sz63 zero63 (by decide) (by decide) rfl rfl rfl rfl (fun b66 => ?_)
            refine WXL.append 1 Met.none rfl rfl rfl isrow23 rfl (Src.lit (cs := [_, _, _, _])) elem23 sz63 by63 zero63 rfl (by rw [flat_encE_len]; omega) (by omega) (by decide) (by decide) (show _ = flat encE (n.edges ++ [⟨by_, 0, 1, 0⟩]) from by rw [List.drop_zero, flat_append, flat_one]; rfl) (by repeat (first | exact Clear.nil | refine Clear.cons 0 rfl rfl ?_ | refine Clear.cons 1 rfl rfl ?_ | refine Clear.cons 2 rfl rfl ?_ | refine Clear.cons 3 rfl rfl ?_ | refine Clear.cons 4 rfl rfl ?_)) (fun b => (by simp only [List.cons_append, List.nil_append, List.set_cons_zero, List.set_cons_succ]; exact rfl)) (fun b67 => ?_)
            refine WXL.fieldAddr (off' := 3) Met.none rfl Try.underlying25 rfl sz23 rfl ?_
            refine WXL.st (vs := [_]) (c' := [_, _, _, _]) Met.none rfl rfl rfl sz23 ?_
            refine WXL.nil ?_
            refine Fin.block_normal ?_
            refine Fin.then_normal ?_
            refine WX.seq ?_
            refine WX.region rfl ?_
            refine WXL.ldN (vs := [_, _, _, _]) Met.none rfl agg25 sz25 ?_
            refine WXL.st (vs := [_, _, _, _]) (c' := [_, _, _, _]) Met.none rfl rfl rfl sz25 ?_
            refine WXL.nil ?_
            refine Fin.then_normal ?_
            refine WX.ret ?_
            first
            | exact Fin.results (O' := [(b12, ⟨4, false, flat encE _⟩)] ++ O) (.inr rfl) rfl (vs := [.agg #[_, _, _, _]]) ⟨⟨b6, 0, rfl, load_agg (n := 4) (vs := [_, _, _, _]) at_ agg25 sz25 rfl⟩, trivial⟩ (fun _ => Sat.told [0] 3 (by decide) (by decide) rfl) ⟨_, _, _, _, _, _, _, [_], rfl, (by simp), .row (by simp [flat_encE_len]), (by simp), rfl⟩
            | exact Fin.results (O' := [(_, ⟨4, false, flat encE _⟩)] ++ O) (.inr rfl) rfl (vs := [.agg #[_, _, _, _]]) ⟨⟨b6, 0, rfl, load_agg (n := 4) (vs := [_, _, _, _]) at_ agg25 sz25 rfl⟩, trivial⟩ (fun _ => Sat.told [1] 4 (by decide) (by decide) rfl) ⟨_, _, _, _, _, _, _, [_], rfl, (by simp), .row (by simp [flat_encE_len]), (by simp), rfl⟩
          · try simp only [cnd] at hc4
            refine WX.seq ?_
            refine WX.region rfl ?_
            refine WXL.bin Met.none rfl rfl rfl ?_
            refine WXL.assign Met.none rfl ?_
            refine WXL.nil ?_
            refine Fin.then_normal ?_
            refine WX.cond rfl (fun hc5 => ?_) (fun hc5 => ?_)
            · try simp only [cnd] at hc5
              refine WX.seq ?_
              refine WX.region rfl ?_
              refine WXL.move Met.none rfl ?_
              refine WXL.len Met.none rfl Try.underlying23 ?_
              refine WXL.bin Met.none rfl rfl rfl ?_
              refine WXL.nil ?_
              refine Fin.then_normal ?_
              refine WX.cond rfl (fun hc6 => ?_) (fun hc6 => ?_)
              · try simp only [cnd] at hc6
                refine WX.region rfl ?_
                refine WXL.move Met.none rfl ?_
                refine WXL.move Met.none rfl ?_
                refine WXL.move Met.none rfl ?_
                refine WXL.buildSlice (c := [_, _, _, _]) Met.none rfl elem22 sz3 zero3 (by decide) (by decide) rfl rfl rfl rfl (fun b77 => ?_)
                refine WXL.move Met.none rfl ?_
                refine WXL.cl (O1 := _) Met.none rfl (fnOk_of Try.func13 (by decide +kernel)) rfl (fun _ h => h) (around_ok _ _ _ hb (by omega)) (fun v O' hp => ?_)
                obtain ⟨rfl, hO⟩ := hp
                subst O'
                first | refine WXL.ix Met.none rfl rfl elem22 sz3 ?_ | refine WXL.ixS Met.none rfl rfl elem22 sz3 ?_
                refine WXL.load1 lz_ Met.none rfl at_ agg3 (cell_map I [by_, -1, 1099511627776, 1099511627777] (around by_ 4).toNat (by simp only [List.length_cons, List.length_nil]; omega)) ?_
                first | refine WXL.ix Met.none rfl rfl elem23 sz63 ?_ | refine WXL.ixS Met.none rfl rfl elem23 sz63 ?_
                first | refine WXL.fieldAddr Met.none rfl Try.underlying63 rfl sz3 rfl ?_ | refine WXL.faS Met.none rfl Try.underlying63 rfl sz3 ?_
                refine WXL.st (vs := [_]) (j := 1) Met.none rfl rfl rfl sz3 ?_ (hj := rfl) (hl := (by rw [flat_encE_len]; show _ * 4 + 2 + 1 ≤ _; omega)) (hc := (splice_cap n.edges _ _ (by omega)))
                refine WXL.nil ?_
                refine Fin.block_normal ?_
                refine Fin.then_normal ?_
                refine WX.seq ?_
                refine WX.region rfl ?_
                refine WXL.ldN (vs := [_, _, _, _]) Met.none rfl agg25 sz25 ?_
                refine WXL.st (vs := [_, _, _, _]) (c' := [_, _, _, _]) Met.none rfl rfl rfl sz25 ?_
                refine WXL.nil ?_
                refine Fin.then_normal ?_
                refine WX.ret ?_
                first
                | exact Fin.results (O' := [(b12, ⟨4, false, flat encE _⟩)] ++ O) (.inr rfl) rfl (vs := [.agg #[_, _, _, _]]) ⟨⟨b6, 0, rfl, load_agg (n := 4) (vs := [_, _, _, _]) at_ agg25 sz25 rfl⟩, trivial⟩ (fun _ => Sat.told [0] 3 (by decide) (by decide) rfl) ⟨_, _, _, _, _, _, _, [_], rfl, (by simp), .row (by simp [flat_encE_len]), (by simp), rfl⟩
                | exact Fin.results (O' := [(_, ⟨4, false, flat encE _⟩)] ++ O) (.inr rfl) rfl (vs := [.agg #[_, _, _, _]]) ⟨⟨b6, 0, rfl, load_agg (n := 4) (vs := [_, _, _, _]) at_ agg25 sz25 rfl⟩, trivial⟩ (fun _ => Sat.told [1] 4 (by decide) (by decide) rfl) ⟨_, _, _, _, _, _, _, [_], rfl, (by simp), .row (by simp [flat_encE_len]), (by simp), rfl⟩
              · try simp only [cnd] at hc6
                refine WX.skip ?_
                refine Fin.block_normal ?_
                refine Fin.then_normal ?_
                refine WX.seq ?_
                refine WX.region rfl ?_
                refine WXL.ldN (vs := [_, _, _, _]) Met.none rfl agg25 sz25 ?_
                refine WXL.st (vs := [_, _, _, _]) (c' := [_, _, _, _]) Met.none rfl rfl rfl sz25 ?_
                refine WXL.nil ?_
                refine Fin.then_normal ?_
                refine WX.ret ?_
                first
                | exact Fin.results (O' := [(b12, ⟨4, false, flat encE _⟩)] ++ O) (.inr rfl) rfl (vs := [.agg #[_, _, _, _]]) ⟨⟨b6, 0, rfl, load_agg (n := 4) (vs := [_, _, _, _]) at_ agg25 sz25 rfl⟩, trivial⟩ (fun _ => Sat.told [0] 3 (by decide) (by decide) rfl) ⟨_, _, _, _, _, _, _, [_], rfl, (by simp), .row (by simp [flat_encE_len]), (by simp), rfl⟩
                | exact Fin.results (O' := [(_, ⟨4, false, flat encE _⟩)] ++ O) (.inr rfl) rfl (vs := [.agg #[_, _, _, _]]) ⟨⟨b6, 0, rfl, load_agg (n := 4) (vs := [_, _, _, _]) at_ agg25 sz25 rfl⟩, trivial⟩ (fun _ => Sat.told [1] 4 (by decide) (by decide) rfl) ⟨_, _, _, _, _, _, _, [_], rfl, (by simp), .row (by simp [flat_encE_len]), (by simp), rfl⟩
            · try simp only [cnd] at hc5
              refine WX.seq ?_
              refine WX.region rfl ?_
              refine WXL.bin Met.none rfl rfl rfl ?_
              refine WXL.assign Met.none rfl ?_
              refine WXL.nil ?_
              refine Fin.then_normal ?_
              refine WX.cond rfl (fun hc7 => ?_) (fun hc7 => ?_)
              · try simp only [cnd] at hc7
                refine WX.seq ?_
                refine WX.region rfl ?_
                refine WXL.move Met.none rfl ?_
                refine WXL.len Met.none rfl Try.underlying23 ?_
                refine WXL.bin Met.none rfl rfl rfl ?_
                refine WXL.nil ?_
                refine Fin.then_normal ?_
                refine WX.cond rfl (fun hc8 => ?_) (fun hc8 => ?_)
                · try simp only [cnd] at hc8
                  refine WX.region rfl ?_
                  refine WXL.move Met.none rfl ?_
                  refine WXL.move Met.none rfl ?_
                  refine WXL.move Met.none rfl ?_
                  refine WXL.buildSlice (c := [_, _, _, _]) Met.none rfl elem22 sz3 zero3 (by decide) (by decide) rfl rfl rfl rfl (fun b92 => ?_)
                  refine WXL.move Met.none rfl ?_
                  refine WXL.cl (O1 := _) Met.none rfl (fnOk_of Try.func13 (by decide +kernel)) rfl (fun _ h => h) (around_ok _ _ _ hb (by omega)) (fun v O' hp => ?_)
                  obtain ⟨rfl, hO⟩ := hp
                  subst O'
                  first | refine WXL.ix Met.none rfl rfl elem22 sz3 ?_ | refine WXL.ixS Met.none rfl rfl elem22 sz3 ?_
                  refine WXL.load1 lz_ Met.none rfl at_ agg3 (cell_map I [by_, -1, 1099511627776, 1099511627777] (around by_ 4).toNat (by simp only [List.length_cons, List.length_nil]; omega)) ?_
                  first | refine WXL.ix Met.none rfl rfl elem23 sz63 ?_ | refine WXL.ixS Met.none rfl rfl elem23 sz63 ?_
                  first | refine WXL.fieldAddr Met.none rfl Try.underlying63 rfl sz3 rfl ?_ | refine WXL.faS Met.none rfl Try.underlying63 rfl sz3 ?_
                  refine WXL.st (vs := [_]) (j := 1) Met.none rfl rfl rfl sz3 ?_ (hj := rfl) (hl := (by rw [flat_encE_len]; show _ * 4 + 3 + 1 ≤ _; omega)) (hc := (splice_back n.edges _ _ (by omega)))
                  refine WXL.nil ?_
                  refine Fin.block_normal ?_
                  refine Fin.then_normal ?_
                  refine WX.seq ?_
                  refine WX.region rfl ?_
                  refine WXL.ldN (vs := [_, _, _, _]) Met.none rfl agg25 sz25 ?_
                  refine WXL.st (vs := [_, _, _, _]) (c' := [_, _, _, _]) Met.none rfl rfl rfl sz25 ?_
                  refine WXL.nil ?_
                  refine Fin.then_normal ?_
                  refine WX.ret ?_
                  first
                  | exact Fin.results (O' := [(b12, ⟨4, false, flat encE _⟩)] ++ O) (.inr rfl) rfl (vs := [.agg #[_, _, _, _]]) ⟨⟨b6, 0, rfl, load_agg (n := 4) (vs := [_, _, _, _]) at_ agg25 sz25 rfl⟩, trivial⟩ (fun _ => Sat.told [0] 3 (by decide) (by decide) rfl) ⟨_, _, _, _, _, _, _, [_], rfl, (by simp), .row (by simp [flat_encE_len]), (by simp), rfl⟩
                  | exact Fin.results (O' := [(_, ⟨4, false, flat encE _⟩)] ++ O) (.inr rfl) rfl (vs := [.agg #[_, _, _, _]]) ⟨⟨b6, 0, rfl, load_agg (n := 4) (vs := [_, _, _, _]) at_ agg25 sz25 rfl⟩, trivial⟩ (fun _ => Sat.told [1] 4 (by decide) (by decide) rfl) ⟨_, _, _, _, _, _, _, [_], rfl, (by simp), .row (by simp [flat_encE_len]), (by simp), rfl⟩
                · try simp only [cnd] at hc8
                  refine WX.skip ?_
                  refine Fin.block_normal ?_
                  refine Fin.then_normal ?_
                  refine WX.seq ?_
                  refine WX.region rfl ?_
                  refine WXL.ldN (vs := [_, _, _, _]) Met.none rfl agg25 sz25 ?_
                  refine WXL.st (vs := [_, _, _, _]) (c' := [_, _, _, _]) Met.none rfl rfl rfl sz25 ?_
                  refine WXL.nil ?_
                  refine Fin.then_normal ?_
                  refine WX.ret ?_
                  first
                  | exact Fin.results (O' := [(b12, ⟨4, false, flat encE _⟩)] ++ O) (.inr rfl) rfl (vs := [.agg #[_, _, _, _]]) ⟨⟨b6, 0, rfl, load_agg (n := 4) (vs := [_, _, _, _]) at_ agg25 sz25 rfl⟩, trivial⟩ (fun _ => Sat.told [0] 3 (by decide) (by decide) rfl) ⟨_, _, _, _, _, _, _, [_], rfl, (by simp), .row (by simp [flat_encE_len]), (by simp), rfl⟩
                  | exact Fin.results (O' := [(_, ⟨4, false, flat encE _⟩)] ++ O) (.inr rfl) rfl (vs := [.agg #[_, _, _, _]]) ⟨⟨b6, 0, rfl, load_agg (n := 4) (vs := [_, _, _, _]) at_ agg25 sz25 rfl⟩, trivial⟩ (fun _ => Sat.told [1] 4 (by decide) (by decide) rfl) ⟨_, _, _, _, _, _, _, [_], rfl, (by simp), .row (by simp [flat_encE_len]), (by simp), rfl⟩
              · try simp only [cnd] at hc7
                refine WX.seq ?_
                refine WX.region rfl ?_
                refine WXL.bin Met.none rfl rfl rfl ?_
                refine WXL.assign Met.none rfl ?_
                refine WXL.nil ?_
                refine Fin.then_normal ?_
                refine WX.cond rfl (fun hc9 => ?_) (fun hc9 => ?_)
                · try simp only [cnd] at hc9
                  refine WX.seq ?_
                  refine WX.region rfl ?_
                  refine WXL.move Met.none rfl ?_
                  refine WXL.len Met.none rfl Try.underlying23 ?_
                  refine WXL.bin Met.none rfl rfl rfl ?_
                  refine WXL.nil ?_
                  refine Fin.then_normal ?_
                  refine WX.cond rfl (fun hc10 => ?_) (fun hc10 => ?_)
                  · try simp only [cnd] at hc10
                    refine WX.region rfl ?_
                    refine WXL.move Met.none rfl ?_
                    refine WXL.move Met.none rfl ?_
                    refine WXL.move Met.none rfl ?_
                    refine WXL.move Met.none rfl ?_
                    first | refine WXL.ix Met.none rfl rfl elem23 sz63 ?_ | refine WXL.ixS Met.none rfl rfl elem23 sz63 ?_
                    first | refine WXL.fieldAddr Met.none rfl Try.underlying63 rfl sz3 rfl ?_ | refine WXL.faS Met.none rfl Try.underlying63 rfl sz3 ?_
                    first | refine WXL.ld Met.none rfl agg3 ?_ | refine WXL.ldS Met.none rfl agg3 ?_
                    first | refine WXL.ix Met.none rfl rfl elem23 sz63 ?_ | refine WXL.ixS Met.none rfl rfl elem23 sz63 ?_
                    first | refine WXL.fieldAddr Met.none rfl Try.underlying63 rfl sz3 rfl ?_ | refine WXL.faS Met.none rfl Try.underlying63 rfl sz3 ?_
                    refine WXL.st (vs := [_]) (j := 0) Met.none rfl rfl rfl sz3 ?_ (hj := rfl) (hl := (by rw [flat_encE_len]; show _ * 4 + 1 + 1 ≤ _; omega)) (hc := (splice_b n.edges _ _ (by omega)))
                    refine WXL.nil ?_
                    refine Fin.block_normal ?_
                    refine Fin.then_normal ?_
                    refine WX.seq ?_
                    refine WX.region rfl ?_
                    refine WXL.ldN (vs := [_, _, _, _]) Met.none rfl agg25 sz25 ?_
                    refine WXL.st (vs := [_, _, _, _]) (c' := [_, _, _, _]) Met.none rfl rfl rfl sz25 ?_
                    refine WXL.nil ?_
                    refine Fin.then_normal ?_
                    refine WX.ret ?_
                    first
                    | exact Fin.results (O' := [(b12, ⟨4, false, flat encE _⟩)] ++ O) (.inr rfl) rfl (vs := [.agg #[_, _, _, _]]) ⟨⟨b6, 0, rfl, load_agg (n := 4) (vs := [_, _, _, _]) at_ agg25 sz25 rfl⟩, trivial⟩ (fun _ => Sat.told [0] 3 (by decide) (by decide) rfl) ⟨_, _, _, _, _, _, _, [_], rfl, (by simp), .row (by simp [flat_encE_len]), (by simp), rfl⟩
                    | exact Fin.results (O' := [(_, ⟨4, false, flat encE _⟩)] ++ O) (.inr rfl) rfl (vs := [.agg #[_, _, _, _]]) ⟨⟨b6, 0, rfl, load_agg (n := 4) (vs := [_, _, _, _]) at_ agg25 sz25 rfl⟩, trivial⟩ (fun _ => Sat.told [1] 4 (by decide) (by decide) rfl) ⟨_, _, _, _, _, _, _, [_], rfl, (by simp), .row (by simp [flat_encE_len]), (by simp), rfl⟩
                  · try simp only [cnd] at hc10
                    refine WX.skip ?_
                    refine Fin.block_normal ?_
                    refine Fin.then_normal ?_
                    refine WX.seq ?_
                    refine WX.region rfl ?_
                    refine WXL.ldN (vs := [_, _, _, _]) Met.none rfl agg25 sz25 ?_
                    refine WXL.st (vs := [_, _, _, _]) (c' := [_, _, _, _]) Met.none rfl rfl rfl sz25 ?_
                    refine WXL.nil ?_
                    refine Fin.then_normal ?_
                    refine WX.ret ?_
                    first
                    | exact Fin.results (O' := [(b12, ⟨4, false, flat encE _⟩)] ++ O) (.inr rfl) rfl (vs := [.agg #[_, _, _, _]]) ⟨⟨b6, 0, rfl, load_agg (n := 4) (vs := [_, _, _, _]) at_ agg25 sz25 rfl⟩, trivial⟩ (fun _ => Sat.told [0] 3 (by decide) (by decide) rfl) ⟨_, _, _, _, _, _, _, [_], rfl, (by simp), .row (by simp [flat_encE_len]), (by simp), rfl⟩
                    | exact Fin.results (O' := [(_, ⟨4, false, flat encE _⟩)] ++ O) (.inr rfl) rfl (vs := [.agg #[_, _, _, _]]) ⟨⟨b6, 0, rfl, load_agg (n := 4) (vs := [_, _, _, _]) at_ agg25 sz25 rfl⟩, trivial⟩ (fun _ => Sat.told [1] 4 (by decide) (by decide) rfl) ⟨_, _, _, _, _, _, _, [_], rfl, (by simp), .row (by simp [flat_encE_len]), (by simp), rfl⟩
                · try simp only [cnd] at hc9
                  refine WX.seq ?_
                  refine WX.region rfl ?_
                  refine WXL.bin Met.none rfl rfl rfl ?_
                  refine WXL.assign Met.none rfl ?_
                  refine WXL.nil ?_
                  refine Fin.then_normal ?_
                  refine WX.cond rfl (fun hc11 => ?_) (fun hc11 => ?_)
                  · try simp only [cnd] at hc11
                    refine WX.region rfl ?_
                    refine WXL.move Met.none rfl ?_
                    refine WXL.build (c := [_, _, _, _]) Met.none rfl zero63 places63 rfl ?_
                    refine WXL.buildSlice (c := [_, _, _, _]) Met.none rfl elem23 sz63 zero63 (by decide) (by decide) rfl rfl rfl rfl (fun b117 => ?_)
                    refine WXL.append 1 Met.none rfl rfl rfl isrow23 rfl (Src.lit (cs := [_, _, _, _])) elem23 sz63 by63 zero63 rfl (by rw [flat_encE_len]; omega) (by omega) (by decide) (by decide) (show _ = flat encE (n.edges ++ [⟨0, 1, 3, 0⟩]) from by rw [List.drop_zero, flat_append, flat_one]; rfl) (by repeat (first | exact Clear.nil | refine Clear.cons 0 rfl rfl ?_ | refine Clear.cons 1 rfl rfl ?_ | refine Clear.cons 2 rfl rfl ?_ | refine Clear.cons 3 rfl rfl ?_ | refine Clear.cons 4 rfl rfl ?_)) (fun b => (by simp only [List.cons_append, List.nil_append, List.set_cons_zero, List.set_cons_succ]; exact rfl)) (fun b118 => ?_)
                    refine WXL.fieldAddr (off' := 3) Met.none rfl Try.underlying25 rfl sz23 rfl ?_
                    refine WXL.st (vs := [_]) (c' := [_, _, _, _]) Met.none rfl rfl rfl sz23 ?_
                    refine WXL.nil ?_
                    refine Fin.block_normal ?_
                    refine Fin.then_normal ?_
                    refine WX.seq ?_
                    refine WX.region rfl ?_
                    refine WXL.ldN (vs := [_, _, _, _]) Met.none rfl agg25 sz25 ?_
                    refine WXL.st (vs := [_, _, _, _]) (c' := [_, _, _, _]) Met.none rfl rfl rfl sz25 ?_
                    refine WXL.nil ?_
                    refine Fin.then_normal ?_
                    refine WX.ret ?_
                    first
                    | exact Fin.results (O' := [(b12, ⟨4, false, flat encE _⟩)] ++ O) (.inr rfl) rfl (vs := [.agg #[_, _, _, _]]) ⟨⟨b6, 0, rfl, load_agg (n := 4) (vs := [_, _, _, _]) at_ agg25 sz25 rfl⟩, trivial⟩ (fun _ => Sat.told [0] 3 (by decide) (by decide) rfl) ⟨_, _, _, _, _, _, _, [_], rfl, (by simp), .row (by simp [flat_encE_len]), (by simp), rfl⟩
                    | exact Fin.results (O' := [(_, ⟨4, false, flat encE _⟩)] ++ O) (.inr rfl) rfl (vs := [.agg #[_, _, _, _]]) ⟨⟨b6, 0, rfl, load_agg (n := 4) (vs := [_, _, _, _]) at_ agg25 sz25 rfl⟩, trivial⟩ (fun _ => Sat.told [1] 4 (by decide) (by decide) rfl) ⟨_, _, _, _, _, _, _, [_], rfl, (by simp), .row (by simp [flat_encE_len]), (by simp), rfl⟩
                  · try simp only [cnd] at hc11
                    refine WX.skip ?_
                    refine Fin.block_normal ?_
                    refine Fin.then_normal ?_
                    refine WX.seq ?_
                    refine WX.region rfl ?_
                    refine WXL.ldN (vs := [_, _, _, _]) Met.none rfl agg25 sz25 ?_
                    refine WXL.st (vs := [_, _, _, _]) (c' := [_, _, _, _]) Met.none rfl rfl rfl sz25 ?_
                    refine WXL.nil ?_
                    refine Fin.then_normal ?_
                    refine WX.ret ?_
                    first
                    | exact Fin.results (O' := [(b12, ⟨4, false, flat encE _⟩)] ++ O) (.inr rfl) rfl (vs := [.agg #[_, _, _, _]]) ⟨⟨b6, 0, rfl, load_agg (n := 4) (vs := [_, _, _, _]) at_ agg25 sz25 rfl⟩, trivial⟩ (fun _ => Sat.told [0] 3 (by decide) (by decide) rfl) ⟨_, _, _, _, _, _, _, [_], rfl, (by simp), .row (by simp [flat_encE_len]), (by simp), rfl⟩
                    | exact Fin.results (O' := [(_, ⟨4, false, flat encE _⟩)] ++ O) (.inr rfl) rfl (vs := [.agg #[_, _, _, _]]) ⟨⟨b6, 0, rfl, load_agg (n := 4) (vs := [_, _, _, _]) at_ agg25 sz25 rfl⟩, trivial⟩ (fun _ => Sat.told [1] 4 (by decide) (by decide) rfl) ⟨_, _, _, _, _, _, _, [_], rfl, (by simp), .row (by simp [flat_encE_len]), (by simp), rfl⟩

theorem spoilt_ok (O : Objs) (n : Net4) (how by_ : Int) (a : Option Addr) (c : Nat) (hl : Edges O n a c) (hlen : n.edges.length ≤ 1000) (hh : In64 how) (hb : In64 by_) :
    Spec Try.prog false 12 #[netV n a c, I how, I by_] O fun v O' => ∃ (x : Net4) (a' : Option Addr) (c' : Nat) (G : Objs), v = netV x a' c' ∧ Grow 4 a' x.edges.length c' (flat encE x.edges) G ∧ x.edges.length ≤ n.edges.length + 1 ∧ O' = G ++ O :=
  (spoilt_ok0 O n how by_ a c hl hlen hh hb).mono fun v O' ⟨nd, so, si, es, a', c', m, G, h1, h2, h3, h4, h5⟩ => ⟨⟨nd, so, si, es⟩, a', c', G, by rw [h1, h2]; rfl, by rw [h2] at h3; exact h3, h4, h5⟩

end Go.Proofs.Ytjmklialkjncaaa.Eng

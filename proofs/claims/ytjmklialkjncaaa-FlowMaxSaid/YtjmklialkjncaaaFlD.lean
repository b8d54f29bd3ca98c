/- What a valid network is. Own work; no condition. -/
import Derived.Test.YtjmklialkjncaaaFlC
set_option linter.unusedVariables false
set_option linter.unusedSimpArgs false
namespace Go.Proofs.Ytjmklialkjncaaa.Eng

def BadEdge (n : Net4) (e : E4) : Prop := e.a < 0 ∨ n.nodes ≤ e.a ∨ e.b < 0 ∨ n.nodes ≤ e.b ∨ e.a = e.b ∨ e.cap < 0 ∨ 1099511627776 < e.cap ∨ e.back < 0 ∨ 1099511627776 < e.back
def Bad4 (n : Net4) : Prop := 1024 < n.nodes ∨ 8192 < n.edges.length
def Bad1 (n : Net4) : Prop := n.nodes < 2 ∨ n.source < 0 ∨ n.nodes ≤ n.source ∨ n.sink < 0 ∨ n.nodes ≤ n.sink ∨ n.source = n.sink
def Bad5 (n : Net4) : Prop := ∃ k, k < n.edges.length ∧ BadEdge n (nth n.edges k)
/-- What is wrong with a network: the number of its error. -/
def Wrong (n : Net4) (k : Int) : Prop := (Bad4 n ∧ k = 4) ∨ (¬ Bad4 n ∧ Bad1 n ∧ k = 1) ∨ (¬ Bad4 n ∧ ¬ Bad1 n ∧ Bad5 n ∧ k = 5) ∨ (¬ Bad4 n ∧ ¬ Bad1 n ∧ ¬ Bad5 n ∧ k = 0)

theorem Wrong.uniq {n : Net4} {k k' : Int} (h : Wrong n k) (h' : Wrong n k') : k = k' := by
  unfold Wrong at h h'
  by_cases h4 : Bad4 n
  · rcases h with ⟨_, h⟩ | ⟨a, _⟩ | ⟨a, _⟩ | ⟨a, _⟩ <;> rcases h' with ⟨_, h'⟩ | ⟨b, _⟩ | ⟨b, _⟩ | ⟨b, _⟩ <;> first | omega | exact absurd h4 (by assumption)
  · by_cases h1 : Bad1 n
    · rcases h with ⟨a, h⟩ | ⟨_, _, h⟩ | ⟨_, a, _⟩ | ⟨_, a, _⟩ <;> rcases h' with ⟨b, h'⟩ | ⟨_, _, h'⟩ | ⟨_, b, _⟩ | ⟨_, b, _⟩ <;> first | omega | contradiction
    · by_cases h5 : Bad5 n
      · rcases h with ⟨a, h⟩ | ⟨_, a, h⟩ | ⟨_, _, _, h⟩ | ⟨_, _, a, _⟩ <;> rcases h' with ⟨b, h'⟩ | ⟨_, b, h'⟩ | ⟨_, _, _, h'⟩ | ⟨_, _, b, _⟩ <;> first | omega | contradiction
      · rcases h with ⟨a, h⟩ | ⟨_, a, h⟩ | ⟨_, _, a, _⟩ | ⟨_, _, _, h⟩ <;> rcases h' with ⟨b, h'⟩ | ⟨_, b, h'⟩ | ⟨_, _, b, _⟩ | ⟨_, _, _, h'⟩ <;> first | omega | contradiction

theorem refValid_ok (O : Objs) (n : Net4) (a : Option Addr) (c : Nat) (hl : Edges O n a c) (hlen : n.edges.length ≤ 1000000) :
    Spec Try.prog false 14 #[netV n a c] O fun v O' => ∃ k, v = I k ∧ Wrong n k ∧ O' = O := by
  refine Spec.enter (args := [_]) (m := 109) Try.func14 rfl rfl (by decide +kernel) fun h0 => ?_
  refine WX.seq ?_
  refine WX.region rfl ?_
  refine WXL.box (c := [_, _, _, _]) Met.none rfl rfl rfl (fun b1 => ?_)
  refine WXL.assign Met.none rfl ?_
  refine WXL.nil ?_
  refine Fin.then_normal ?_
  refine WX.seq ?_
  refine WX.seq ?_
  refine WX.region rfl ?_
  refine WXL.fieldAddr (off' := 0) Met.none rfl Try.underlying25 rfl sz3 rfl ?_
  first | refine WXL.ld Met.none rfl agg3 ?_ | refine WXL.ldS Met.none rfl agg3 ?_
  refine WXL.bin Met.none rfl rfl rfl ?_
  refine WXL.move Met.none rfl ?_
  refine WXL.split (d := 8) rfl (fun hg8 => ?_) (fun hg8 => ?_)
  · try simp only [cnd] at hg8
    refine WXL.miss (j := 3) (d := 8) rfl rfl rfl ?_
    refine WXL.miss (j := 3) (d := 8) rfl rfl rfl ?_
    refine WXL.miss (j := 3) (d := 8) rfl rfl rfl ?_
    refine WXL.miss (j := 3) (d := 8) rfl rfl rfl ?_
    refine WXL.pick_t Met.none rfl rfl ?_
    refine WXL.nil ?_
    refine Fin.then_normal ?_
    refine WX.cond rfl (fun hc0 => ?_) (fun hc0 => nomatch hc0)
    refine WX.seq ?_
    refine WX.region rfl ?_
    refine WXL.assign Met.none rfl ?_
    refine WXL.nil ?_
    refine Fin.then_normal ?_
    refine WX.ret ?_
    refine Fin.then_ret ?_
    refine Fin.result (O' := O) (.inr rfl) rfl rfl drop_ ⟨_, rfl, ?_, rfl⟩
    first
    | exact .inl ⟨by unfold Bad4; omega, rfl⟩
    | exact .inr (.inl ⟨by unfold Bad4; omega, by unfold Bad1; omega, rfl⟩)
    | exact .inr (.inr (.inl ⟨hn4, hn1, ⟨k, by omega, by unfold BadEdge; omega⟩, rfl⟩))
    | exact .inr (.inr (.inr ⟨hn4, hn1, fun ⟨j, h1, h2⟩ => hk.2 j (by omega) h2, rfl⟩))
  · try simp only [cnd] at hg8
    refine WXL.fieldAddr (off' := 3) (Met.some rfl rfl rfl) rfl Try.underlying25 rfl sz23 rfl ?_
    first | refine WXL.ld (Met.some rfl rfl rfl) rfl agg23 ?_ | refine WXL.ldS (Met.some rfl rfl rfl) rfl agg23 ?_
    refine WXL.len (Met.some rfl rfl rfl) rfl Try.underlying23 ?_
    refine WXL.bin (Met.some rfl rfl rfl) rfl rfl rfl ?_
    refine WXL.pick_f Met.none rfl rfl ?_
    refine WXL.nil ?_
    refine Fin.then_normal ?_
    refine WX.cond rfl (fun hc0 => ?_) (fun hc0 => ?_)
    · try simp only [cnd] at hc0
      refine WX.seq ?_
      refine WX.region rfl ?_
      refine WXL.assign Met.none rfl ?_
      refine WXL.nil ?_
      refine Fin.then_normal ?_
      refine WX.ret ?_
      refine Fin.then_ret ?_
      refine Fin.result (O' := O) (.inr rfl) rfl rfl drop_ ⟨_, rfl, ?_, rfl⟩
      first
      | exact .inl ⟨by unfold Bad4; omega, rfl⟩
      | exact .inr (.inl ⟨by unfold Bad4; omega, by unfold Bad1; omega, rfl⟩)
      | exact .inr (.inr (.inl ⟨hn4, hn1, ⟨k, by omega, by unfold BadEdge; omega⟩, rfl⟩))
      | exact .inr (.inr (.inr ⟨hn4, hn1, fun ⟨j, h1, h2⟩ => hk.2 j (by omega) h2, rfl⟩))
    · try simp only [cnd] at hc0
      refine WX.skip ?_
      refine Fin.then_normal ?_
      refine WX.seq ?_
      refine WX.seq ?_
      refine WX.region rfl ?_
      refine WXL.fieldAddr (off' := 0) Met.none rfl Try.underlying25 rfl sz3 rfl ?_
      first | refine WXL.ld Met.none rfl agg3 ?_ | refine WXL.ldS Met.none rfl agg3 ?_
      refine WXL.bin Met.none rfl rfl rfl ?_
      refine WXL.move Met.none rfl ?_
      refine WXL.split (d := 17) rfl (fun hg17 => ?_) (fun hg17 => ?_)
      · try simp only [cnd] at hg17
        refine WXL.miss (j := 3) (d := 17) rfl rfl rfl ?_
        refine WXL.miss (j := 3) (d := 17) rfl rfl rfl ?_
        refine WXL.miss (j := 3) (d := 17) rfl rfl rfl ?_
        refine WXL.pick_t Met.none rfl rfl ?_
        refine WXL.move Met.none rfl ?_
        refine WXL.miss (j := 8) (d := 22) rfl rfl rfl ?_
        refine WXL.miss (j := 8) (d := 22) rfl rfl rfl ?_
        refine WXL.miss (j := 8) (d := 22) rfl rfl rfl ?_
        refine WXL.miss (j := 8) (d := 22) rfl rfl rfl ?_
        refine WXL.miss (j := 8) (d := 22) rfl rfl rfl ?_
        refine WXL.pick_t Met.none rfl rfl ?_
        refine WXL.move Met.none rfl ?_
        refine WXL.miss (j := 15) (d := 29) rfl rfl rfl ?_
        refine WXL.miss (j := 15) (d := 29) rfl rfl rfl ?_
        refine WXL.miss (j := 15) (d := 29) rfl rfl rfl ?_
        refine WXL.pick_t Met.none rfl rfl ?_
        refine WXL.move Met.none rfl ?_
        refine WXL.miss (j := 20) (d := 34) rfl rfl rfl ?_
        refine WXL.miss (j := 20) (d := 34) rfl rfl rfl ?_
        refine WXL.miss (j := 20) (d := 34) rfl rfl rfl ?_
        refine WXL.miss (j := 20) (d := 34) rfl rfl rfl ?_
        refine WXL.miss (j := 20) (d := 34) rfl rfl rfl ?_
        refine WXL.pick_t Met.none rfl rfl ?_
        refine WXL.move Met.none rfl ?_
        refine WXL.miss (j := 27) (d := 41) rfl rfl rfl ?_
        refine WXL.miss (j := 27) (d := 41) rfl rfl rfl ?_
        refine WXL.miss (j := 27) (d := 41) rfl rfl rfl ?_
        refine WXL.miss (j := 27) (d := 41) rfl rfl rfl ?_
        refine WXL.miss (j := 27) (d := 41) rfl rfl rfl ?_
        refine WXL.pick_t Met.none rfl rfl ?_
        refine WXL.nil ?_
        refine Fin.then_normal ?_
        refine WX.cond rfl (fun hc1 => ?_) (fun hc1 => nomatch hc1)
        refine WX.seq ?_
        refine WX.region rfl ?_
        refine WXL.assign Met.none rfl ?_
        refine WXL.nil ?_
        refine Fin.then_normal ?_
        refine WX.ret ?_
        refine Fin.then_ret ?_
        refine Fin.result (O' := O) (.inr rfl) rfl rfl drop_ ⟨_, rfl, ?_, rfl⟩
        first
        | exact .inl ⟨by unfold Bad4; omega, rfl⟩
        | exact .inr (.inl ⟨by unfold Bad4; omega, by unfold Bad1; omega, rfl⟩)
        | exact .inr (.inr (.inl ⟨hn4, hn1, ⟨k, by omega, by unfold BadEdge; omega⟩, rfl⟩))
        | exact .inr (.inr (.inr ⟨hn4, hn1, fun ⟨j, h1, h2⟩ => hk.2 j (by omega) h2, rfl⟩))
      · try simp only [cnd] at hg17
        refine WXL.fieldAddr (off' := 1) (Met.some rfl rfl rfl) rfl Try.underlying25 rfl sz3 rfl ?_
        first | refine WXL.ld (Met.some rfl rfl rfl) rfl agg3 ?_ | refine WXL.ldS (Met.some rfl rfl rfl) rfl agg3 ?_
        refine WXL.bin (Met.some rfl rfl rfl) rfl rfl rfl ?_
        refine WXL.pick_f Met.none rfl rfl ?_
        refine WXL.move Met.none rfl ?_
        refine WXL.split (d := 22) rfl (fun hg22 => ?_) (fun hg22 => ?_)
        · try simp only [cnd] at hg22
          refine WXL.miss (j := 8) (d := 22) rfl rfl rfl ?_
          refine WXL.miss (j := 8) (d := 22) rfl rfl rfl ?_
          refine WXL.miss (j := 8) (d := 22) rfl rfl rfl ?_
          refine WXL.miss (j := 8) (d := 22) rfl rfl rfl ?_
          refine WXL.miss (j := 8) (d := 22) rfl rfl rfl ?_
          refine WXL.pick_t Met.none rfl rfl ?_
          refine WXL.move Met.none rfl ?_
          refine WXL.miss (j := 15) (d := 29) rfl rfl rfl ?_
          refine WXL.miss (j := 15) (d := 29) rfl rfl rfl ?_
          refine WXL.miss (j := 15) (d := 29) rfl rfl rfl ?_
          refine WXL.pick_t Met.none rfl rfl ?_
          refine WXL.move Met.none rfl ?_
          refine WXL.miss (j := 20) (d := 34) rfl rfl rfl ?_
          refine WXL.miss (j := 20) (d := 34) rfl rfl rfl ?_
          refine WXL.miss (j := 20) (d := 34) rfl rfl rfl ?_
          refine WXL.miss (j := 20) (d := 34) rfl rfl rfl ?_
          refine WXL.miss (j := 20) (d := 34) rfl rfl rfl ?_
          refine WXL.pick_t Met.none rfl rfl ?_
          refine WXL.move Met.none rfl ?_
          refine WXL.miss (j := 27) (d := 41) rfl rfl rfl ?_
          refine WXL.miss (j := 27) (d := 41) rfl rfl rfl ?_
          refine WXL.miss (j := 27) (d := 41) rfl rfl rfl ?_
          refine WXL.miss (j := 27) (d := 41) rfl rfl rfl ?_
          refine WXL.miss (j := 27) (d := 41) rfl rfl rfl ?_
          refine WXL.pick_t Met.none rfl rfl ?_
          refine WXL.nil ?_
          refine Fin.then_normal ?_
          refine WX.cond rfl (fun hc1 => ?_) (fun hc1 => nomatch hc1)
          refine WX.seq ?_
          refine WX.region rfl ?_
          refine WXL.assign Met.none rfl ?_
          refine WXL.nil ?_
          refine Fin.then_normal ?_
          refine WX.ret ?_
          refine Fin.then_ret ?_
          refine Fin.result (O' := O) (.inr rfl) rfl rfl drop_ ⟨_, rfl, ?_, rfl⟩
          first
          | exact .inl ⟨by unfold Bad4; omega, rfl⟩
          | exact .inr (.inl ⟨by unfold Bad4; omega, by unfold Bad1; omega, rfl⟩)
          | exact .inr (.inr (.inl ⟨hn4, hn1, ⟨k, by omega, by unfold BadEdge; omega⟩, rfl⟩))
          | exact .inr (.inr (.inr ⟨hn4, hn1, fun ⟨j, h1, h2⟩ => hk.2 j (by omega) h2, rfl⟩))
        · try simp only [cnd] at hg22
          refine WXL.fieldAddr (off' := 1) (Met.some rfl rfl rfl) rfl Try.underlying25 rfl sz3 rfl ?_
          first | refine WXL.ld (Met.some rfl rfl rfl) rfl agg3 ?_ | refine WXL.ldS (Met.some rfl rfl rfl) rfl agg3 ?_
          refine WXL.fieldAddr (off' := 0) (Met.some rfl rfl rfl) rfl Try.underlying25 rfl sz3 rfl ?_
          first | refine WXL.ld (Met.some rfl rfl rfl) rfl agg3 ?_ | refine WXL.ldS (Met.some rfl rfl rfl) rfl agg3 ?_
          refine WXL.bin (Met.some rfl rfl rfl) rfl rfl rfl ?_
          refine WXL.pick_f Met.none rfl rfl ?_
          refine WXL.move Met.none rfl ?_
          refine WXL.split (d := 29) rfl (fun hg29 => ?_) (fun hg29 => ?_)
          · try simp only [cnd] at hg29
            refine WXL.miss (j := 15) (d := 29) rfl rfl rfl ?_
            refine WXL.miss (j := 15) (d := 29) rfl rfl rfl ?_
            refine WXL.miss (j := 15) (d := 29) rfl rfl rfl ?_
            refine WXL.pick_t Met.none rfl rfl ?_
            refine WXL.move Met.none rfl ?_
            refine WXL.miss (j := 20) (d := 34) rfl rfl rfl ?_
            refine WXL.miss (j := 20) (d := 34) rfl rfl rfl ?_
            refine WXL.miss (j := 20) (d := 34) rfl rfl rfl ?_
            refine WXL.miss (j := 20) (d := 34) rfl rfl rfl ?_
            refine WXL.miss (j := 20) (d := 34) rfl rfl rfl ?_
            refine WXL.pick_t Met.none rfl rfl ?_
            refine WXL.move Met.none rfl ?_
            refine WXL.miss (j := 27) (d := 41) rfl rfl rfl ?_
            refine WXL.miss (j := 27) (d := 41) rfl rfl rfl ?_
            refine WXL.miss (j := 27) (d := 41) rfl rfl rfl ?_
            refine WXL.miss (j := 27) (d := 41) rfl rfl rfl ?_
            refine WXL.miss (j := 27) (d := 41) rfl rfl rfl ?_
            refine WXL.pick_t Met.none rfl rfl ?_
            refine WXL.nil ?_
            refine Fin.then_normal ?_
            refine WX.cond rfl (fun hc1 => ?_) (fun hc1 => nomatch hc1)
            refine WX.seq ?_
            refine WX.region rfl ?_
            refine WXL.assign Met.none rfl ?_
            refine WXL.nil ?_
            refine Fin.then_normal ?_
            refine WX.ret ?_
            refine Fin.then_ret ?_
            refine Fin.result (O' := O) (.inr rfl) rfl rfl drop_ ⟨_, rfl, ?_, rfl⟩
            first
            | exact .inl ⟨by unfold Bad4; omega, rfl⟩
            | exact .inr (.inl ⟨by unfold Bad4; omega, by unfold Bad1; omega, rfl⟩)
            | exact .inr (.inr (.inl ⟨hn4, hn1, ⟨k, by omega, by unfold BadEdge; omega⟩, rfl⟩))
            | exact .inr (.inr (.inr ⟨hn4, hn1, fun ⟨j, h1, h2⟩ => hk.2 j (by omega) h2, rfl⟩))
          · try simp only [cnd] at hg29
            refine WXL.fieldAddr (off' := 2) (Met.some rfl rfl rfl) rfl Try.underlying25 rfl sz3 rfl ?_
            first | refine WXL.ld (Met.some rfl rfl rfl) rfl agg3 ?_ | refine WXL.ldS (Met.some rfl rfl rfl) rfl agg3 ?_
            refine WXL.bin (Met.some rfl rfl rfl) rfl rfl rfl ?_
            refine WXL.pick_f Met.none rfl rfl ?_
            refine WXL.move Met.none rfl ?_
            refine WXL.split (d := 34) rfl (fun hg34 => ?_) (fun hg34 => ?_)
            · try simp only [cnd] at hg34
              refine WXL.miss (j := 20) (d := 34) rfl rfl rfl ?_
              refine WXL.miss (j := 20) (d := 34) rfl rfl rfl ?_
              refine WXL.miss (j := 20) (d := 34) rfl rfl rfl ?_
              refine WXL.miss (j := 20) (d := 34) rfl rfl rfl ?_
              refine WXL.miss (j := 20) (d := 34) rfl rfl rfl ?_
              refine WXL.pick_t Met.none rfl rfl ?_
              refine WXL.move Met.none rfl ?_
              refine WXL.miss (j := 27) (d := 41) rfl rfl rfl ?_
              refine WXL.miss (j := 27) (d := 41) rfl rfl rfl ?_
              refine WXL.miss (j := 27) (d := 41) rfl rfl rfl ?_
              refine WXL.miss (j := 27) (d := 41) rfl rfl rfl ?_
              refine WXL.miss (j := 27) (d := 41) rfl rfl rfl ?_
              refine WXL.pick_t Met.none rfl rfl ?_
              refine WXL.nil ?_
              refine Fin.then_normal ?_
              refine WX.cond rfl (fun hc1 => ?_) (fun hc1 => nomatch hc1)
              refine WX.seq ?_
              refine WX.region rfl ?_
              refine WXL.assign Met.none rfl ?_
              refine WXL.nil ?_
              refine Fin.then_normal ?_
              refine WX.ret ?_
              refine Fin.then_ret ?_
              refine Fin.result (O' := O) (.inr rfl) rfl rfl drop_ ⟨_, rfl, ?_, rfl⟩
              first
              | exact .inl ⟨by unfold Bad4; omega, rfl⟩
              | exact .inr (.inl ⟨by unfold Bad4; omega, by unfold Bad1; omega, rfl⟩)
              | exact .inr (.inr (.inl ⟨hn4, hn1, ⟨k, by omega, by unfold BadEdge; omega⟩, rfl⟩))
              | exact .inr (.inr (.inr ⟨hn4, hn1, fun ⟨j, h1, h2⟩ => hk.2 j (by omega) h2, rfl⟩))
            · try simp only [cnd] at hg34
              refine WXL.fieldAddr (off' := 2) (Met.some rfl rfl rfl) rfl Try.underlying25 rfl sz3 rfl ?_
              first | refine WXL.ld (Met.some rfl rfl rfl) rfl agg3 ?_ | refine WXL.ldS (Met.some rfl rfl rfl) rfl agg3 ?_
              refine WXL.fieldAddr (off' := 0) (Met.some rfl rfl rfl) rfl Try.underlying25 rfl sz3 rfl ?_
              first | refine WXL.ld (Met.some rfl rfl rfl) rfl agg3 ?_ | refine WXL.ldS (Met.some rfl rfl rfl) rfl agg3 ?_
              refine WXL.bin (Met.some rfl rfl rfl) rfl rfl rfl ?_
              refine WXL.pick_f Met.none rfl rfl ?_
              refine WXL.move Met.none rfl ?_
              refine WXL.split (d := 41) rfl (fun hg41 => ?_) (fun hg41 => ?_)
              · try simp only [cnd] at hg41
                refine WXL.miss (j := 27) (d := 41) rfl rfl rfl ?_
                refine WXL.miss (j := 27) (d := 41) rfl rfl rfl ?_
                refine WXL.miss (j := 27) (d := 41) rfl rfl rfl ?_
                refine WXL.miss (j := 27) (d := 41) rfl rfl rfl ?_
                refine WXL.miss (j := 27) (d := 41) rfl rfl rfl ?_
                refine WXL.pick_t Met.none rfl rfl ?_
                refine WXL.nil ?_
                refine Fin.then_normal ?_
                refine WX.cond rfl (fun hc1 => ?_) (fun hc1 => nomatch hc1)
                refine WX.seq ?_
                refine WX.region rfl ?_
                refine WXL.assign Met.none rfl ?_
                refine WXL.nil ?_
                refine Fin.then_normal ?_
                refine WX.ret ?_
                refine Fin.then_ret ?_
                refine Fin.result (O' := O) (.inr rfl) rfl rfl drop_ ⟨_, rfl, ?_, rfl⟩
                first
                | exact .inl ⟨by unfold Bad4; omega, rfl⟩
                | exact .inr (.inl ⟨by unfold Bad4; omega, by unfold Bad1; omega, rfl⟩)
                | exact .inr (.inr (.inl ⟨hn4, hn1, ⟨k, by omega, by unfold BadEdge; omega⟩, rfl⟩))
                | exact .inr (.inr (.inr ⟨hn4, hn1, fun ⟨j, h1, h2⟩ => hk.2 j (by omega) h2, rfl⟩))
              · try simp only [cnd] at hg41
                refine WXL.fieldAddr (off' := 1) (Met.some rfl rfl rfl) rfl Try.underlying25 rfl sz3 rfl ?_
                first | refine WXL.ld (Met.some rfl rfl rfl) rfl agg3 ?_ | refine WXL.ldS (Met.some rfl rfl rfl) rfl agg3 ?_
                refine WXL.fieldAddr (off' := 2) (Met.some rfl rfl rfl) rfl Try.underlying25 rfl sz3 rfl ?_
                first | refine WXL.ld (Met.some rfl rfl rfl) rfl agg3 ?_ | refine WXL.ldS (Met.some rfl rfl rfl) rfl agg3 ?_
                refine WXL.bin (Met.some rfl rfl rfl) rfl rfl rfl ?_
                refine WXL.pick_f Met.none rfl rfl ?_
                refine WXL.nil ?_
                refine Fin.then_normal ?_
                refine WX.cond rfl (fun hc1 => ?_) (fun hc1 => ?_)
                · try simp only [cnd] at hc1
                  refine WX.seq ?_
                  refine WX.region rfl ?_
                  refine WXL.assign Met.none rfl ?_
                  refine WXL.nil ?_
                  refine Fin.then_normal ?_
                  refine WX.ret ?_
                  refine Fin.then_ret ?_
                  refine Fin.result (O' := O) (.inr rfl) rfl rfl drop_ ⟨_, rfl, ?_, rfl⟩
                  first
                  | exact .inl ⟨by unfold Bad4; omega, rfl⟩
                  | exact .inr (.inl ⟨by unfold Bad4; omega, by unfold Bad1; omega, rfl⟩)
                  | exact .inr (.inr (.inl ⟨hn4, hn1, ⟨k, by omega, by unfold BadEdge; omega⟩, rfl⟩))
                  | exact .inr (.inr (.inr ⟨hn4, hn1, fun ⟨j, h1, h2⟩ => hk.2 j (by omega) h2, rfl⟩))
                · try simp only [cnd] at hc1
                  refine WX.skip ?_
                  refine Fin.then_normal ?_
                  refine WX.seq ?_
                  refine WX.seq ?_
                  refine WX.region rfl ?_
                  refine WXL.assign Met.none rfl ?_
                  refine WXL.nil ?_
                  refine Fin.then_normal ?_
                  refine WX.block ?_
                  have hn4 : ¬ Bad4 n := by unfold Bad4; omega
                  have hn1 : ¬ Bad1 n := by unfold Bad1; omega
                  refine WX.loop (fun k : Nat => [(1, Ptr b1 0), (3, I (k : Int))]) (fun _ => (b1, ⟨0, false, [I n.nodes, I n.source, I n.sink, .slice a n.edges.length c]⟩) :: O) (fun k => k ≤ n.edges.length ∧ ∀ j, j < k → ¬ BadEdge n (nth n.edges j)) (fun k => n.edges.length - k) 0 ⟨Nat.zero_le _, fun j hj => absurd hj (Nat.not_lt_zero _)⟩ (fun s hs => hs.tl [0] 1) (fun k hk => ?_)
                  refine WX.seq ?_
                  refine WX.seq ?_
                  refine WX.region rfl ?_
                  refine WXL.move Met.none rfl ?_
                  refine WXL.fieldAddr (off' := 3) Met.none rfl Try.underlying25 rfl sz23 rfl ?_
                  first | refine WXL.ld Met.none rfl agg23 ?_ | refine WXL.ldS Met.none rfl agg23 ?_
                  refine WXL.len Met.none rfl Try.underlying23 ?_
                  refine WXL.bin Met.none rfl rfl rfl ?_
                  refine WXL.nil ?_
                  refine Fin.then_normal ?_
                  refine WX.cond rfl (fun hc2 => ?_) (fun hc2 => ?_)
                  · try simp only [cnd] at hc2
                    refine WX.skip ?_
                    refine Fin.then_normal ?_
                    refine WX.seq ?_
                    refine WX.block ?_
                    refine WX.seq ?_
                    refine WX.region rfl ?_
                    refine WXL.fieldAddr (off' := 3) Met.none rfl Try.underlying25 rfl sz23 rfl ?_
                    first | refine WXL.ld Met.none rfl agg23 ?_ | refine WXL.ldS Met.none rfl agg23 ?_
                    refine WXL.move Met.none rfl ?_
                    first | refine WXL.ix Met.none rfl rfl elem23 sz63 ?_ | refine WXL.ixS Met.none rfl rfl elem23 sz63 ?_
                    first | refine WXL.ldN Met.none rfl agg63 sz63 ?_ (hv := (cellsAt_flat encE_len _ _ (by omega))) | refine WXL.ldNS Met.none rfl agg63 sz63 ?_ (hv := (cellsAt_flat encE_len _ _ (by omega)))
                    refine WXL.alloc (c := [_, _, _, _]) Met.none zero63 rfl (fun b4 => ?_)
                    refine WXL.st (vs := [_, _, _, _]) (c' := [_, _, _, _]) Met.none rfl rfl rfl sz63 ?_
                    refine WXL.nil ?_
                    refine Fin.then_normal ?_
                    refine WX.seq ?_
                    refine WX.region rfl ?_
                    refine WXL.fieldAddr (off' := 0) Met.none rfl Try.underlying63 rfl sz3 rfl ?_
                    first | refine WXL.ld Met.none rfl agg3 ?_ | refine WXL.ldS Met.none rfl agg3 ?_
                    refine WXL.bin Met.none rfl rfl rfl ?_
                    refine WXL.move Met.none rfl ?_
                    refine WXL.split (d := 63) rfl (fun hg63 => ?_) (fun hg63 => ?_)
                    · try simp only [cnd] at hg63
                      refine WXL.miss (j := 3) (d := 63) rfl rfl rfl ?_
                      refine WXL.miss (j := 3) (d := 63) rfl rfl rfl ?_
                      refine WXL.miss (j := 3) (d := 63) rfl rfl rfl ?_
                      refine WXL.miss (j := 3) (d := 63) rfl rfl rfl ?_
                      refine WXL.miss (j := 3) (d := 63) rfl rfl rfl ?_
                      refine WXL.pick_t Met.none rfl rfl ?_
                      refine WXL.move Met.none rfl ?_
                      refine WXL.miss (j := 10) (d := 70) rfl rfl rfl ?_
                      refine WXL.miss (j := 10) (d := 70) rfl rfl rfl ?_
                      refine WXL.miss (j := 10) (d := 70) rfl rfl rfl ?_
                      refine WXL.pick_t Met.none rfl rfl ?_
                      refine WXL.move Met.none rfl ?_
                      refine WXL.miss (j := 15) (d := 75) rfl rfl rfl ?_
                      refine WXL.miss (j := 15) (d := 75) rfl rfl rfl ?_
                      refine WXL.miss (j := 15) (d := 75) rfl rfl rfl ?_
                      refine WXL.miss (j := 15) (d := 75) rfl rfl rfl ?_
                      refine WXL.miss (j := 15) (d := 75) rfl rfl rfl ?_
                      refine WXL.pick_t Met.none rfl rfl ?_
                      refine WXL.move Met.none rfl ?_
                      refine WXL.miss (j := 22) (d := 82) rfl rfl rfl ?_
                      refine WXL.miss (j := 22) (d := 82) rfl rfl rfl ?_
                      refine WXL.miss (j := 22) (d := 82) rfl rfl rfl ?_
                      refine WXL.miss (j := 22) (d := 82) rfl rfl rfl ?_
                      refine WXL.miss (j := 22) (d := 82) rfl rfl rfl ?_
                      refine WXL.pick_t Met.none rfl rfl ?_
                      refine WXL.move Met.none rfl ?_
                      refine WXL.miss (j := 29) (d := 89) rfl rfl rfl ?_
                      refine WXL.miss (j := 29) (d := 89) rfl rfl rfl ?_
                      refine WXL.miss (j := 29) (d := 89) rfl rfl rfl ?_
                      refine WXL.pick_t Met.none rfl rfl ?_
                      refine WXL.move Met.none rfl ?_
                      refine WXL.miss (j := 34) (d := 94) rfl rfl rfl ?_
                      refine WXL.miss (j := 34) (d := 94) rfl rfl rfl ?_
                      refine WXL.miss (j := 34) (d := 94) rfl rfl rfl ?_
                      refine WXL.pick_t Met.none rfl rfl ?_
                      refine WXL.move Met.none rfl ?_
                      refine WXL.miss (j := 39) (d := 99) rfl rfl rfl ?_
                      refine WXL.miss (j := 39) (d := 99) rfl rfl rfl ?_
                      refine WXL.miss (j := 39) (d := 99) rfl rfl rfl ?_
                      refine WXL.pick_t Met.none rfl rfl ?_
                      refine WXL.move Met.none rfl ?_
                      refine WXL.miss (j := 44) (d := 104) rfl rfl rfl ?_
                      refine WXL.miss (j := 44) (d := 104) rfl rfl rfl ?_
                      refine WXL.miss (j := 44) (d := 104) rfl rfl rfl ?_
                      refine WXL.pick_t Met.none rfl rfl ?_
                      refine WXL.nil ?_
                      refine Fin.then_normal ?_
                      refine WX.cond rfl (fun hc3 => ?_) (fun hc3 => nomatch hc3)
                      refine WX.seq ?_
                      refine WX.region rfl ?_
                      refine WXL.assign Met.none rfl ?_
                      refine WXL.nil ?_
                      refine Fin.then_normal ?_
                      refine WX.ret ?_
                      refine Fin.block_ret ?_
                      refine Fin.then_ret ?_
                      refine Fin.loop_ret ?_
                      refine Fin.block_ret ?_
                      refine Fin.then_ret ?_
                      refine Fin.result (O' := O) (.inr rfl) rfl rfl drop_ ⟨_, rfl, ?_, rfl⟩
                      first
                      | exact .inl ⟨by unfold Bad4; omega, rfl⟩
                      | exact .inr (.inl ⟨by unfold Bad4; omega, by unfold Bad1; omega, rfl⟩)
                      | exact .inr (.inr (.inl ⟨hn4, hn1, ⟨k, by omega, by unfold BadEdge; omega⟩, rfl⟩))
                      | exact .inr (.inr (.inr ⟨hn4, hn1, fun ⟨j, h1, h2⟩ => hk.2 j (by omega) h2, rfl⟩))
                    · try simp only [cnd] at hg63
                      refine WXL.fieldAddr (off' := 0) (Met.some rfl rfl rfl) rfl Try.underlying63 rfl sz3 rfl ?_
                      first | refine WXL.ld (Met.some rfl rfl rfl) rfl agg3 ?_ | refine WXL.ldS (Met.some rfl rfl rfl) rfl agg3 ?_
                      refine WXL.fieldAddr (off' := 0) (Met.some rfl rfl rfl) rfl Try.underlying25 rfl sz3 rfl ?_
                      first | refine WXL.ld (Met.some rfl rfl rfl) rfl agg3 ?_ | refine WXL.ldS (Met.some rfl rfl rfl) rfl agg3 ?_
                      refine WXL.bin (Met.some rfl rfl rfl) rfl rfl rfl ?_
                      refine WXL.pick_f Met.none rfl rfl ?_
                      refine WXL.move Met.none rfl ?_
                      refine WXL.split (d := 70) rfl (fun hg70 => ?_) (fun hg70 => ?_)
                      · try simp only [cnd] at hg70
                        refine WXL.miss (j := 10) (d := 70) rfl rfl rfl ?_
                        refine WXL.miss (j := 10) (d := 70) rfl rfl rfl ?_
                        refine WXL.miss (j := 10) (d := 70) rfl rfl rfl ?_
                        refine WXL.pick_t Met.none rfl rfl ?_
                        refine WXL.move Met.none rfl ?_
                        refine WXL.miss (j := 15) (d := 75) rfl rfl rfl ?_
                        refine WXL.miss (j := 15) (d := 75) rfl rfl rfl ?_
                        refine WXL.miss (j := 15) (d := 75) rfl rfl rfl ?_
                        refine WXL.miss (j := 15) (d := 75) rfl rfl rfl ?_
                        refine WXL.miss (j := 15) (d := 75) rfl rfl rfl ?_
                        refine WXL.pick_t Met.none rfl rfl ?_
                        refine WXL.move Met.none rfl ?_
                        refine WXL.miss (j := 22) (d := 82) rfl rfl rfl ?_
                        refine WXL.miss (j := 22) (d := 82) rfl rfl rfl ?_
                        refine WXL.miss (j := 22) (d := 82) rfl rfl rfl ?_
                        refine WXL.miss (j := 22) (d := 82) rfl rfl rfl ?_
                        refine WXL.miss (j := 22) (d := 82) rfl rfl rfl ?_
                        refine WXL.pick_t Met.none rfl rfl ?_
                        refine WXL.move Met.none rfl ?_
                        refine WXL.miss (j := 29) (d := 89) rfl rfl rfl ?_
                        refine WXL.miss (j := 29) (d := 89) rfl rfl rfl ?_
                        refine WXL.miss (j := 29) (d := 89) rfl rfl rfl ?_
                        refine WXL.pick_t Met.none rfl rfl ?_
                        refine WXL.move Met.none rfl ?_
                        refine WXL.miss (j := 34) (d := 94) rfl rfl rfl ?_
                        refine WXL.miss (j := 34) (d := 94) rfl rfl rfl ?_
                        refine WXL.miss (j := 34) (d := 94) rfl rfl rfl ?_
                        refine WXL.pick_t Met.none rfl rfl ?_
                        refine WXL.move Met.none rfl ?_
                        refine WXL.miss (j := 39) (d := 99) rfl rfl rfl ?_
                        refine WXL.miss (j := 39) (d := 99) rfl rfl rfl ?_
                        refine WXL.miss (j := 39) (d := 99) rfl rfl rfl ?_
                        refine WXL.pick_t Met.none rfl rfl ?_
                        refine WXL.move Met.none rfl ?_
                        refine WXL.miss (j := 44) (d := 104) rfl rfl rfl ?_
                        refine WXL.miss (j := 44) (d := 104) rfl rfl rfl ?_
                        refine WXL.miss (j := 44) (d := 104) rfl rfl rfl ?_
                        refine WXL.pick_t Met.none rfl rfl ?_
                        refine WXL.nil ?_
                        refine Fin.then_normal ?_
                        refine WX.cond rfl (fun hc3 => ?_) (fun hc3 => nomatch hc3)
                        refine WX.seq ?_
                        refine WX.region rfl ?_
                        refine WXL.assign Met.none rfl ?_
                        refine WXL.nil ?_
                        refine Fin.then_normal ?_
                        refine WX.ret ?_
                        refine Fin.block_ret ?_
                        refine Fin.then_ret ?_
                        refine Fin.loop_ret ?_
                        refine Fin.block_ret ?_
                        refine Fin.then_ret ?_
                        refine Fin.result (O' := O) (.inr rfl) rfl rfl drop_ ⟨_, rfl, ?_, rfl⟩
                        first
                        | exact .inl ⟨by unfold Bad4; omega, rfl⟩
                        | exact .inr (.inl ⟨by unfold Bad4; omega, by unfold Bad1; omega, rfl⟩)
                        | exact .inr (.inr (.inl ⟨hn4, hn1, ⟨k, by omega, by unfold BadEdge; omega⟩, rfl⟩))
                        | exact .inr (.inr (.inr ⟨hn4, hn1, fun ⟨j, h1, h2⟩ => hk.2 j (by omega) h2, rfl⟩))
                      · try simp only [cnd] at hg70
                        refine WXL.fieldAddr (off' := 1) (Met.some rfl rfl rfl) rfl Try.underlying63 rfl sz3 rfl ?_
                        first | refine WXL.ld (Met.some rfl rfl rfl) rfl agg3 ?_ | refine WXL.ldS (Met.some rfl rfl rfl) rfl agg3 ?_
                        refine WXL.bin (Met.some rfl rfl rfl) rfl rfl rfl ?_
                        refine WXL.pick_f Met.none rfl rfl ?_
                        refine WXL.move Met.none rfl ?_
                        refine WXL.split (d := 75) rfl (fun hg75 => ?_) (fun hg75 => ?_)
                        · try simp only [cnd] at hg75
                          refine WXL.miss (j := 15) (d := 75) rfl rfl rfl ?_
                          refine WXL.miss (j := 15) (d := 75) rfl rfl rfl ?_
                          refine WXL.miss (j := 15) (d := 75) rfl rfl rfl ?_
                          refine WXL.miss (j := 15) (d := 75) rfl rfl rfl ?_
                          refine WXL.miss (j := 15) (d := 75) rfl rfl rfl ?_
                          refine WXL.pick_t Met.none rfl rfl ?_
                          refine WXL.move Met.none rfl ?_
                          refine WXL.miss (j := 22) (d := 82) rfl rfl rfl ?_
                          refine WXL.miss (j := 22) (d := 82) rfl rfl rfl ?_
                          refine WXL.miss (j := 22) (d := 82) rfl rfl rfl ?_
                          refine WXL.miss (j := 22) (d := 82) rfl rfl rfl ?_
                          refine WXL.miss (j := 22) (d := 82) rfl rfl rfl ?_
                          refine WXL.pick_t Met.none rfl rfl ?_
                          refine WXL.move Met.none rfl ?_
                          refine WXL.miss (j := 29) (d := 89) rfl rfl rfl ?_
                          refine WXL.miss (j := 29) (d := 89) rfl rfl rfl ?_
                          refine WXL.miss (j := 29) (d := 89) rfl rfl rfl ?_
                          refine WXL.pick_t Met.none rfl rfl ?_
                          refine WXL.move Met.none rfl ?_
                          refine WXL.miss (j := 34) (d := 94) rfl rfl rfl ?_
                          refine WXL.miss (j := 34) (d := 94) rfl rfl rfl ?_
                          refine WXL.miss (j := 34) (d := 94) rfl rfl rfl ?_
                          refine WXL.pick_t Met.none rfl rfl ?_
                          refine WXL.move Met.none rfl ?_
                          refine WXL.miss (j := 39) (d := 99) rfl rfl rfl ?_
                          refine WXL.miss (j := 39) (d := 99) rfl rfl rfl ?_
                          refine WXL.miss (j := 39) (d := 99) rfl rfl rfl ?_
                          refine WXL.pick_t Met.none rfl rfl ?_
                          refine WXL.move Met.none rfl ?_
                          refine WXL.miss (j := 44) (d := 104) rfl rfl rfl ?_
                          refine WXL.miss (j := 44) (d := 104) rfl rfl rfl ?_
                          refine WXL.miss (j := 44) (d := 104) rfl rfl rfl ?_
                          refine WXL.pick_t Met.none rfl rfl ?_
                          refine WXL.nil ?_
                          refine Fin.then_normal ?_
                          refine WX.cond rfl (fun hc3 => ?_) (fun hc3 => nomatch hc3)
                          refine WX.seq ?_
                          refine WX.region rfl ?_
                          refine WXL.assign Met.none rfl ?_
                          refine WXL.nil ?_
                          refine Fin.then_normal ?_
                          refine WX.ret ?_
                          refine Fin.block_ret ?_
                          refine Fin.then_ret ?_
                          refine Fin.loop_ret ?_
                          refine Fin.block_ret ?_
                          refine Fin.then_ret ?_
                          refine Fin.result (O' := O) (.inr rfl) rfl rfl drop_ ⟨_, rfl, ?_, rfl⟩
                          first
                          | exact .inl ⟨by unfold Bad4; omega, rfl⟩
                          | exact .inr (.inl ⟨by unfold Bad4; omega, by unfold Bad1; omega, rfl⟩)
                          | exact .inr (.inr (.inl ⟨hn4, hn1, ⟨k, by omega, by unfold BadEdge; omega⟩, rfl⟩))
                          | exact .inr (.inr (.inr ⟨hn4, hn1, fun ⟨j, h1, h2⟩ => hk.2 j (by omega) h2, rfl⟩))
                        · try simp only [cnd] at hg75
                          refine WXL.fieldAddr (off' := 1) (Met.some rfl rfl rfl) rfl Try.underlying63 rfl sz3 rfl ?_
                          first | refine WXL.ld (Met.some rfl rfl rfl) rfl agg3 ?_ | refine WXL.ldS (Met.some rfl rfl rfl) rfl agg3 ?_
                          refine WXL.fieldAddr (off' := 0) (Met.some rfl rfl rfl) rfl Try.underlying25 rfl sz3 rfl ?_
                          first | refine WXL.ld (Met.some rfl rfl rfl) rfl agg3 ?_ | refine WXL.ldS (Met.some rfl rfl rfl) rfl agg3 ?_
                          refine WXL.bin (Met.some rfl rfl rfl) rfl rfl rfl ?_
                          refine WXL.pick_f Met.none rfl rfl ?_
                          refine WXL.move Met.none rfl ?_
                          refine WXL.split (d := 82) rfl (fun hg82 => ?_) (fun hg82 => ?_)
                          · try simp only [cnd] at hg82
                            refine WXL.miss (j := 22) (d := 82) rfl rfl rfl ?_
                            refine WXL.miss (j := 22) (d := 82) rfl rfl rfl ?_
                            refine WXL.miss (j := 22) (d := 82) rfl rfl rfl ?_
                            refine WXL.miss (j := 22) (d := 82) rfl rfl rfl ?_
                            refine WXL.miss (j := 22) (d := 82) rfl rfl rfl ?_
                            refine WXL.pick_t Met.none rfl rfl ?_
                            refine WXL.move Met.none rfl ?_
                            refine WXL.miss (j := 29) (d := 89) rfl rfl rfl ?_
                            refine WXL.miss (j := 29) (d := 89) rfl rfl rfl ?_
                            refine WXL.miss (j := 29) (d := 89) rfl rfl rfl ?_
                            refine WXL.pick_t Met.none rfl rfl ?_
                            refine WXL.move Met.none rfl ?_
                            refine WXL.miss (j := 34) (d := 94) rfl rfl rfl ?_
                            refine WXL.miss (j := 34) (d := 94) rfl rfl rfl ?_
                            refine WXL.miss (j := 34) (d := 94) rfl rfl rfl ?_
                            refine WXL.pick_t Met.none rfl rfl ?_
                            refine WXL.move Met.none rfl ?_
                            refine WXL.miss (j := 39) (d := 99) rfl rfl rfl ?_
                            refine WXL.miss (j := 39) (d := 99) rfl rfl rfl ?_
                            refine WXL.miss (j := 39) (d := 99) rfl rfl rfl ?_
                            refine WXL.pick_t Met.none rfl rfl ?_
                            refine WXL.move Met.none rfl ?_
                            refine WXL.miss (j := 44) (d := 104) rfl rfl rfl ?_
                            refine WXL.miss (j := 44) (d := 104) rfl rfl rfl ?_
                            refine WXL.miss (j := 44) (d := 104) rfl rfl rfl ?_
                            refine WXL.pick_t Met.none rfl rfl ?_
                            refine WXL.nil ?_
                            refine Fin.then_normal ?_
                            refine WX.cond rfl (fun hc3 => ?_) (fun hc3 => nomatch hc3)
                            refine WX.seq ?_
                            refine WX.region rfl ?_
                            refine WXL.assign Met.none rfl ?_
                            refine WXL.nil ?_
                            refine Fin.then_normal ?_
                            refine WX.ret ?_
                            refine Fin.block_ret ?_
                            refine Fin.then_ret ?_
                            refine Fin.loop_ret ?_
                            refine Fin.block_ret ?_
                            refine Fin.then_ret ?_
                            refine Fin.result (O' := O) (.inr rfl) rfl rfl drop_ ⟨_, rfl, ?_, rfl⟩
                            first
                            | exact .inl ⟨by unfold Bad4; omega, rfl⟩
                            | exact .inr (.inl ⟨by unfold Bad4; omega, by unfold Bad1; omega, rfl⟩)
                            | exact .inr (.inr (.inl ⟨hn4, hn1, ⟨k, by omega, by unfold BadEdge; omega⟩, rfl⟩))
                            | exact .inr (.inr (.inr ⟨hn4, hn1, fun ⟨j, h1, h2⟩ => hk.2 j (by omega) h2, rfl⟩))
                          · try simp only [cnd] at hg82
                            refine WXL.fieldAddr (off' := 0) (Met.some rfl rfl rfl) rfl Try.underlying63 rfl sz3 rfl ?_
                            first | refine WXL.ld (Met.some rfl rfl rfl) rfl agg3 ?_ | refine WXL.ldS (Met.some rfl rfl rfl) rfl agg3 ?_
                            refine WXL.fieldAddr (off' := 1) (Met.some rfl rfl rfl) rfl Try.underlying63 rfl sz3 rfl ?_
                            first | refine WXL.ld (Met.some rfl rfl rfl) rfl agg3 ?_ | refine WXL.ldS (Met.some rfl rfl rfl) rfl agg3 ?_
                            refine WXL.bin (Met.some rfl rfl rfl) rfl rfl rfl ?_
                            refine WXL.pick_f Met.none rfl rfl ?_
                            refine WXL.move Met.none rfl ?_
                            refine WXL.split (d := 89) rfl (fun hg89 => ?_) (fun hg89 => ?_)
                            · try simp only [cnd] at hg89
                              refine WXL.miss (j := 29) (d := 89) rfl rfl rfl ?_
                              refine WXL.miss (j := 29) (d := 89) rfl rfl rfl ?_
                              refine WXL.miss (j := 29) (d := 89) rfl rfl rfl ?_
                              refine WXL.pick_t Met.none rfl rfl ?_
                              refine WXL.move Met.none rfl ?_
                              refine WXL.miss (j := 34) (d := 94) rfl rfl rfl ?_
                              refine WXL.miss (j := 34) (d := 94) rfl rfl rfl ?_
                              refine WXL.miss (j := 34) (d := 94) rfl rfl rfl ?_
                              refine WXL.pick_t Met.none rfl rfl ?_
                              refine WXL.move Met.none rfl ?_
                              refine WXL.miss (j := 39) (d := 99) rfl rfl rfl ?_
                              refine WXL.miss (j := 39) (d := 99) rfl rfl rfl ?_
                              refine WXL.miss (j := 39) (d := 99) rfl rfl rfl ?_
                              refine WXL.pick_t Met.none rfl rfl ?_
                              refine WXL.move Met.none rfl ?_
                              refine WXL.miss (j := 44) (d := 104) rfl rfl rfl ?_
                              refine WXL.miss (j := 44) (d := 104) rfl rfl rfl ?_
                              refine WXL.miss (j := 44) (d := 104) rfl rfl rfl ?_
                              refine WXL.pick_t Met.none rfl rfl ?_
                              refine WXL.nil ?_
                              refine Fin.then_normal ?_
                              refine WX.cond rfl (fun hc3 => ?_) (fun hc3 => nomatch hc3)
                              refine WX.seq ?_
                              refine WX.region rfl ?_
                              refine WXL.assign Met.none rfl ?_
                              refine WXL.nil ?_
                              refine Fin.then_normal ?_
                              refine WX.ret ?_
                              refine Fin.block_ret ?_
                              refine Fin.then_ret ?_
                              refine Fin.loop_ret ?_
                              refine Fin.block_ret ?_
                              refine Fin.then_ret ?_
                              refine Fin.result (O' := O) (.inr rfl) rfl rfl drop_ ⟨_, rfl, ?_, rfl⟩
                              first
                              | exact .inl ⟨by unfold Bad4; omega, rfl⟩
                              | exact .inr (.inl ⟨by unfold Bad4; omega, by unfold Bad1; omega, rfl⟩)
                              | exact .inr (.inr (.inl ⟨hn4, hn1, ⟨k, by omega, by unfold BadEdge; omega⟩, rfl⟩))
                              | exact .inr (.inr (.inr ⟨hn4, hn1, fun ⟨j, h1, h2⟩ => hk.2 j (by omega) h2, rfl⟩))
                            · try simp only [cnd] at hg89
                              refine WXL.fieldAddr (off' := 2) (Met.some rfl rfl rfl) rfl Try.underlying63 rfl sz3 rfl ?_
                              first | refine WXL.ld (Met.some rfl rfl rfl) rfl agg3 ?_ | refine WXL.ldS (Met.some rfl rfl rfl) rfl agg3 ?_
                              refine WXL.bin (Met.some rfl rfl rfl) rfl rfl rfl ?_
                              refine WXL.pick_f Met.none rfl rfl ?_
                              refine WXL.move Met.none rfl ?_
                              refine WXL.split (d := 94) rfl (fun hg94 => ?_) (fun hg94 => ?_)
                              · try simp only [cnd] at hg94
                                refine WXL.miss (j := 34) (d := 94) rfl rfl rfl ?_
                                refine WXL.miss (j := 34) (d := 94) rfl rfl rfl ?_
                                refine WXL.miss (j := 34) (d := 94) rfl rfl rfl ?_
                                refine WXL.pick_t Met.none rfl rfl ?_
                                refine WXL.move Met.none rfl ?_
                                refine WXL.miss (j := 39) (d := 99) rfl rfl rfl ?_
                                refine WXL.miss (j := 39) (d := 99) rfl rfl rfl ?_
                                refine WXL.miss (j := 39) (d := 99) rfl rfl rfl ?_
                                refine WXL.pick_t Met.none rfl rfl ?_
                                refine WXL.move Met.none rfl ?_
                                refine WXL.miss (j := 44) (d := 104) rfl rfl rfl ?_
                                refine WXL.miss (j := 44) (d := 104) rfl rfl rfl ?_
                                refine WXL.miss (j := 44) (d := 104) rfl rfl rfl ?_
                                refine WXL.pick_t Met.none rfl rfl ?_
                                refine WXL.nil ?_
                                refine Fin.then_normal ?_
                                refine WX.cond rfl (fun hc3 => ?_) (fun hc3 => nomatch hc3)
                                refine WX.seq ?_
                                refine WX.region rfl ?_
                                refine WXL.assign Met.none rfl ?_
                                refine WXL.nil ?_
                                refine Fin.then_normal ?_
                                refine WX.ret ?_
                                refine Fin.block_ret ?_
                                refine Fin.then_ret ?_
                                refine Fin.loop_ret ?_
                                refine Fin.block_ret ?_
                                refine Fin.then_ret ?_
                                refine Fin.result (O' := O) (.inr rfl) rfl rfl drop_ ⟨_, rfl, ?_, rfl⟩
                                first
                                | exact .inl ⟨by unfold Bad4; omega, rfl⟩
                                | exact .inr (.inl ⟨by unfold Bad4; omega, by unfold Bad1; omega, rfl⟩)
                                | exact .inr (.inr (.inl ⟨hn4, hn1, ⟨k, by omega, by unfold BadEdge; omega⟩, rfl⟩))
                                | exact .inr (.inr (.inr ⟨hn4, hn1, fun ⟨j, h1, h2⟩ => hk.2 j (by omega) h2, rfl⟩))
                              · try simp only [cnd] at hg94
                                refine WXL.fieldAddr (off' := 2) (Met.some rfl rfl rfl) rfl Try.underlying63 rfl sz3 rfl ?_
                                first | refine WXL.ld (Met.some rfl rfl rfl) rfl agg3 ?_ | refine WXL.ldS (Met.some rfl rfl rfl) rfl agg3 ?_
                                refine WXL.bin (Met.some rfl rfl rfl) rfl rfl rfl ?_
                                refine WXL.pick_f Met.none rfl rfl ?_
                                refine WXL.move Met.none rfl ?_
                                refine WXL.split (d := 99) rfl (fun hg99 => ?_) (fun hg99 => ?_)
                                · try simp only [cnd] at hg99
                                  refine WXL.miss (j := 39) (d := 99) rfl rfl rfl ?_
                                  refine WXL.miss (j := 39) (d := 99) rfl rfl rfl ?_
                                  refine WXL.miss (j := 39) (d := 99) rfl rfl rfl ?_
                                  refine WXL.pick_t Met.none rfl rfl ?_
                                  refine WXL.move Met.none rfl ?_
                                  refine WXL.miss (j := 44) (d := 104) rfl rfl rfl ?_
                                  refine WXL.miss (j := 44) (d := 104) rfl rfl rfl ?_
                                  refine WXL.miss (j := 44) (d := 104) rfl rfl rfl ?_
                                  refine WXL.pick_t Met.none rfl rfl ?_
                                  refine WXL.nil ?_
                                  refine Fin.then_normal ?_
                                  refine WX.cond rfl (fun hc3 => ?_) (fun hc3 => nomatch hc3)
                                  refine WX.seq ?_
                                  refine WX.region rfl ?_
                                  refine WXL.assign Met.none rfl ?_
                                  refine WXL.nil ?_
                                  refine Fin.then_normal ?_
                                  refine WX.ret ?_
                                  refine Fin.block_ret ?_
                                  refine Fin.then_ret ?_
                                  refine Fin.loop_ret ?_
                                  refine Fin.block_ret ?_
                                  refine Fin.then_ret ?_
                                  refine Fin.result (O' := O) (.inr rfl) rfl rfl drop_ ⟨_, rfl, ?_, rfl⟩
                                  first
                                  | exact .inl ⟨by unfold Bad4; omega, rfl⟩
                                  | exact .inr (.inl ⟨by unfold Bad4; omega, by unfold Bad1; omega, rfl⟩)
                                  | exact .inr (.inr (.inl ⟨hn4, hn1, ⟨k, by omega, by unfold BadEdge; omega⟩, rfl⟩))
                                  | exact .inr (.inr (.inr ⟨hn4, hn1, fun ⟨j, h1, h2⟩ => hk.2 j (by omega) h2, rfl⟩))
                                · try simp only [cnd] at hg99
                                  refine WXL.fieldAddr (off' := 3) (Met.some rfl rfl rfl) rfl Try.underlying63 rfl sz3 rfl ?_
                                  first | refine WXL.ld (Met.some rfl rfl rfl) rfl agg3 ?_ | refine WXL.ldS (Met.some rfl rfl rfl) rfl agg3 ?_
                                  refine WXL.bin (Met.some rfl rfl rfl) rfl rfl rfl ?_
                                  refine WXL.pick_f Met.none rfl rfl ?_
                                  refine WXL.move Met.none rfl ?_
                                  refine WXL.split (d := 104) rfl (fun hg104 => ?_) (fun hg104 => ?_)
                                  · try simp only [cnd] at hg104
                                    refine WXL.miss (j := 44) (d := 104) rfl rfl rfl ?_
                                    refine WXL.miss (j := 44) (d := 104) rfl rfl rfl ?_
                                    refine WXL.miss (j := 44) (d := 104) rfl rfl rfl ?_
                                    refine WXL.pick_t Met.none rfl rfl ?_
                                    refine WXL.nil ?_
                                    refine Fin.then_normal ?_
                                    refine WX.cond rfl (fun hc3 => ?_) (fun hc3 => nomatch hc3)
                                    refine WX.seq ?_
                                    refine WX.region rfl ?_
                                    refine WXL.assign Met.none rfl ?_
                                    refine WXL.nil ?_
                                    refine Fin.then_normal ?_
                                    refine WX.ret ?_
                                    refine Fin.block_ret ?_
                                    refine Fin.then_ret ?_
                                    refine Fin.loop_ret ?_
                                    refine Fin.block_ret ?_
                                    refine Fin.then_ret ?_
                                    refine Fin.result (O' := O) (.inr rfl) rfl rfl drop_ ⟨_, rfl, ?_, rfl⟩
                                    first
                                    | exact .inl ⟨by unfold Bad4; omega, rfl⟩
                                    | exact .inr (.inl ⟨by unfold Bad4; omega, by unfold Bad1; omega, rfl⟩)
                                    | exact .inr (.inr (.inl ⟨hn4, hn1, ⟨k, by omega, by unfold BadEdge; omega⟩, rfl⟩))
                                    | exact .inr (.inr (.inr ⟨hn4, hn1, fun ⟨j, h1, h2⟩ => hk.2 j (by omega) h2, rfl⟩))
                                  · try simp only [cnd] at hg104
                                    refine WXL.fieldAddr (off' := 3) (Met.some rfl rfl rfl) rfl Try.underlying63 rfl sz3 rfl ?_
                                    first | refine WXL.ld (Met.some rfl rfl rfl) rfl agg3 ?_ | refine WXL.ldS (Met.some rfl rfl rfl) rfl agg3 ?_
                                    refine WXL.bin (Met.some rfl rfl rfl) rfl rfl rfl ?_
                                    refine WXL.pick_f Met.none rfl rfl ?_
                                    refine WXL.nil ?_
                                    refine Fin.then_normal ?_
                                    refine WX.cond rfl (fun hc3 => ?_) (fun hc3 => ?_)
                                    · try simp only [cnd] at hc3
                                      refine WX.seq ?_
                                      refine WX.region rfl ?_
                                      refine WXL.assign Met.none rfl ?_
                                      refine WXL.nil ?_
                                      refine Fin.then_normal ?_
                                      refine WX.ret ?_
                                      refine Fin.block_ret ?_
                                      refine Fin.then_ret ?_
                                      refine Fin.loop_ret ?_
                                      refine Fin.block_ret ?_
                                      refine Fin.then_ret ?_
                                      refine Fin.result (O' := O) (.inr rfl) rfl rfl drop_ ⟨_, rfl, ?_, rfl⟩
                                      first
                                      | exact .inl ⟨by unfold Bad4; omega, rfl⟩
                                      | exact .inr (.inl ⟨by unfold Bad4; omega, by unfold Bad1; omega, rfl⟩)
                                      | exact .inr (.inr (.inl ⟨hn4, hn1, ⟨k, by omega, by unfold BadEdge; omega⟩, rfl⟩))
                                      | exact .inr (.inr (.inr ⟨hn4, hn1, fun ⟨j, h1, h2⟩ => hk.2 j (by omega) h2, rfl⟩))
                                    · try simp only [cnd] at hc3
                                      refine WX.skip ?_
                                      refine Fin.block_normal ?_
                                      refine Fin.then_normal ?_
                                      refine WX.region rfl ?_
                                      refine WXL.move Met.none rfl ?_
                                      refine WXL.bin Met.none rfl rfl bvA ?_
                                      refine WXL.assign Met.none rfl ?_
                                      refine WXL.nil ?_
                                      refine Fin.loop_next (k + 1) ⟨by omega, fun j hj => ?_⟩ (by omega) (fun s hs => hs.tl [1] 2)
                                      rcases Nat.lt_or_ge j k with q | q
                                      · exact hk.2 j q
                                      · have e : j = k := by omega
                                        subst e
                                        unfold BadEdge
                                        omega
                  · try simp only [cnd] at hc2
                    refine WX.exit ?_
                    refine Fin.then_exit ?_
                    refine Fin.loop_exit ?_
                    refine Fin.block_hit rfl ?_
                    refine Fin.then_normal ?_
                    refine WX.seq ?_
                    refine WX.region rfl ?_
                    refine WXL.assign Met.none rfl ?_
                    refine WXL.nil ?_
                    refine Fin.then_normal ?_
                    refine WX.ret ?_
                    refine Fin.result (O' := O) (.inr rfl) rfl rfl drop_ ⟨_, rfl, ?_, rfl⟩
                    first
                    | exact .inl ⟨by unfold Bad4; omega, rfl⟩
                    | exact .inr (.inl ⟨by unfold Bad4; omega, by unfold Bad1; omega, rfl⟩)
                    | exact .inr (.inr (.inl ⟨hn4, hn1, ⟨k, by omega, by unfold BadEdge; omega⟩, rfl⟩))
                    | exact .inr (.inr (.inr ⟨hn4, hn1, fun ⟨j, h1, h2⟩ => hk.2 j (by omega) h2, rfl⟩))

end Go.Proofs.Ytjmklialkjncaaa.Eng

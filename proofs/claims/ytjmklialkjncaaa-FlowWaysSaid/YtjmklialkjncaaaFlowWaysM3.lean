/- What a valid network is. Own work; no condition. | The program's check of a network. Own work; no condition. | The rest of an edge, and how a flow is changed. Own work; no condition. | The search for a way, in plain lists. Own work; no condition. | The reference's search computes the plain one. Own work; no condition. | The program's lists of arcs. Own work; no condition. | The program's search computes the plain one. Own work; no condition. | The program's search, walked. Own work; no condition. | Ways back to the source, in plain lists. Own work; no condition. | A flow is changed along a way, in plain lists. Own work; no condition. | The value of a flow grows along a way. Own work; no condition. | What both maxima come to, in plain lists. Own work; no condition. | What a round of the maxima keeps; the reference's maximum, walked. Own work; no condition. -/
import Derived.Test.YtjmklialkjncaaaFlowWaysM1
import Derived.Test.YtjmklialkjncaaaFlowWaysM2
set_option linter.unusedVariables false
set_option linter.unusedSimpArgs false
namespace Go.Proofs.Ytjmklialkjncaaa.Eng

def BadEdge (n : Net4) (e : E4) : Prop := e.a < 0 ∨ n.nodes ≤ e.a ∨ e.b < 0 ∨ n.nodes ≤ e.b ∨ e.a = e.b ∨ e.cap < 0 ∨ 1099511627776 < e.cap ∨ e.back < 0 ∨ 1099511627776 < e.back
def Bad4 (n : Net4) : Prop := 1024 < n.nodes ∨ 8192 < n.edges.length
def Bad1 (n : Net4) : Prop := n.nodes < 2 ∨ n.source < 0 ∨ n.nodes ≤ n.source ∨ n.sink < 0 ∨ n.nodes ≤ n.sink ∨ n.source = n.sink
def Bad5 (n : Net4) : Prop := ∃ k, k < n.edges.length ∧ BadEdge n (nth n.edges k)
/-- What is wrong with a network: the number of its error. -/
def Wrong (n : Net4) (k : Int) : Prop := (Bad4 n ∧ k = 4) ∨ (¬ Bad4 n ∧ Bad1 n ∧ k = 1) ∨ (¬ Bad4 n ∧ ¬ Bad1 n ∧ Bad5 n ∧ k = 5) ∨ (¬ Bad4 n ∧ ¬ Bad1 n ∧ ¬ Bad5 n ∧ k = 0)

theorem Wrong.uniq {n : Net4} {k k' : Int} (h : Wrong n k) (h' : Wrong n k') : k = k' := by
  unfold Wrong at h h'
  by_cases h4 : Bad4 n
  · rcases h with ⟨_, h⟩ | ⟨a, _⟩ | ⟨a, _⟩ | ⟨a, _⟩ <;> rcases h' with ⟨_, h'⟩ | ⟨b, _⟩ | ⟨b, _⟩ | ⟨b, _⟩ <;> first | omega | exact absurd h4 (by assumption)
  · by_cases h1 : Bad1 n
    · rcases h with ⟨a, h⟩ | ⟨_, _, h⟩ | ⟨_, a, _⟩ | ⟨_, a, _⟩ <;> rcases h' with ⟨b, h'⟩ | ⟨_, _, h'⟩ | ⟨_, b, _⟩ | ⟨_, b, _⟩ <;> first | omega | contradiction
    · by_cases h5 : Bad5 n
      · rcases h with ⟨a, h⟩ | ⟨_, a, h⟩ | ⟨_, _, _, h⟩ | ⟨_, _, a, _⟩ <;> rcases h' with ⟨b, h'⟩ | ⟨_, b, h'⟩ | ⟨_, _, _, h'⟩ | ⟨_, _, b, _⟩ <;> first | omega | contradiction
      · rcases h with ⟨a, h⟩ | ⟨_, a, h⟩ | ⟨_, _, a, _⟩ | ⟨_, _, _, h⟩ <;> rcases h' with ⟨b, h'⟩ | ⟨_, b, h'⟩ | ⟨_, _, b, _⟩ | ⟨_, _, _, h'⟩ <;> first | omega | contradiction

theorem refValid_ok (O : Objs) (n : Net4) (a : Option Addr) (c : Nat) (hl : Edges O n a c) (hlen : n.edges.length ≤ 1000000) :
    Spec Try.prog false 14 #[netV n a c] O fun v O' => ∃ k, v = I k ∧ Wrong n k ∧ O' = O := by
  refine Spec.enter (args := [_]) (m := 109) Try.func14 rfl rfl (by decide +kernel) fun h0 => ?_
  refine WX.seq ?_
  refine WX.region rfl ?_
  refine WXL.box (c := [_, _, _, _]) Met.none rfl rfl rfl (fun b1 => ?_)
  refine WXL.assign Met.none rfl ?_
  refine WXL.nil ?_
  refine Fin.then_normal ?_
  refine WX.seq ?_
  refine WX.seq ?_
  refine WX.region rfl ?_
  refine WXL.fieldAddr (off' := 0) Met.none rfl Try.underlying25 rfl sz3 rfl ?_
  first | refine WXL.ld Met.none rfl agg3 ?_ | refine WXL.ldS Met.none rfl agg3 ?_
  refine WXL.bin Met.none rfl rfl rfl ?_
  refine WXL.move Met.none rfl ?_
  refine WXL.split (d := 8) rfl (fun hg8 => ?_) (fun hg8 => ?_)
  · try simp only [cnd] at hg8
    refine WXL.miss (j := 3) (d := 8) rfl rfl rfl ?_
    refine WXL.miss (j := 3) (d := 8) rfl rfl rfl ?_
    refine WXL.miss (j := 3) (d := 8) rfl rfl rfl ?_
    refine WXL.miss (j := 3) (d := 8) rfl rfl rfl ?_
    refine WXL.pick_t Met.none rfl rfl ?_
    refine WXL.nil ?_
    refine Fin.then_normal ?_
    refine WX.cond rfl (fun hc0 => ?_) (fun hc0 => nomatch hc0)
    refine WX.seq ?_
    refine WX.region rfl ?_
    refine WXL.assign Met.none rfl ?_
    refine WXL.nil ?_
    refine Fin.then_normal ?_
    refine WX.ret ?_
    refine Fin.then_ret ?_
    refine Fin.result (O' := O) (.inr rfl) rfl rfl drop_ ⟨_, rfl, ?_, rfl⟩
    first
    | exact .inl ⟨by unfold Bad4; omega, rfl⟩
    | exact .inr (.inl ⟨by unfold Bad4; omega, by unfold Bad1; omega, rfl⟩)
    | exact .inr (.inr (.inl ⟨hn4, hn1, ⟨k, by omega, by unfold BadEdge; omega⟩, rfl⟩))
    | exact .inr (.inr (.inr ⟨hn4, hn1, fun ⟨j, h1, h2⟩ => hk.2 j (by omega) h2, rfl⟩))
  · try simp only [cnd] at hg8
    refine WXL.fieldAddr (off' := 3) (Met.some rfl rfl rfl) rfl Try.underlying25 rfl sz23 rfl ?_
    first | refine WXL.ld (Met.some rfl rfl rfl) rfl agg23 ?_ | refine WXL.ldS (Met.some rfl rfl rfl) rfl agg23 ?_
    refine WXL.len (Met.some rfl rfl rfl) rfl Try.underlying23 ?_
    refine WXL.bin (Met.some rfl rfl rfl) rfl rfl rfl ?_
    refine WXL.pick_f Met.none rfl rfl ?_
    refine WXL.nil ?_
    refine Fin.then_normal ?_
    refine WX.cond rfl (fun hc0 => ?_) (fun hc0 => ?_)
    · try simp only [cnd] at hc0
      refine WX.seq ?_
      refine WX.region rfl ?_
      refine WXL.assign Met.none rfl ?_
      refine WXL.nil ?_
      refine Fin.then_normal ?_
      refine WX.ret ?_
      refine Fin.then_ret ?_
      refine Fin.result (O' := O) (.inr rfl) rfl rfl drop_ ⟨_, rfl, ?_, rfl⟩
      first
      | exact .inl ⟨by unfold Bad4; omega, rfl⟩
      | exact .inr (.inl ⟨by unfold Bad4; omega, by unfold Bad1; omega, rfl⟩)
      | exact .inr (.inr (.inl ⟨hn4, hn1, ⟨k, by omega, by unfold BadEdge; omega⟩, rfl⟩))
      | exact .inr (.inr (.inr ⟨hn4, hn1, fun ⟨j, h1, h2⟩ => hk.2 j (by omega) h2, rfl⟩))
    · try simp only [cnd] at hc0
      refine WX.skip ?_
      refine Fin.then_normal ?_
      refine WX.seq ?_
      refine WX.seq ?_
      refine WX.region rfl ?_
      refine WXL.fieldAddr (off' := 0) Met.none rfl Try.underlying25 rfl sz3 rfl ?_
      first | refine WXL.ld Met.none rfl agg3 ?_ | refine WXL.ldS Met.none rfl agg3 ?_
      refine WXL.bin Met.none rfl rfl rfl ?_
      refine WXL.move Met.none rfl ?_
      refine WXL.split (d := 17) rfl (fun hg17 => ?_) (fun hg17 => ?_)
      · try simp only [cnd] at hg17
        refine WXL.miss (j := 3) (d := 17) rfl rfl rfl ?_
        refine WXL.miss (j := 3) (d := 17) rfl rfl rfl ?_
        refine WXL.miss (j := 3) (d := 17) rfl rfl rfl ?_
        refine WXL.pick_t Met.none rfl rfl ?_
        refine WXL.move Met.none rfl ?_
        refine WXL.miss (j := 8) (d := 22) rfl rfl rfl ?_
        refine WXL.miss (j := 8) (d := 22) rfl rfl rfl ?_
        refine WXL.miss (j := 8) (d := 22) rfl rfl rfl ?_
        refine WXL.miss (j := 8) (d := 22) rfl rfl rfl ?_
        refine WXL.miss (j := 8) (d := 22) rfl rfl rfl ?_
        refine WXL.pick_t Met.none rfl rfl ?_
        refine WXL.move Met.none rfl ?_
        refine WXL.miss (j := 15) (d := 29) rfl rfl rfl ?_
        refine WXL.miss (j := 15) (d := 29) rfl rfl rfl ?_
        refine WXL.miss (j := 15) (d := 29) rfl rfl rfl ?_
        refine WXL.pick_t Met.none rfl rfl ?_
        refine WXL.move Met.none rfl ?_
        refine WXL.miss (j := 20) (d := 34) rfl rfl rfl ?_
        refine WXL.miss (j := 20) (d := 34) rfl rfl rfl ?_
        refine WXL.miss (j := 20) (d := 34) rfl rfl rfl ?_
        refine WXL.miss (j := 20) (d := 34) rfl rfl rfl ?_
        refine WXL.miss (j := 20) (d := 34) rfl rfl rfl ?_
        refine WXL.pick_t Met.none rfl rfl ?_
        refine WXL.move Met.none rfl ?_
        refine WXL.miss (j := 27) (d := 41) rfl rfl rfl ?_
        refine WXL.miss (j := 27) (d := 41) rfl rfl rfl ?_
        refine WXL.miss (j := 27) (d := 41) rfl rfl rfl ?_
        refine WXL.miss (j := 27) (d := 41) rfl rfl rfl ?_
        refine WXL.miss (j := 27) (d := 41) rfl rfl rfl ?_
        refine WXL.pick_t Met.none rfl rfl ?_
        refine WXL.nil ?_
        refine Fin.then_normal ?_
        refine WX.cond rfl (fun hc1 => ?_) (fun hc1 => nomatch hc1)
        refine WX.seq ?_
        refine WX.region rfl ?_
        refine WXL.assign Met.none rfl ?_
        refine WXL.nil ?_
        refine Fin.then_normal ?_
        refine WX.ret ?_
        refine Fin.then_ret ?_
        refine Fin.result (O' := O) (.inr rfl) rfl rfl drop_ ⟨_, rfl, ?_, rfl⟩
        first
        | exact .inl ⟨by unfold Bad4; omega, rfl⟩
        | exact .inr (.inl ⟨by unfold Bad4; omega, by unfold Bad1; omega, rfl⟩)
        | exact .inr (.inr (.inl ⟨hn4, hn1, ⟨k, by omega, by unfold BadEdge; omega⟩, rfl⟩))
        | exact .inr (.inr (.inr ⟨hn4, hn1, fun ⟨j, h1, h2⟩ => hk.2 j (by omega) h2, rfl⟩))
      · try simp only [cnd] at hg17
        refine WXL.fieldAddr (off' := 1) (Met.some rfl rfl rfl) rfl Try.underlying25 rfl sz3 rfl ?_
        first | refine WXL.ld (Met.some rfl rfl rfl) rfl agg3 ?_ | refine WXL.ldS (Met.some rfl rfl rfl) rfl agg3 ?_
        refine WXL.bin (Met.some rfl rfl rfl) rfl rfl rfl ?_
        refine WXL.pick_f Met.none rfl rfl ?_
        refine WXL.move Met.none rfl ?_
        refine WXL.split (d := 22) rfl (fun hg22 => ?_) (fun hg22 => ?_)
        · try simp only [cnd] at hg22
          refine WXL.miss (j := 8) (d := 22) rfl rfl rfl ?_
          refine WXL.miss (j := 8) (d := 22) rfl rfl rfl ?_
          refine WXL.miss (j := 8) (d := 22) rfl rfl rfl ?_
          refine WXL.miss (j := 8) (d := 22) rfl rfl rfl ?_
          refine WXL.miss (j := 8) (d := 22) rfl rfl rfl ?_
          refine WXL.pick_t Met.none rfl rfl ?_
          refine WXL.move Met.none rfl ?_
          refine WXL.miss (j := 15) (d := 29) rfl rfl rfl ?_
          refine WXL.miss (j := 15) (d := 29) rfl rfl rfl ?_
          refine WXL.miss (j := 15) (d := 29) rfl rfl rfl ?_
          refine WXL.pick_t Met.none rfl rfl ?_
          refine WXL.move Met.none rfl ?_
          refine WXL.miss (j := 20) (d := 34) rfl rfl rfl ?_
          refine WXL.miss (j := 20) (d := 34) rfl rfl rfl ?_
          refine WXL.miss (j := 20) (d := 34) rfl rfl rfl ?_
          refine WXL.miss (j := 20) (d := 34) rfl rfl rfl ?_
          refine WXL.miss (j := 20) (d := 34) rfl rfl rfl ?_
          refine WXL.pick_t Met.none rfl rfl ?_
          refine WXL.move Met.none rfl ?_
          refine WXL.miss (j := 27) (d := 41) rfl rfl rfl ?_
          refine WXL.miss (j := 27) (d := 41) rfl rfl rfl ?_
          refine WXL.miss (j := 27) (d := 41) rfl rfl rfl ?_
          refine WXL.miss (j := 27) (d := 41) rfl rfl rfl ?_
          refine WXL.miss (j := 27) (d := 41) rfl rfl rfl ?_
          refine WXL.pick_t Met.none rfl rfl ?_
          refine WXL.nil ?_
          refine Fin.then_normal ?_
          refine WX.cond rfl (fun hc1 => ?_) (fun hc1 => nomatch hc1)
          refine WX.seq ?_
          refine WX.region rfl ?_
          refine WXL.assign Met.none rfl ?_
          refine WXL.nil ?_
          refine Fin.then_normal ?_
          refine WX.ret ?_
          refine Fin.then_ret ?_
          refine Fin.result (O' := O) (.inr rfl) rfl rfl drop_ ⟨_, rfl, ?_, rfl⟩
          first
          | exact .inl ⟨by unfold Bad4; omega, rfl⟩
          | exact .inr (.inl ⟨by unfold Bad4; omega, by unfold Bad1; omega, rfl⟩)
          | exact .inr (.inr (.inl ⟨hn4, hn1, ⟨k, by omega, by unfold BadEdge; omega⟩, rfl⟩))
          | exact .inr (.inr (.inr ⟨hn4, hn1, fun ⟨j, h1, h2⟩ => hk.2 j (by omega) h2, rfl⟩))
        · try simp only [cnd] at hg22
          refine WXL.fieldAddr (off' := 1) (Met.some rfl rfl rfl) rfl Try.underlying25 rfl sz3 rfl ?_
          first | refine WXL.ld (Met.some rfl rfl rfl) rfl agg3 ?_ | refine WXL.ldS (Met.some rfl rfl rfl) rfl agg3 ?_
          refine WXL.fieldAddr (off' := 0) (Met.some rfl rfl rfl) rfl Try.underlying25 rfl sz3 rfl ?_
          first | refine WXL.ld (Met.some rfl rfl rfl) rfl agg3 ?_ | refine WXL.ldS (Met.some rfl rfl rfl) rfl agg3 ?_
          refine WXL.bin (Met.some rfl rfl rfl) rfl rfl rfl ?_
          refine WXL.pick_f Met.none rfl rfl ?_
          refine WXL.move Met.none rfl ?_
          refine WXL.split (d := 29) rfl (fun hg29 => ?_) (fun hg29 => ?_)
          · try simp only [cnd] at hg29
            refine WXL.miss (j := 15) (d := 29) rfl rfl rfl ?_
            refine WXL.miss (j := 15) (d := 29) rfl rfl rfl ?_
            refine WXL.miss (j := 15) (d := 29) rfl rfl rfl ?_
            refine WXL.pick_t Met.none rfl rfl ?_
            refine WXL.move Met.none rfl ?_
            refine WXL.miss (j := 20) (d := 34) rfl rfl rfl ?_
            refine WXL.miss (j := 20) (d := 34) rfl rfl rfl ?_
            refine WXL.miss (j := 20) (d := 34) rfl rfl rfl ?_
            refine WXL.miss (j := 20) (d := 34) rfl rfl rfl ?_
            refine WXL.miss (j := 20) (d := 34) rfl rfl rfl ?_
            refine WXL.pick_t Met.none rfl rfl ?_
            refine WXL.move Met.none rfl ?_
            refine WXL.miss (j := 27) (d := 41) rfl rfl rfl ?_
            refine WXL.miss (j := 27) (d := 41) rfl rfl rfl ?_
            refine WXL.miss (j := 27) (d := 41) rfl rfl rfl ?_
            refine WXL.miss (j := 27) (d := 41) rfl rfl rfl ?_
            refine WXL.miss (j := 27) (d := 41) rfl rfl rfl ?_
            refine WXL.pick_t Met.none rfl rfl ?_
            refine WXL.nil ?_
            refine Fin.then_normal ?_
            refine WX.cond rfl (fun hc1 => ?_) (fun hc1 => nomatch hc1)
            refine WX.seq ?_
            refine WX.region rfl ?_
            refine WXL.assign Met.none rfl ?_
            refine WXL.nil ?_
            refine Fin.then_normal ?_
            refine WX.ret ?_
            refine Fin.then_ret ?_
            refine Fin.result (O' := O) (.inr rfl) rfl rfl drop_ ⟨_, rfl, ?_, rfl⟩
            first
            | exact .inl ⟨by unfold Bad4; omega, rfl⟩
            | exact .inr (.inl ⟨by unfold Bad4; omega, by unfold Bad1; omega, rfl⟩)
            | exact .inr (.inr (.inl ⟨hn4, hn1, ⟨k, by omega, by unfold BadEdge; omega⟩, rfl⟩))
            | exact .inr (.inr (.inr ⟨hn4, hn1, fun ⟨j, h1, h2⟩ => hk.2 j (by omega) h2, rfl⟩))
          · try simp only [cnd] at hg29
            refine WXL.fieldAddr (off' := 2) (Met.some rfl rfl rfl) rfl Try.underlying25 rfl sz3 rfl ?_
            first | refine WXL.ld (Met.some rfl rfl rfl) rfl agg3 ?_ | refine WXL.ldS (Met.some rfl rfl rfl) rfl agg3 ?_
            refine WXL.bin (Met.some rfl rfl rfl) rfl rfl rfl ?_
            refine WXL.pick_f Met.none rfl rfl ?_
            refine WXL.move Met.none rfl ?_
            refine WXL.split (d := 34) rfl (fun hg34 => ?_) (fun hg34 => ?_)
            · try simp only [cnd] at hg34
              refine WXL.miss (j := 20) (d := 34) rfl rfl rfl ?_
              refine WXL.miss (j := 20) (d := 34) rfl rfl rfl ?_
              refine WXL.miss (j := 20) (d := 34) rfl rfl rfl ?_
              refine WXL.miss (j := 20) (d := 34) rfl rfl rfl ?_
              refine WXL.miss (j := 20) (d := 34) rfl rfl rfl ?_
              refine WXL.pick_t Met.none rfl rfl ?_
              refine WXL.move Met.none rfl ?_
              refine WXL.miss (j := 27) (d := 41) rfl rfl rfl ?_
              refine WXL.miss (j := 27) (d := 41) rfl rfl rfl ?_
              refine WXL.miss (j := 27) (d := 41) rfl rfl rfl ?_
              refine WXL.miss (j := 27) (d := 41) rfl rfl rfl ?_
              refine WXL.miss (j := 27) (d := 41) rfl rfl rfl ?_
              refine WXL.pick_t Met.none rfl rfl ?_
              refine WXL.nil ?_
              refine Fin.then_normal ?_
              refine WX.cond rfl (fun hc1 => ?_) (fun hc1 => nomatch hc1)
              refine WX.seq ?_
              refine WX.region rfl ?_
              refine WXL.assign Met.none rfl ?_
              refine WXL.nil ?_
              refine Fin.then_normal ?_
              refine WX.ret ?_
              refine Fin.then_ret ?_
              refine Fin.result (O' := O) (.inr rfl) rfl rfl drop_ ⟨_, rfl, ?_, rfl⟩
              first
              | exact .inl ⟨by unfold Bad4; omega, rfl⟩
              | exact .inr (.inl ⟨by unfold Bad4; omega, by unfold Bad1; omega, rfl⟩)
              | exact .inr (.inr (.inl ⟨hn4, hn1, ⟨k, by omega, by unfold BadEdge; omega⟩, rfl⟩))
              | exact .inr (.inr (.inr ⟨hn4, hn1, fun ⟨j, h1, h2⟩ => hk.2 j (by omega) h2, rfl⟩))
            · try simp only [cnd] at hg34
              refine WXL.fieldAddr (off' := 2) (Met.some rfl rfl rfl) rfl Try.underlying25 rfl sz3 rfl ?_
              first | refine WXL.ld (Met.some rfl rfl rfl) rfl agg3 ?_ | refine WXL.ldS (Met.some rfl rfl rfl) rfl agg3 ?_
              refine WXL.fieldAddr (off' := 0) (Met.some rfl rfl rfl) rfl Try.underlying25 rfl sz3 rfl ?_
              first | refine WXL.ld (Met.some rfl rfl rfl) rfl agg3 ?_ | refine WXL.ldS (Met.some rfl rfl rfl) rfl agg3 ?_
              refine WXL.bin (Met.some rfl rfl rfl) rfl rfl rfl ?_
              refine WXL.pick_f Met.none rfl rfl ?_
              refine WXL.move Met.none rfl ?_
              refine WXL.split (d := 41) rfl (fun hg41 => ?_) (fun hg41 => ?_)
              · try simp only [cnd] at hg41
                refine WXL.miss (j := 27) (d := 41) rfl rfl rfl ?_
                refine WXL.miss (j := 27) (d := 41) rfl rfl rfl ?_
                refine WXL.miss (j := 27) (d := 41) rfl rfl rfl ?_
                refine WXL.miss (j := 27) (d := 41) rfl rfl rfl ?_
                refine WXL.miss (j := 27) (d := 41) rfl rfl rfl ?_
                refine WXL.pick_t Met.none rfl rfl ?_
                refine WXL.nil ?_
                refine Fin.then_normal ?_
                refine WX.cond rfl (fun hc1 => ?_) (fun hc1 => nomatch hc1)
                refine WX.seq ?_
                refine WX.region rfl ?_
                refine WXL.assign Met.none rfl ?_
                refine WXL.nil ?_
                refine Fin.then_normal ?_
                refine WX.ret ?_
                refine Fin.then_ret ?_
                refine Fin.result (O' := O) (.inr rfl) rfl rfl drop_ ⟨_, rfl, ?_, rfl⟩
                first
                | exact .inl ⟨by unfold Bad4; omega, rfl⟩
                | exact .inr (.inl ⟨by unfold Bad4; omega, by unfold Bad1; omega, rfl⟩)
                | exact .inr (.inr (.inl ⟨hn4, hn1, ⟨k, by omega, by unfold BadEdge; omega⟩, rfl⟩))
                | exact .inr (.inr (.inr ⟨hn4, hn1, fun ⟨j, h1, h2⟩ => hk.2 j (by omega) h2, rfl⟩))
              · try simp only [cnd] at hg41
                refine WXL.fieldAddr (off' := 1) (Met.some rfl rfl rfl) rfl Try.underlying25 rfl sz3 rfl ?_
                first | refine WXL.ld (Met.some rfl rfl rfl) rfl agg3 ?_ | refine WXL.ldS (Met.some rfl rfl rfl) rfl agg3 ?_
                refine WXL.fieldAddr (off' := 2) (Met.some rfl rfl rfl) rfl Try.underlying25 rfl sz3 rfl ?_
                first | refine WXL.ld (Met.some rfl rfl rfl) rfl agg3 ?_ | refine WXL.ldS (Met.some rfl rfl rfl) rfl agg3 ?_
                refine WXL.bin (Met.some rfl rfl rfl) rfl rfl rfl ?_
                refine WXL.pick_f Met.none rfl rfl ?_
                refine WXL.nil ?_
                refine Fin.then_normal ?_
                refine WX.cond rfl (fun hc1 => ?_) (fun hc1 => ?_)
                · try simp only [cnd] at hc1
                  refine WX.seq ?_
                  refine WX.region rfl ?_
                  refine WXL.assign Met.none rfl ?_
                  refine WXL.nil ?_
                  refine Fin.then_normal ?_
                  refine WX.ret ?_
                  refine Fin.then_ret ?_
                  refine Fin.result (O' := O) (.inr rfl) rfl rfl drop_ ⟨_, rfl, ?_, rfl⟩
                  first
                  | exact .inl ⟨by unfold Bad4; omega, rfl⟩
                  | exact .inr (.inl ⟨by unfold Bad4; omega, by unfold Bad1; omega, rfl⟩)
                  | exact .inr (.inr (.inl ⟨hn4, hn1, ⟨k, by omega, by unfold BadEdge; omega⟩, rfl⟩))
                  | exact .inr (.inr (.inr ⟨hn4, hn1, fun ⟨j, h1, h2⟩ => hk.2 j (by omega) h2, rfl⟩))
                · try simp only [cnd] at hc1
                  refine WX.skip ?_
                  refine Fin.then_normal ?_
                  refine WX.seq ?_
                  refine WX.seq ?_
                  refine WX.region rfl ?_
                  refine WXL.assign Met.none rfl ?_
                  refine WXL.nil ?_
                  refine Fin.then_normal ?_
                  refine WX.block ?_
                  have hn4 : ¬ Bad4 n := by unfold Bad4; omega
                  have hn1 : ¬ Bad1 n := by unfold Bad1; omega
                  refine WX.loop (fun k : Nat => [(1, Ptr b1 0), (3, I (k : Int))]) (fun _ => (b1, ⟨0, false, [I n.nodes, I n.source, I n.sink, .slice a n.edges.length c]⟩) :: O) (fun k => k ≤ n.edges.length ∧ ∀ j, j < k → ¬ BadEdge n (nth n.edges j)) (fun k => n.edges.length - k) 0 ⟨Nat.zero_le _, fun j hj => absurd hj (Nat.not_lt_zero _)⟩ (fun s hs => hs.tl [0] 1) (fun k hk => ?_)
                  refine WX.seq ?_
                  refine WX.seq ?_
                  refine WX.region rfl ?_
                  refine WXL.move Met.none rfl ?_
                  refine WXL.fieldAddr (off' := 3) Met.none rfl Try.underlying25 rfl sz23 rfl ?_
                  first | refine WXL.ld Met.none rfl agg23 ?_ | refine WXL.ldS Met.none rfl agg23 ?_
                  refine WXL.len Met.none rfl Try.underlying23 ?_
                  refine WXL.bin Met.none rfl rfl rfl ?_
                  refine WXL.nil ?_
                  refine Fin.then_normal ?_
                  refine WX.cond rfl (fun hc2 => ?_) (fun hc2 => ?_)
                  · try simp only [cnd] at hc2
                    refine WX.skip ?_
                    refine Fin.then_normal ?_
                    refine WX.seq ?_
                    refine WX.block ?_
                    refine WX.seq ?_
                    refine WX.region rfl ?_
                    refine WXL.fieldAddr (off' := 3) Met.none rfl Try.underlying25 rfl sz23 rfl ?_
                    first | refine WXL.ld Met.none rfl agg23 ?_ | refine WXL.ldS Met.none rfl agg23 ?_
                    refine WXL.move Met.none rfl ?_
                    first | refine WXL.ix Met.none rfl rfl elem23 sz63 ?_ | refine WXL.ixS Met.none rfl rfl elem23 sz63 ?_
                    first | refine WXL.ldN Met.none rfl agg63 sz63 ?_ (hv := (cellsAt_flat encE_len _ _ (by omega))) | refine WXL.ldNS Met.none rfl agg63 sz63 ?_ (hv := (cellsAt_flat encE_len _ _ (by omega)))
                    refine WXL.alloc (c := [_, _, _, _]) Met.none zero63 rfl (fun b4 => ?_)
                    refine WXL.st (vs := [_, _, _, _]) (c' := [_, _, _, _]) Met.none rfl rfl rfl sz63 ?_
                    refine WXL.nil ?_
                    refine Fin.then_normal ?_
                    refine WX.seq ?_
                    refine WX.region rfl ?_
                    refine WXL.fieldAddr (off' := 0) Met.none rfl Try.underlying63 rfl sz3 rfl ?_
                    first | refine WXL.ld Met.none rfl agg3 ?_ | refine WXL.ldS Met.none rfl agg3 ?_
                    refine WXL.bin Met.none rfl rfl rfl ?_
                    refine WXL.move Met.none rfl ?_
                    refine WXL.split (d := 63) rfl (fun hg63 => ?_) (fun hg63 => ?_)
                    · try simp only [cnd] at hg63
                      refine WXL.miss (j := 3) (d := 63) rfl rfl rfl ?_
                      refine WXL.miss (j := 3) (d := 63) rfl rfl rfl ?_
                      refine WXL.miss (j := 3) (d := 63) rfl rfl rfl ?_
                      refine WXL.miss (j := 3) (d := 63) rfl rfl rfl ?_
                      refine WXL.miss (j := 3) (d := 63) rfl rfl rfl ?_
                      refine WXL.pick_t Met.none rfl rfl ?_
                      refine WXL.move Met.none rfl ?_
                      refine WXL.miss (j := 10) (d := 70) rfl rfl rfl ?_
                      refine WXL.miss (j := 10) (d := 70) rfl rfl rfl ?_
                      refine WXL.miss (j := 10) (d := 70) rfl rfl rfl ?_
                      refine WXL.pick_t Met.none rfl rfl ?_
                      refine WXL.move Met.none rfl ?_
                      refine WXL.miss (j := 15) (d := 75) rfl rfl rfl ?_
                      refine WXL.miss (j := 15) (d := 75) rfl rfl rfl ?_
                      refine WXL.miss (j := 15) (d := 75) rfl rfl rfl ?_
                      refine WXL.miss (j := 15) (d := 75) rfl rfl rfl ?_
                      refine WXL.miss (j := 15) (d := 75) rfl rfl rfl ?_
                      refine WXL.pick_t Met.none rfl rfl ?_
                      refine WXL.move Met.none rfl ?_
                      refine WXL.miss (j := 22) (d := 82) rfl rfl rfl ?_
                      refine WXL.miss (j := 22) (d := 82) rfl rfl rfl ?_
                      refine WXL.miss (j := 22) (d := 82) rfl rfl rfl ?_
                      refine WXL.miss (j := 22) (d := 82) rfl rfl rfl ?_
                      refine WXL.miss (j := 22) (d := 82) rfl rfl rfl ?_
                      refine WXL.pick_t Met.none rfl rfl ?_
                      refine WXL.move Met.none rfl ?_
                      refine WXL.miss (j := 29) (d := 89) rfl rfl rfl ?_
                      refine WXL.miss (j := 29) (d := 89) rfl rfl rfl ?_
                      refine WXL.miss (j := 29) (d := 89) rfl rfl rfl ?_
                      refine WXL.pick_t Met.none rfl rfl ?_
                      refine WXL.move Met.none rfl ?_
                      refine WXL.miss (j := 34) (d := 94) rfl rfl rfl ?_
                      refine WXL.miss (j := 34) (d := 94) rfl rfl rfl ?_
                      refine WXL.miss (j := 34) (d := 94) rfl rfl rfl ?_
                      refine WXL.pick_t Met.none rfl rfl ?_
                      refine WXL.move Met.none rfl ?_
                      refine WXL.miss (j := 39) (d := 99) rfl rfl rfl ?_
                      refine WXL.miss (j := 39) (d := 99) rfl rfl rfl ?_
                      refine WXL.miss (j := 39) (d := 99) rfl rfl rfl ?_
                      refine WXL.pick_t Met.none rfl rfl ?_
                      refine WXL.move Met.none rfl ?_
                      refine WXL.miss (j := 44) (d := 104) rfl rfl rfl ?_
                      refine WXL.miss (j := 44) (d := 104) rfl rfl rfl ?_
                      refine WXL.miss (j := 44) (d := 104) rfl rfl rfl ?_
                      refine WXL.pick_t Met.none rfl rfl ?_
                      refine WXL.nil ?_
                      refine Fin.then_normal ?_
                      refine WX.cond rfl (fun hc3 => ?_) (fun hc3 => nomatch hc3)
                      refine WX.seq ?_
                      refine WX.region rfl ?_
                      refine WXL.assign Met.none rfl ?_
                      refine WXL.nil ?_
                      refine Fin.then_normal ?_
                      refine WX.ret ?_
                      refine Fin.block_ret ?_
                      refine Fin.then_ret ?_
                      refine Fin.loop_ret ?_
                      refine Fin.block_ret ?_
                      refine Fin.then_ret ?_
                      refine Fin.result (O' := O) (.inr rfl) rfl rfl drop_ ⟨_, rfl, ?_, rfl⟩
                      first
                      | exact .inl ⟨by unfold Bad4; omega, rfl⟩
                      | exact .inr (.inl ⟨by unfold Bad4; omega, by unfold Bad1; omega, rfl⟩)
                      | exact .inr (.inr (.inl ⟨hn4, hn1, ⟨k, by omega, by unfold BadEdge; omega⟩, rfl⟩))
                      | exact .inr (.inr (.inr ⟨hn4, hn1, fun ⟨j, h1, h2⟩ => hk.2 j (by omega) h2, rfl⟩))
                    · try simp only [cnd] at hg63
                      refine WXL.fieldAddr (off' := 0) (Met.some rfl rfl rfl) rfl Try.underlying63 rfl sz3 rfl ?_
                      first | refine WXL.ld (Met.some rfl rfl rfl) rfl agg3 ?_ | refine WXL.ldS (Met.some rfl rfl rfl) rfl agg3 ?_
                      refine WXL.fieldAddr (off' := 0) (Met.some rfl rfl rfl) rfl Try.underlying25 rfl sz3 rfl ?_
                      first | refine WXL.ld (Met.some rfl rfl rfl) rfl agg3 ?_ | refine WXL.ldS (Met.some rfl rfl rfl) rfl agg3 ?_
                      refine WXL.bin (Met.some rfl rfl rfl) rfl rfl rfl ?_
                      refine WXL.pick_f Met.none rfl rfl ?_
                      refine WXL.move Met.none rfl ?_
                      refine WXL.split (d := 70) rfl (fun hg70 => ?_) (fun hg70 => ?_)
                      · try simp only [cnd] at hg70
                        refine WXL.miss (j := 10) (d := 70) rfl rfl rfl ?_
                        refine WXL.miss (j := 10) (d := 70) rfl rfl rfl ?_
                        refine WXL.miss (j := 10) (d := 70) rfl rfl rfl ?_
                        refine WXL.pick_t Met.none rfl rfl ?_
                        refine WXL.move Met.none rfl ?_
                        refine WXL.miss (j := 15) (d := 75) rfl rfl rfl ?_
                        refine WXL.miss (j := 15) (d := 75) rfl rfl rfl ?_
                        refine WXL.miss (j := 15) (d := 75) rfl rfl rfl ?_
                        refine WXL.miss (j := 15) (d := 75) rfl rfl rfl ?_
                        refine WXL.miss (j := 15) (d := 75) rfl rfl rfl ?_
                        refine WXL.pick_t Met.none rfl rfl ?_
                        refine WXL.move Met.none rfl ?_
                        refine WXL.miss (j := 22) (d := 82) rfl rfl rfl ?_
                        refine WXL.miss (j := 22) (d := 82) rfl rfl rfl ?_
                        refine WXL.miss (j := 22) (d := 82) rfl rfl rfl ?_
                        refine WXL.miss (j := 22) (d := 82) rfl rfl rfl ?_
                        refine WXL.miss (j := 22) (d := 82) rfl rfl rfl ?_
                        refine WXL.pick_t Met.none rfl rfl ?_
                        refine WXL.move Met.none rfl ?_
                        refine WXL.miss (j := 29) (d := 89) rfl rfl rfl ?_
                        refine WXL.miss (j := 29) (d := 89) rfl rfl rfl ?_
                        refine WXL.miss (j := 29) (d := 89) rfl rfl rfl ?_
                        refine WXL.pick_t Met.none rfl rfl ?_
                        refine WXL.move Met.none rfl ?_
                        refine WXL.miss (j := 34) (d := 94) rfl rfl rfl ?_
                        refine WXL.miss (j := 34) (d := 94) rfl rfl rfl ?_
                        refine WXL.miss (j := 34) (d := 94) rfl rfl rfl ?_
                        refine WXL.pick_t Met.none rfl rfl ?_
                        refine WXL.move Met.none rfl ?_
                        refine WXL.miss (j := 39) (d := 99) rfl rfl rfl ?_
                        refine WXL.miss (j := 39) (d := 99) rfl rfl rfl ?_
                        refine WXL.miss (j := 39) (d := 99) rfl rfl rfl ?_
                        refine WXL.pick_t Met.none rfl rfl ?_
                        refine WXL.move Met.none rfl ?_
                        refine WXL.miss (j := 44) (d := 104) rfl rfl rfl ?_
                        refine WXL.miss (j := 44) (d := 104) rfl rfl rfl ?_
                        refine WXL.miss (j := 44) (d := 104) rfl rfl rfl ?_
                        refine WXL.pick_t Met.none rfl rfl ?_
                        refine WXL.nil ?_
                        refine Fin.then_normal ?_
                        refine WX.cond rfl (fun hc3 => ?_) (fun hc3 => nomatch hc3)
                        refine WX.seq ?_
                        refine WX.region rfl ?_
                        refine WXL.assign Met.none rfl ?_
                        refine WXL.nil ?_
                        refine Fin.then_normal ?_
                        refine WX.ret ?_
                        refine Fin.block_ret ?_
                        refine Fin.then_ret ?_
                        refine Fin.loop_ret ?_
                        refine Fin.block_ret ?_
                        refine Fin.then_ret ?_
                        refine Fin.result (O' := O) (.inr rfl) rfl rfl drop_ ⟨_, rfl, ?_, rfl⟩
                        first
                        | exact .inl ⟨by unfold Bad4; omega, rfl⟩
                        | exact .inr (.inl ⟨by unfold Bad4; omega, by unfold Bad1; omega, rfl⟩)
                        | exact .inr (.inr (.inl ⟨hn4, hn1, ⟨k, by omega, by unfold BadEdge; omega⟩, rfl⟩))
                        | exact .inr (.inr (.inr ⟨hn4, hn1, fun ⟨j, h1, h2⟩ => hk.2 j (by omega) h2, rfl⟩))
                      · try simp only [cnd] at hg70
                        refine WXL.fieldAddr (off' := 1) (Met.some rfl rfl rfl) rfl Try.underlying63 rfl sz3 rfl ?_
                        first | refine WXL.ld (Met.some rfl rfl rfl) rfl agg3 ?_ | refine WXL.ldS (Met.some rfl rfl rfl) rfl agg3 ?_
                        refine WXL.bin (Met.some rfl rfl rfl) rfl rfl rfl ?_
                        refine WXL.pick_f Met.none rfl rfl ?_
                        refine WXL.move Met.none rfl ?_
                        refine WXL.split (d := 75) rfl (fun hg75 => ?_) (fun hg75 => ?_)
                        · try simp only [cnd] at hg75
                          refine WXL.miss (j := 15) (d := 75) rfl rfl rfl ?_
                          refine WXL.miss (j := 15) (d := 75) rfl rfl rfl ?_
                          refine WXL.miss (j := 15) (d := 75) rfl rfl rfl ?_
                          refine WXL.miss (j := 15) (d := 75) rfl rfl rfl ?_
                          refine WXL.miss (j := 15) (d := 75) rfl rfl rfl ?_
                          refine WXL.pick_t Met.none rfl rfl ?_
                          refine WXL.move Met.none rfl ?_
                          refine WXL.miss (j := 22) (d := 82) rfl rfl rfl ?_
                          refine WXL.miss (j := 22) (d := 82) rfl rfl rfl ?_
                          refine WXL.miss (j := 22) (d := 82) rfl rfl rfl ?_
                          refine WXL.miss (j := 22) (d := 82) rfl rfl rfl ?_
                          refine WXL.miss (j := 22) (d := 82) rfl rfl rfl ?_
                          refine WXL.pick_t Met.none rfl rfl ?_
                          refine WXL.move Met.none rfl ?_
                          refine WXL.miss (j := 29) (d := 89) rfl rfl rfl ?_
                          refine WXL.miss (j := 29) (d := 89) rfl rfl rfl ?_
                          refine WXL.miss (j := 29) (d := 89) rfl rfl rfl ?_
                          refine WXL.pick_t Met.none rfl rfl ?_
                          refine WXL.move Met.none rfl ?_
                          refine WXL.miss (j := 34) (d := 94) rfl rfl rfl ?_
                          refine WXL.miss (j := 34) (d := 94) rfl rfl rfl ?_
                          refine WXL.miss (j := 34) (d := 94) rfl rfl rfl ?_
                          refine WXL.pick_t Met.none rfl rfl ?_
                          refine WXL.move Met.none rfl ?_
                          refine WXL.miss (j := 39) (d := 99) rfl rfl rfl ?_
                          refine WXL.miss (j := 39) (d := 99) rfl rfl rfl ?_
                          refine WXL.miss (j := 39) (d := 99) rfl rfl rfl ?_
                          refine WXL.pick_t Met.none rfl rfl ?_
                          refine WXL.move Met.none rfl ?_
                          refine WXL.miss (j := 44) (d := 104) rfl rfl rfl ?_
                          refine WXL.miss (j := 44) (d := 104) rfl rfl rfl ?_
                          refine WXL.miss (j := 44) (d := 104) rfl rfl rfl ?_
                          refine WXL.pick_t Met.none rfl rfl ?_
                          refine WXL.nil ?_
                          refine Fin.then_normal ?_
                          refine WX.cond rfl (fun hc3 => ?_) (fun hc3 => nomatch hc3)
                          refine WX.seq ?_
                          refine WX.region rfl ?_
                          refine WXL.assign Met.none rfl ?_
                          refine WXL.nil ?_
                          refine Fin.then_normal ?_
                          refine WX.ret ?_
                          refine Fin.block_ret ?_
                          refine Fin.then_ret ?_
                          refine Fin.loop_ret ?_
                          refine Fin.block_ret ?_
                          refine Fin.then_ret ?_
                          refine Fin.result (O' := O) (.inr rfl) rfl rfl drop_ ⟨_, rfl, ?_, rfl⟩
                          first
                          | exact .inl ⟨by unfold Bad4; omega, rfl⟩
                          | exact .inr (.inl ⟨by unfold Bad4; omega, by unfold Bad1; omega, rfl⟩)
                          | exact .inr (.inr (.inl ⟨hn4, hn1, ⟨k, by omega, by unfold BadEdge; omega⟩, rfl⟩))
                          | exact .inr (.inr (.inr ⟨hn4, hn1, fun ⟨j, h1, h2⟩ => hk.2 j (by omega) h2, rfl⟩))
                        · try simp only [cnd] at hg75
                          refine WXL.fieldAddr (off' := 1) (Met.some rfl rfl rfl) rfl Try.underlying63 rfl sz3 rfl ?_
                          first | refine WXL.ld (Met.some rfl rfl rfl) rfl agg3 ?_ | refine WXL.ldS (Met.some rfl rfl rfl) rfl agg3 ?_
                          refine WXL.fieldAddr (off' := 0) (Met.some rfl rfl rfl) rfl Try.underlying25 rfl sz3 rfl ?_
                          first | refine WXL.ld (Met.some rfl rfl rfl) rfl agg3 ?_ | refine WXL.ldS (Met.some rfl rfl rfl) rfl agg3 ?_
                          refine WXL.bin (Met.some rfl rfl rfl) rfl rfl rfl ?_
                          refine WXL.pick_f Met.none rfl rfl ?_
                          refine WXL.move Met.none rfl ?_
                          refine WXL.split (d := 82) rfl (fun hg82 => ?_) (fun hg82 => ?_)
                          · try simp only [cnd] at hg82
                            refine WXL.miss (j := 22) (d := 82) rfl rfl rfl ?_
                            refine WXL.miss (j := 22) (d := 82) rfl rfl rfl ?_
                            refine WXL.miss (j := 22) (d := 82) rfl rfl rfl ?_
                            refine WXL.miss (j := 22) (d := 82) rfl rfl rfl ?_
                            refine WXL.miss (j := 22) (d := 82) rfl rfl rfl ?_
                            refine WXL.pick_t Met.none rfl rfl ?_
                            refine WXL.move Met.none rfl ?_
                            refine WXL.miss (j := 29) (d := 89) rfl rfl rfl ?_
                            refine WXL.miss (j := 29) (d := 89) rfl rfl rfl ?_
                            refine WXL.miss (j := 29) (d := 89) rfl rfl rfl ?_
                            refine WXL.pick_t Met.none rfl rfl ?_
                            refine WXL.move Met.none rfl ?_
                            refine WXL.miss (j := 34) (d := 94) rfl rfl rfl ?_
                            refine WXL.miss (j := 34) (d := 94) rfl rfl rfl ?_
                            refine WXL.miss (j := 34) (d := 94) rfl rfl rfl ?_
                            refine WXL.pick_t Met.none rfl rfl ?_
                            refine WXL.move Met.none rfl ?_
                            refine WXL.miss (j := 39) (d := 99) rfl rfl rfl ?_
                            refine WXL.miss (j := 39) (d := 99) rfl rfl rfl ?_
                            refine WXL.miss (j := 39) (d := 99) rfl rfl rfl ?_
                            refine WXL.pick_t Met.none rfl rfl ?_
                            refine WXL.move Met.none rfl ?_
                            refine WXL.miss (j := 44) (d := 104) rfl rfl rfl ?_
                            refine WXL.miss (j := 44) (d := 104) rfl rfl rfl ?_
                            refine WXL.miss (j := 44) (d := 104) rfl rfl rfl ?_
                            refine WXL.pick_t Met.none rfl rfl ?_
                            refine WXL.nil ?_
                            refine Fin.then_normal ?_
                            refine WX.cond rfl (fun hc3 => ?_) (fun hc3 => nomatch hc3)
                            refine WX.seq ?_
                            refine WX.region rfl ?_
                            refine WXL.assign Met.none rfl ?_
                            refine WXL.nil ?_
                            refine Fin.then_normal ?_
                            refine WX.ret ?_
                            refine Fin.block_ret ?_
                            refine Fin.then_ret ?_
                            refine Fin.loop_ret ?_
                            refine Fin.block_ret ?_
                            refine Fin.then_ret ?_
                            refine Fin.result (O' := O) (.inr rfl) rfl rfl drop_ ⟨_, rfl, ?_, rfl⟩
                            first
                            | exact .inl ⟨by unfold Bad4; omega, rfl⟩
                            | exact .inr (.inl ⟨by unfold Bad4; omega, by unfold Bad1; omega, rfl⟩)
                            | exact .inr (.inr (.inl ⟨hn4, hn1, ⟨k, by omega, by unfold BadEdge; omega⟩, rfl⟩))
                            | exact .inr (.inr (.inr ⟨hn4, hn1, fun ⟨j, h1, h2⟩ => hk.2 j (by omega) h2, rfl⟩))
                          · try simp only [cnd] at hg82
                            refine WXL.fieldAddr (off' := 0) (Met.some rfl rfl rfl) rfl Try.underlying63 rfl sz3 rfl ?_
                            first | refine WXL.ld (Met.some rfl rfl rfl) rfl agg3 ?_ | refine WXL.ldS (Met.some rfl rfl rfl) rfl agg3 ?_
                            refine WXL.fieldAddr (off' := 1) (Met.some rfl rfl rfl) rfl Try.underlying63 rfl sz3 rfl ?_
                            first | refine WXL.ld (Met.some rfl rfl rfl) rfl agg3 ?_ | refine WXL.ldS (Met.some rfl rfl rfl) rfl agg3 ?_
                            refine WXL.bin (Met.some rfl rfl rfl) rfl rfl rfl ?_
                            refine WXL.pick_f Met.none rfl rfl ?_
                            refine WXL.move Met.none rfl ?_
                            refine WXL.split (d := 89) rfl (fun hg89 => ?_) (fun hg89 => ?_)
                            · try simp only [cnd] at hg89
                              refine WXL.miss (j := 29) (d := 89) rfl rfl rfl ?_
                              refine WXL.miss (j := 29) (d := 89) rfl rfl rfl ?_
                              refine WXL.miss (j := 29) (d := 89) rfl rfl rfl ?_
                              refine WXL.pick_t Met.none rfl rfl ?_
                              refine WXL.move Met.none rfl ?_
                              refine WXL.miss (j := 34) (d := 94) rfl rfl rfl ?_
                              refine WXL.miss (j := 34) (d := 94) rfl rfl rfl ?_
                              refine WXL.miss (j := 34) (d := 94) rfl rfl rfl ?_
                              refine WXL.pick_t Met.none rfl rfl ?_
                              refine WXL.move Met.none rfl ?_
                              refine WXL.miss (j := 39) (d := 99) rfl rfl rfl ?_
                              refine WXL.miss (j := 39) (d := 99) rfl rfl rfl ?_
                              refine WXL.miss (j := 39) (d := 99) rfl rfl rfl ?_
                              refine WXL.pick_t Met.none rfl rfl ?_
                              refine WXL.move Met.none rfl ?_
                              refine WXL.miss (j := 44) (d := 104) rfl rfl rfl ?_
                              refine WXL.miss (j := 44) (d := 104) rfl rfl rfl ?_
                              refine WXL.miss (j := 44) (d := 104) rfl rfl rfl ?_
                              refine WXL.pick_t Met.none rfl rfl ?_
                              refine WXL.nil ?_
                              refine Fin.then_normal ?_
                              refine WX.cond rfl (fun hc3 => ?_) (fun hc3 => nomatch hc3)
                              refine WX.seq ?_
                              refine WX.region rfl ?_
                              refine WXL.assign Met.none rfl ?_
                              refine WXL.nil ?_
                              refine Fin.then_normal ?_
                              refine WX.ret ?_
                              refine Fin.block_ret ?_
                              refine Fin.then_ret ?_
                              refine Fin.loop_ret ?_
                              refine Fin.block_ret ?_
                              refine Fin.then_ret ?_
                              refine Fin.result (O' := O) (.inr rfl) rfl rfl drop_ ⟨_, rfl, ?_, rfl⟩
                              first
                              | exact .inl ⟨by unfold Bad4; omega, rfl⟩
                              | exact .inr (.inl ⟨by unfold Bad4; omega, by unfold Bad1; omega, rfl⟩)
                              | exact .inr (.inr (.inl ⟨hn4, hn1, ⟨k, by omega, by unfold BadEdge; omega⟩, rfl⟩))
                              | exact .inr (.inr (.inr ⟨hn4, hn1, fun ⟨j, h1, h2⟩ => hk.2 j (by omega) h2, rfl⟩))
                            · try simp only [cnd] at hg89
                              refine WXL.fieldAddr (off' := 2) (Met.some rfl rfl rfl) rfl Try.underlying63 rfl sz3 rfl ?_
                              first | refine WXL.ld (Met.some rfl rfl rfl) rfl agg3 ?_ | refine WXL.ldS (Met.some rfl rfl rfl) rfl agg3 ?_
                              refine WXL.bin (Met.some rfl rfl rfl) rfl rfl rfl ?_
                              refine WXL.pick_f Met.none rfl rfl ?_
                              refine WXL.move Met.none rfl ?_
                              refine WXL.split (d := 94) rfl (fun hg94 => ?_) (fun hg94 => ?_)
                              · try simp only [cnd] at hg94
                                refine WXL.miss (j := 34) (d := 94) rfl rfl rfl ?_
                                refine WXL.miss (j := 34) (d := 94) rfl rfl rfl ?_
                                refine WXL.miss (j := 34) (d := 94) rfl rfl rfl ?_
                                refine WXL.pick_t Met.none rfl rfl ?_
                                refine WXL.move Met.none rfl ?_
                                refine WXL.miss (j := 39) (d := 99) rfl rfl rfl ?_
                                refine WXL.miss (j := 39) (d := 99) rfl rfl rfl ?_
                                refine WXL.miss (j := 39) (d := 99) rfl rfl rfl ?_
                                refine WXL.pick_t Met.none rfl rfl ?_
                                refine WXL.move Met.none rfl ?_
                                refine WXL.miss (j := 44) (d := 104) rfl rfl rfl ?_
                                refine WXL.miss (j := 44) (d := 104) rfl rfl rfl ?_
                                refine WXL.miss (j := 44) (d := 104) rfl rfl rfl ?_
                                refine WXL.pick_t Met.none rfl rfl ?_
                                refine WXL.nil ?_
                                refine Fin.then_normal ?_
                                refine WX.cond rfl (fun hc3 => ?_) (fun hc3 => nomatch hc3)
                                refine WX.seq ?_
                                refine WX.region rfl ?_
                                refine WXL.assign Met.none rfl ?_
                                refine WXL.nil ?_
                                refine Fin.then_normal ?_
                                refine WX.ret ?_
                                refine Fin.block_ret ?_
                                refine Fin.then_ret ?_
                                refine Fin.loop_ret ?_
                                refine Fin.block_ret ?_
                                refine Fin.then_ret ?_
                                refine Fin.result (O' := O) (.inr rfl) rfl rfl drop_ ⟨_, rfl, ?_, rfl⟩
                                first
                                | exact .inl ⟨by unfold Bad4; omega, rfl⟩
                                | exact .inr (.inl ⟨by unfold Bad4; omega, by unfold Bad1; omega, rfl⟩)
                                | exact .inr (.inr (.inl ⟨hn4, hn1, ⟨k, by omega, by unfold BadEdge; omega⟩, rfl⟩))
                                | exact .inr (.inr (.inr ⟨hn4, hn1, fun ⟨j, h1, h2⟩ => hk.2 j (by omega) h2, rfl⟩))
                              · try simp only [cnd] at hg94
                                refine WXL.fieldAddr (off' := 2) (Met.some rfl rfl rfl) rfl Try.underlying63 rfl sz3 rfl ?_
                                first | refine WXL.ld (Met.some rfl rfl rfl) rfl agg3 ?_ | refine WXL.ldS (Met.some rfl rfl rfl) rfl agg3 ?_
                                refine WXL.bin (Met.some rfl rfl rfl) rfl rfl rfl ?_
                                refine WXL.pick_f Met.none rfl rfl ?_
                                refine WXL.move Met.none rfl ?_
                                refine WXL.split (d := 99) rfl (fun hg99 => ?_) (fun hg99 => ?_)
                                · try simp only [cnd] at hg99
                                  refine WXL.miss (j := 39) (d := 99) rfl rfl rfl ?_
                                  refine WXL.miss (j := 39) (d := 99) rfl rfl rfl ?_
                                  refine WXL.miss (j := 39) (d := 99) rfl rfl rfl ?_
                                  refine WXL.pick_t Met.none rfl rfl ?_
                                  refine WXL.move Met.none rfl ?_
                                  refine WXL.miss (j := 44) (d := 104) rfl rfl rfl ?_
                                  refine WXL.miss (j := 44) (d := 104) rfl rfl rfl ?_
                                  refine WXL.miss (j := 44) (d := 104) rfl rfl rfl ?_
                                  refine WXL.pick_t Met.none rfl rfl ?_
                                  refine WXL.nil ?_
                                  refine Fin.then_normal ?_
                                  refine WX.cond rfl (fun hc3 => ?_) (fun hc3 => nomatch hc3)
                                  refine WX.seq ?_
                                  refine WX.region rfl ?_
                                  refine WXL.assign Met.none rfl ?_
                                  refine WXL.nil ?_
                                  refine Fin.then_normal ?_
                                  refine WX.ret ?_
                                  refine Fin.block_ret ?_
                                  refine Fin.then_ret ?_
                                  refine Fin.loop_ret ?_
                                  refine Fin.block_ret ?_
                                  refine Fin.then_ret ?_
                                  refine Fin.result (O' := O) (.inr rfl) rfl rfl drop_ ⟨_, rfl, ?_, rfl⟩
                                  first
                                  | exact .inl ⟨by unfold Bad4; omega, rfl⟩
                                  | exact .inr (.inl ⟨by unfold Bad4; omega, by unfold Bad1; omega, rfl⟩)
                                  | exact .inr (.inr (.inl ⟨hn4, hn1, ⟨k, by omega, by unfold BadEdge; omega⟩, rfl⟩))
                                  | exact .inr (.inr (.inr ⟨hn4, hn1, fun ⟨j, h1, h2⟩ => hk.2 j (by omega) h2, rfl⟩))
                                · try simp only [cnd] at hg99
                                  refine WXL.fieldAddr (off' := 3) (Met.some rfl rfl rfl) rfl Try.underlying63 rfl sz3 rfl ?_
                                  first | refine WXL.ld (Met.some rfl rfl rfl) rfl agg3 ?_ | refine WXL.ldS (Met.some rfl rfl rfl) rfl agg3 ?_
                                  refine WXL.bin (Met.some rfl rfl rfl) rfl rfl rfl ?_
                                  refine WXL.pick_f Met.none rfl rfl ?_
                                  refine WXL.move Met.none rfl ?_
                                  refine WXL.split (d := 104) rfl (fun hg104 => ?_) (fun hg104 => ?_)
                                  · try simp only [cnd] at hg104
                                    refine WXL.miss (j := 44) (d := 104) rfl rfl rfl ?_
                                    refine WXL.miss (j := 44) (d := 104) rfl rfl rfl ?_
                                    refine WXL.miss (j := 44) (d := 104) rfl rfl rfl ?_
                                    refine WXL.pick_t Met.none rfl rfl ?_
                                    refine WXL.nil ?_
                                    refine Fin.then_normal ?_
                                    refine WX.cond rfl (fun hc3 => ?_) (fun hc3 => nomatch hc3)
                                    refine WX.seq ?_
                                    refine WX.region rfl ?_
                                    refine WXL.assign Met.none rfl ?_
                                    refine WXL.nil ?_
                                    refine Fin.then_normal ?_
                                    refine WX.ret ?_
                                    refine Fin.block_ret ?_
                                    refine Fin.then_ret ?_
                                    refine Fin.loop_ret ?_
                                    refine Fin.block_ret ?_
                                    refine Fin.then_ret ?_
                                    refine Fin.result (O' := O) (.inr rfl) rfl rfl drop_ ⟨_, rfl, ?_, rfl⟩
                                    first
                                    | exact .inl ⟨by unfold Bad4; omega, rfl⟩
                                    | exact .inr (.inl ⟨by unfold Bad4; omega, by unfold Bad1; omega, rfl⟩)
                                    | exact .inr (.inr (.inl ⟨hn4, hn1, ⟨k, by omega, by unfold BadEdge; omega⟩, rfl⟩))
                                    | exact .inr (.inr (.inr ⟨hn4, hn1, fun ⟨j, h1, h2⟩ => hk.2 j (by omega) h2, rfl⟩))
                                  · try simp only [cnd] at hg104
                                    refine WXL.fieldAddr (off' := 3) (Met.some rfl rfl rfl) rfl Try.underlying63 rfl sz3 rfl ?_
                                    first | refine WXL.ld (Met.some rfl rfl rfl) rfl agg3 ?_ | refine WXL.ldS (Met.some rfl rfl rfl) rfl agg3 ?_
                                    refine WXL.bin (Met.some rfl rfl rfl) rfl rfl rfl ?_
                                    refine WXL.pick_f Met.none rfl rfl ?_
                                    refine WXL.nil ?_
                                    refine Fin.then_normal ?_
                                    refine WX.cond rfl (fun hc3 => ?_) (fun hc3 => ?_)
                                    · try simp only [cnd] at hc3
                                      refine WX.seq ?_
                                      refine WX.region rfl ?_
                                      refine WXL.assign Met.none rfl ?_
                                      refine WXL.nil ?_
                                      refine Fin.then_normal ?_
                                      refine WX.ret ?_
                                      refine Fin.block_ret ?_
                                      refine Fin.then_ret ?_
                                      refine Fin.loop_ret ?_
                                      refine Fin.block_ret ?_
                                      refine Fin.then_ret ?_
                                      refine Fin.result (O' := O) (.inr rfl) rfl rfl drop_ ⟨_, rfl, ?_, rfl⟩
                                      first
                                      | exact .inl ⟨by unfold Bad4; omega, rfl⟩
                                      | exact .inr (.inl ⟨by unfold Bad4; omega, by unfold Bad1; omega, rfl⟩)
                                      | exact .inr (.inr (.inl ⟨hn4, hn1, ⟨k, by omega, by unfold BadEdge; omega⟩, rfl⟩))
                                      | exact .inr (.inr (.inr ⟨hn4, hn1, fun ⟨j, h1, h2⟩ => hk.2 j (by omega) h2, rfl⟩))
                                    · try simp only [cnd] at hc3
                                      refine WX.skip ?_
                                      refine Fin.block_normal ?_
                                      refine Fin.then_normal ?_
                                      refine WX.region rfl ?_
                                      refine WXL.move Met.none rfl ?_
                                      refine WXL.bin Met.none rfl rfl bvA ?_
                                      refine WXL.assign Met.none rfl ?_
                                      refine WXL.nil ?_
                                      refine Fin.loop_next (k + 1) ⟨by omega, fun j hj => ?_⟩ (by omega) (fun s hs => hs.tl [1] 2)
                                      rcases Nat.lt_or_ge j k with q | q
                                      · exact hk.2 j q
                                      · have e : j = k := by omega
                                        subst e
                                        unfold BadEdge
                                        omega
                  · try simp only [cnd] at hc2
                    refine WX.exit ?_
                    refine Fin.then_exit ?_
                    refine Fin.loop_exit ?_
                    refine Fin.block_hit rfl ?_
                    refine Fin.then_normal ?_
                    refine WX.seq ?_
                    refine WX.region rfl ?_
                    refine WXL.assign Met.none rfl ?_
                    refine WXL.nil ?_
                    refine Fin.then_normal ?_
                    refine WX.ret ?_
                    refine Fin.result (O' := O) (.inr rfl) rfl rfl drop_ ⟨_, rfl, ?_, rfl⟩
                    first
                    | exact .inl ⟨by unfold Bad4; omega, rfl⟩
                    | exact .inr (.inl ⟨by unfold Bad4; omega, by unfold Bad1; omega, rfl⟩)
                    | exact .inr (.inr (.inl ⟨hn4, hn1, ⟨k, by omega, by unfold BadEdge; omega⟩, rfl⟩))
                    | exact .inr (.inr (.inr ⟨hn4, hn1, fun ⟨j, h1, h2⟩ => hk.2 j (by omega) h2, rfl⟩))

end Go.Proofs.Ytjmklialkjncaaa.Eng

set_option linter.unusedVariables false
set_option linter.unusedSimpArgs false
namespace Go.Proofs.Ytjmklialkjncaaa.Eng

theorem node_ok (O : Objs) (n : Net4) (a : Option Addr) (c : Nat) (i : Int) : Spec Try.prog true 56 #[netV n a c, I i] O fun v O' => v = .bool (decide (0 ≤ i ∧ i < n.nodes)) ∧ O' = O := by
  refine Spec.enter (args := [_, _]) (m := 13) Try.func56 rfl rfl (by decide +kernel) fun h0 => ?_
  refine WX.seq ?_
  refine WX.region rfl ?_
  refine WXL.box (c := [_, _, _, _]) Met.none rfl rfl rfl (fun b2 => ?_)
  refine WXL.assign Met.none rfl ?_
  refine WXL.nil ?_
  refine Fin.then_normal ?_
  refine WX.seq ?_
  refine WX.region rfl ?_
  refine WXL.move Met.none rfl ?_
  refine WXL.bin Met.none rfl rfl rfl ?_
  refine WXL.move Met.none rfl ?_
  refine WXL.split (d := 7) rfl (fun hg7 => ?_) (fun hg7 => ?_)
  · try simp only [cnd] at hg7
    refine WXL.move (Met.some rfl rfl rfl) rfl ?_
    refine WXL.fieldAddr (off' := 0) (Met.some rfl rfl rfl) rfl Try.underlying36 rfl sz3 rfl ?_
    first | refine WXL.ld (Met.some rfl rfl rfl) rfl agg3 ?_ | refine WXL.ldS (Met.some rfl rfl rfl) rfl agg3 ?_
    refine WXL.bin (Met.some rfl rfl rfl) rfl rfl rfl ?_
    refine WXL.pick_t Met.none rfl rfl ?_
    refine WXL.assign Met.none rfl ?_
    refine WXL.nil ?_
    refine Fin.then_normal ?_
    refine WX.ret ?_
    refine Fin.result (O' := O) (.inr rfl) rfl rfl drop_ ⟨?_, rfl⟩
    exact bl_
  · try simp only [cnd] at hg7
    refine WXL.miss (j := 2) (d := 7) rfl rfl rfl ?_
    refine WXL.miss (j := 2) (d := 7) rfl rfl rfl ?_
    refine WXL.miss (j := 2) (d := 7) rfl rfl rfl ?_
    refine WXL.miss (j := 2) (d := 7) rfl rfl rfl ?_
    refine WXL.pick_f Met.none rfl rfl ?_
    refine WXL.assign Met.none rfl ?_
    refine WXL.nil ?_
    refine Fin.then_normal ?_
    refine WX.ret ?_
    refine Fin.result (O' := O) (.inr rfl) rfl rfl drop_ ⟨?_, rfl⟩
    exact bl_

theorem amount_ok (O : Objs) (i : Int) : Spec Try.prog true 55 #[I i] O fun v O' => v = .bool (decide (0 ≤ i ∧ i ≤ 1099511627776)) ∧ O' = O := by
  refine Spec.enter (args := [_]) (m := 9) Try.func55 rfl rfl (by decide +kernel) fun h0 => ?_
  refine WX.seq ?_
  refine WX.region rfl ?_
  refine WXL.assign Met.none rfl ?_
  refine WXL.nil ?_
  refine Fin.then_normal ?_
  refine WX.seq ?_
  refine WX.region rfl ?_
  refine WXL.move Met.none rfl ?_
  refine WXL.bin Met.none rfl rfl rfl ?_
  refine WXL.move Met.none rfl ?_
  refine WXL.split (d := 5) rfl (fun hg5 => ?_) (fun hg5 => ?_)
  · try simp only [cnd] at hg5
    refine WXL.move (Met.some rfl rfl rfl) rfl ?_
    refine WXL.bin (Met.some rfl rfl rfl) rfl rfl rfl ?_
    refine WXL.pick_t Met.none rfl rfl ?_
    refine WXL.assign Met.none rfl ?_
    refine WXL.nil ?_
    refine Fin.then_normal ?_
    refine WX.ret ?_
    refine Fin.result (O' := O) (.inr rfl) rfl rfl drop_ ⟨?_, rfl⟩
    exact bl_
  · try simp only [cnd] at hg5
    refine WXL.miss (j := 2) (d := 5) rfl rfl rfl ?_
    refine WXL.miss (j := 2) (d := 5) rfl rfl rfl ?_
    refine WXL.pick_f Met.none rfl rfl ?_
    refine WXL.assign Met.none rfl ?_
    refine WXL.nil ?_
    refine Fin.then_normal ?_
    refine WX.ret ?_
    refine Fin.result (O' := O) (.inr rfl) rfl rfl drop_ ⟨?_, rfl⟩
    exact bl_

instance (n : Net4) (e : E4) : Decidable (BadEdge n e) := by unfold BadEdge; infer_instance

theorem bad_ok (O : Objs) (n : Net4) (a : Option Addr) (c : Nat) (e : E4) (p1 p3 : Nat) (h1 : Knows O p1 ⟨0, false, [I n.nodes, I n.source, I n.sink, .slice a n.edges.length c]⟩) (h3 : Knows O p3 ⟨0, false, [.func (.func 55) #[] #[]]⟩) :
    Spec Try.prog true 58 #[.agg (encE e).toArray, Ptr p1 0, Ptr p3 0] O fun v O' => v = .bool (decide (BadEdge n e)) ∧ O' = O := by
  refine Spec.enter (args := [_, _, _]) (m := 38) Try.func58 rfl rfl (by decide +kernel) fun h0 => ?_
  refine WX.seq ?_
  refine WX.region rfl ?_
  refine WXL.box (c := [_, _, _, _]) Met.none rfl rfl rfl (fun b3 => ?_)
  refine WXL.assign Met.none rfl ?_
  refine WXL.nil ?_
  refine Fin.then_normal ?_
  refine WX.seq ?_
  refine WX.region rfl ?_
  first | refine WXL.ldN Met.none rfl agg36 sz36 ?_ | refine WXL.ldNS Met.none rfl agg36 sz36 ?_
  refine WXL.fieldAddr (off' := 0) Met.none rfl Try.underlying44 rfl sz3 rfl ?_
  first | refine WXL.ld Met.none rfl agg3 ?_ | refine WXL.ldS Met.none rfl agg3 ?_
  refine WXL.cl (O1 := _) Met.none rfl (fnOk_of Try.func56 (by decide +kernel)) rfl (fun _ h => h) (node_ok _ n a c _) (fun v O' hp => ?_)
  obtain ⟨rfl, hO⟩ := hp
  subst O'
  refine WXL.not Met.none rfl ?_
  refine WXL.move Met.none rfl ?_
  refine WXL.split (d := 10) rfl (fun hg10 => ?_) (fun hg10 => ?_)
  · try simp only [cnd] at hg10
    refine WXL.miss (j := 5) (d := 10) rfl rfl rfl ?_
    refine WXL.miss (j := 5) (d := 10) rfl rfl rfl ?_
    refine WXL.miss (j := 5) (d := 10) rfl rfl rfl ?_
    refine WXL.miss (j := 5) (d := 10) rfl rfl rfl ?_
    refine WXL.miss (j := 5) (d := 10) rfl rfl rfl ?_
    refine WXL.pick_t Met.none rfl rfl ?_
    refine WXL.move Met.none rfl ?_
    refine WXL.miss (j := 12) (d := 17) rfl rfl rfl ?_
    refine WXL.miss (j := 12) (d := 17) rfl rfl rfl ?_
    refine WXL.miss (j := 12) (d := 17) rfl rfl rfl ?_
    refine WXL.miss (j := 12) (d := 17) rfl rfl rfl ?_
    refine WXL.miss (j := 12) (d := 17) rfl rfl rfl ?_
    refine WXL.pick_t Met.none rfl rfl ?_
    refine WXL.move Met.none rfl ?_
    refine WXL.miss (j := 19) (d := 24) rfl rfl rfl ?_
    refine WXL.miss (j := 19) (d := 24) rfl rfl rfl ?_
    refine WXL.miss (j := 19) (d := 24) rfl rfl rfl ?_
    refine WXL.miss (j := 19) (d := 24) rfl rfl rfl ?_
    refine WXL.miss (j := 19) (d := 24) rfl rfl rfl ?_
    refine WXL.pick_t Met.none rfl rfl ?_
    refine WXL.move Met.none rfl ?_
    refine WXL.miss (j := 26) (d := 31) rfl rfl rfl ?_
    refine WXL.miss (j := 26) (d := 31) rfl rfl rfl ?_
    refine WXL.miss (j := 26) (d := 31) rfl rfl rfl ?_
    refine WXL.miss (j := 26) (d := 31) rfl rfl rfl ?_
    refine WXL.miss (j := 26) (d := 31) rfl rfl rfl ?_
    refine WXL.pick_t Met.none rfl rfl ?_
    refine WXL.assign Met.none rfl ?_
    refine WXL.nil ?_
    refine Fin.then_normal ?_
    refine WX.ret ?_
    refine Fin.result (O' := O) (.inr rfl) rfl rfl drop_ ⟨?_, rfl⟩
    first
    | exact bool_true (by unfold BadEdge; omega)
    | exact bool_false (by unfold BadEdge; omega)
    | exact congrArg Value.bool (Bool.eq_iff_iff.2 (by simp only [Bool.not_eq_true', decide_eq_false_iff_not, decide_eq_true_eq]; unfold BadEdge; omega))
  · try simp only [cnd] at hg10
    first | refine WXL.ldN (Met.some rfl rfl rfl) rfl agg36 sz36 ?_ | refine WXL.ldNS (Met.some rfl rfl rfl) rfl agg36 sz36 ?_
    refine WXL.fieldAddr (off' := 1) (Met.some rfl rfl rfl) rfl Try.underlying44 rfl sz3 rfl ?_
    first | refine WXL.ld (Met.some rfl rfl rfl) rfl agg3 ?_ | refine WXL.ldS (Met.some rfl rfl rfl) rfl agg3 ?_
    refine WXL.cl (O1 := _) (Met.some rfl rfl rfl) rfl (fnOk_of Try.func56 (by decide +kernel)) rfl (fun _ h => h) (node_ok _ n a c _) (fun v O' hp => ?_)
    obtain ⟨rfl, hO⟩ := hp
    subst O'
    refine WXL.not (Met.some rfl rfl rfl) rfl ?_
    refine WXL.pick_f Met.none rfl rfl ?_
    refine WXL.move Met.none rfl ?_
    refine WXL.split (d := 17) rfl (fun hg17 => ?_) (fun hg17 => ?_)
    · try simp only [cnd] at hg17
      refine WXL.miss (j := 12) (d := 17) rfl rfl rfl ?_
      refine WXL.miss (j := 12) (d := 17) rfl rfl rfl ?_
      refine WXL.miss (j := 12) (d := 17) rfl rfl rfl ?_
      refine WXL.miss (j := 12) (d := 17) rfl rfl rfl ?_
      refine WXL.miss (j := 12) (d := 17) rfl rfl rfl ?_
      refine WXL.pick_t Met.none rfl rfl ?_
      refine WXL.move Met.none rfl ?_
      refine WXL.miss (j := 19) (d := 24) rfl rfl rfl ?_
      refine WXL.miss (j := 19) (d := 24) rfl rfl rfl ?_
      refine WXL.miss (j := 19) (d := 24) rfl rfl rfl ?_
      refine WXL.miss (j := 19) (d := 24) rfl rfl rfl ?_
      refine WXL.miss (j := 19) (d := 24) rfl rfl rfl ?_
      refine WXL.pick_t Met.none rfl rfl ?_
      refine WXL.move Met.none rfl ?_
      refine WXL.miss (j := 26) (d := 31) rfl rfl rfl ?_
      refine WXL.miss (j := 26) (d := 31) rfl rfl rfl ?_
      refine WXL.miss (j := 26) (d := 31) rfl rfl rfl ?_
      refine WXL.miss (j := 26) (d := 31) rfl rfl rfl ?_
      refine WXL.miss (j := 26) (d := 31) rfl rfl rfl ?_
      refine WXL.pick_t Met.none rfl rfl ?_
      refine WXL.assign Met.none rfl ?_
      refine WXL.nil ?_
      refine Fin.then_normal ?_
      refine WX.ret ?_
      refine Fin.result (O' := O) (.inr rfl) rfl rfl drop_ ⟨?_, rfl⟩
      first
      | exact bool_true (by unfold BadEdge; omega)
      | exact bool_false (by unfold BadEdge; omega)
      | exact congrArg Value.bool (Bool.eq_iff_iff.2 (by simp only [Bool.not_eq_true', decide_eq_false_iff_not, decide_eq_true_eq]; unfold BadEdge; omega))
    · try simp only [cnd] at hg17
      refine WXL.fieldAddr (off' := 0) (Met.some rfl rfl rfl) rfl Try.underlying44 rfl sz3 rfl ?_
      first | refine WXL.ld (Met.some rfl rfl rfl) rfl agg3 ?_ | refine WXL.ldS (Met.some rfl rfl rfl) rfl agg3 ?_
      refine WXL.fieldAddr (off' := 1) (Met.some rfl rfl rfl) rfl Try.underlying44 rfl sz3 rfl ?_
      first | refine WXL.ld (Met.some rfl rfl rfl) rfl agg3 ?_ | refine WXL.ldS (Met.some rfl rfl rfl) rfl agg3 ?_
      refine WXL.bin (Met.some rfl rfl rfl) rfl rfl rfl ?_
      refine WXL.pick_f Met.none rfl rfl ?_
      refine WXL.move Met.none rfl ?_
      refine WXL.split (d := 24) rfl (fun hg24 => ?_) (fun hg24 => ?_)
      · try simp only [cnd] at hg24
        refine WXL.miss (j := 19) (d := 24) rfl rfl rfl ?_
        refine WXL.miss (j := 19) (d := 24) rfl rfl rfl ?_
        refine WXL.miss (j := 19) (d := 24) rfl rfl rfl ?_
        refine WXL.miss (j := 19) (d := 24) rfl rfl rfl ?_
        refine WXL.miss (j := 19) (d := 24) rfl rfl rfl ?_
        refine WXL.pick_t Met.none rfl rfl ?_
        refine WXL.move Met.none rfl ?_
        refine WXL.miss (j := 26) (d := 31) rfl rfl rfl ?_
        refine WXL.miss (j := 26) (d := 31) rfl rfl rfl ?_
        refine WXL.miss (j := 26) (d := 31) rfl rfl rfl ?_
        refine WXL.miss (j := 26) (d := 31) rfl rfl rfl ?_
        refine WXL.miss (j := 26) (d := 31) rfl rfl rfl ?_
        refine WXL.pick_t Met.none rfl rfl ?_
        refine WXL.assign Met.none rfl ?_
        refine WXL.nil ?_
        refine Fin.then_normal ?_
        refine WX.ret ?_
        refine Fin.result (O' := O) (.inr rfl) rfl rfl drop_ ⟨?_, rfl⟩
        first
        | exact bool_true (by unfold BadEdge; omega)
        | exact bool_false (by unfold BadEdge; omega)
        | exact congrArg Value.bool (Bool.eq_iff_iff.2 (by simp only [Bool.not_eq_true', decide_eq_false_iff_not, decide_eq_true_eq]; unfold BadEdge; omega))
      · try simp only [cnd] at hg24
        first | refine WXL.ld (Met.some rfl rfl rfl) rfl agg95 ?_ | refine WXL.ldS (Met.some rfl rfl rfl) rfl agg95 ?_
        refine WXL.fieldAddr (off' := 2) (Met.some rfl rfl rfl) rfl Try.underlying44 rfl sz3 rfl ?_
        first | refine WXL.ld (Met.some rfl rfl rfl) rfl agg3 ?_ | refine WXL.ldS (Met.some rfl rfl rfl) rfl agg3 ?_
        refine WXL.cl (O1 := _) (Met.some rfl rfl rfl) rfl (fnOk_of Try.func55 (by decide +kernel)) rfl (fun _ h => h) (amount_ok _ _) (fun v O' hp => ?_)
        obtain ⟨rfl, hO⟩ := hp
        subst O'
        refine WXL.not (Met.some rfl rfl rfl) rfl ?_
        refine WXL.pick_f Met.none rfl rfl ?_
        refine WXL.move Met.none rfl ?_
        refine WXL.split (d := 31) rfl (fun hg31 => ?_) (fun hg31 => ?_)
        · try simp only [cnd] at hg31
          refine WXL.miss (j := 26) (d := 31) rfl rfl rfl ?_
          refine WXL.miss (j := 26) (d := 31) rfl rfl rfl ?_
          refine WXL.miss (j := 26) (d := 31) rfl rfl rfl ?_
          refine WXL.miss (j := 26) (d := 31) rfl rfl rfl ?_
          refine WXL.miss (j := 26) (d := 31) rfl rfl rfl ?_
          refine WXL.pick_t Met.none rfl rfl ?_
          refine WXL.assign Met.none rfl ?_
          refine WXL.nil ?_
          refine Fin.then_normal ?_
          refine WX.ret ?_
          refine Fin.result (O' := O) (.inr rfl) rfl rfl drop_ ⟨?_, rfl⟩
          first
          | exact bool_true (by unfold BadEdge; omega)
          | exact bool_false (by unfold BadEdge; omega)
          | exact congrArg Value.bool (Bool.eq_iff_iff.2 (by simp only [Bool.not_eq_true', decide_eq_false_iff_not, decide_eq_true_eq]; unfold BadEdge; omega))
        · try simp only [cnd] at hg31
          first | refine WXL.ld (Met.some rfl rfl rfl) rfl agg95 ?_ | refine WXL.ldS (Met.some rfl rfl rfl) rfl agg95 ?_
          refine WXL.fieldAddr (off' := 3) (Met.some rfl rfl rfl) rfl Try.underlying44 rfl sz3 rfl ?_
          first | refine WXL.ld (Met.some rfl rfl rfl) rfl agg3 ?_ | refine WXL.ldS (Met.some rfl rfl rfl) rfl agg3 ?_
          refine WXL.cl (O1 := _) (Met.some rfl rfl rfl) rfl (fnOk_of Try.func55 (by decide +kernel)) rfl (fun _ h => h) (amount_ok _ _) (fun v O' hp => ?_)
          obtain ⟨rfl, hO⟩ := hp
          subst O'
          refine WXL.not (Met.some rfl rfl rfl) rfl ?_
          refine WXL.pick_f Met.none rfl rfl ?_
          refine WXL.assign Met.none rfl ?_
          refine WXL.nil ?_
          refine Fin.then_normal ?_
          refine WX.ret ?_
          refine Fin.result (O' := O) (.inr rfl) rfl rfl drop_ ⟨?_, rfl⟩
          first
          | exact bool_true (by unfold BadEdge; omega)
          | exact bool_false (by unfold BadEdge; omega)
          | exact congrArg Value.bool (Bool.eq_iff_iff.2 (by simp only [Bool.not_eq_true', decide_eq_false_iff_not, decide_eq_true_eq]; unfold BadEdge; omega))

/-- What a function value does to each element of a row. -/
def Tells {α : Type} (P : Program) (O : Objs) (f : FuncId) (first cap : List Value) (V : α → Value) (p : α → Bool) (l : List α) : Prop :=
  ∀ N e, e ∈ l → Spec P true f (first ++ [V e] ++ cap).toArray (N ++ O) fun v O' => v = .bool (p e) ∧ O' = N ++ O

def aggE (e : E4) : Value := .agg (encE e).toArray

theorem findIdx_found {α : Type} [Inhabited α] {p : α → Bool} {l : List α} {k : Nat} (hk : k < l.length) (h : ∀ j, j < k → p (nth l j) = false) (hp : p (nth l k) = true) : l.findIdx p = k := by
  rw [List.findIdx_eq hk]
  refine ⟨by rw [← nth_get hk]; exact hp, fun j hj => ?_⟩
  have := h j hj
  rw [nth_get (by omega)] at this
  exact this

theorem indexE_ok (O : Objs) (l : List E4) (a : Option Addr) (c : Nat) (f : FuncId) (first cap : Array Value) (p : E4 → Bool) (hl : Src O 4 (.slice a l.length c) l.length (flat encE l)) (hlen : l.length ≤ 1000000) (hf : fnOk Try.prog f = true) (ht : Tells Try.prog O f first.toList cap.toList aggE p l) :
    Spec Try.prog true 59 #[.slice a l.length c, .func (.func f) first cap] O fun v O' => v = I (if l.findIdx p < l.length then (l.findIdx p : Int) else -1) ∧ O' = O := by
  refine Spec.enter (args := [_, _]) (m := 19) Try.func59 rfl rfl (by decide +kernel) fun h0 => ?_
  refine WX.seq ?_
  refine WX.region rfl ?_
  refine WXL.assign Met.none rfl ?_
  refine WXL.nil ?_
  refine Fin.then_normal ?_
  refine WX.seq ?_
  refine WX.seq ?_
  refine WX.region rfl ?_
  refine WXL.move Met.none rfl ?_
  refine WXL.len Met.none rfl Try.underlying34 ?_
  refine WXL.move Met.none rfl ?_
  refine WXL.nil ?_
  refine Fin.then_normal ?_
  refine WX.block ?_
  refine WX.loop (fun k : Nat => [(0, .slice a l.length c), (1, .func (.func f) first cap), (7, I (l.length : Int)), (8, I (k : Int))]) (fun _ => O) (fun k => k ≤ l.length ∧ ∀ j, j < k → p (nth l j) = false) (fun k => l.length - k) 0 ⟨Nat.zero_le _, fun j hj => absurd hj (Nat.not_lt_zero _)⟩ (fun s hs => hs.tl [] 0) (fun k hk => ?_)
  refine WX.seq ?_
  refine WX.region rfl ?_
  refine WXL.bin Met.none rfl rfl rfl ?_
  refine WXL.nil ?_
  refine Fin.then_normal ?_
  refine WX.seq ?_
  refine WX.cond rfl (fun hc0 => ?_) (fun hc0 => ?_)
  · try simp only [cnd] at hc0
    refine WX.skip ?_
    refine Fin.then_normal ?_
    refine WX.seq ?_
    refine WX.block ?_
    refine WX.seq ?_
    refine WX.region rfl ?_
    refine WXL.move Met.none rfl ?_
    refine WXL.assign Met.none rfl ?_
    refine WXL.nil ?_
    refine Fin.then_normal ?_
    refine WX.seq ?_
    refine WX.region rfl ?_
    refine WXL.move Met.none rfl ?_
    refine WXL.move Met.none rfl ?_
    refine WXL.move Met.none rfl ?_
    first | refine WXL.ix Met.none rfl rfl elem34 sz44 ?_ | refine WXL.ixS Met.none rfl rfl elem34 sz44 ?_
    first | refine WXL.ldN Met.none rfl agg44 sz44 ?_ (hv := (cellsAt_flat encE_len _ _ (by omega))) | refine WXL.ldNS Met.none rfl agg44 sz44 ?_ (hv := (cellsAt_flat encE_len _ _ (by omega)))
    refine WXL.cl (O1 := _) Met.none rfl hf rfl (fun _ h => h) (ht [] (nth l k) (nth_mem (by omega))) (fun v O' hp => ?_)
    obtain ⟨rfl, hO⟩ := hp
    subst O'
    refine WXL.nil ?_
    refine Fin.then_normal ?_
    refine WX.cond rfl (fun hc1 => ?_) (fun hc1 => ?_)
    · try simp only [cnd] at hc1
      refine WX.seq ?_
      refine WX.region rfl ?_
      refine WXL.move Met.none rfl ?_
      refine WXL.assign Met.none rfl ?_
      refine WXL.nil ?_
      refine Fin.then_normal ?_
      refine WX.ret ?_
      refine Fin.block_ret ?_
      refine Fin.then_ret ?_
      refine Fin.loop_ret ?_
      refine Fin.block_ret ?_
      refine Fin.then_ret ?_
      refine Fin.result (O' := O) (.inr rfl) rfl rfl drop_ ⟨?_, rfl⟩
      first
      | exact congrArg I (by rw [findIdx_found (by omega) hk.2 hc1, if_pos (by omega)])
      | exact congrArg I (by
          have e1 : l.findIdx p = l.length := by
            rw [List.findIdx_eq_length]
            intro x hx
            obtain ⟨j, hj, rfl⟩ := List.mem_iff_getElem.1 hx
            rw [← nth_get hj]
            exact hk.2 j (by omega)
          rw [e1, if_neg (by omega)])
    · try simp only [cnd] at hc1
      refine WX.skip ?_
      refine Fin.block_normal ?_
      refine Fin.then_normal ?_
      refine WX.region rfl ?_
      refine WXL.bin Met.none rfl rfl bvA ?_
      refine WXL.move Met.none rfl ?_
      refine WXL.nil ?_
      refine Fin.loop_next (k + 1) ⟨by omega, fun j hj => ?_⟩ (by omega) (fun s hs => hs.tl [] 0)
      rcases Nat.lt_or_ge j k with q | q
      · exact hk.2 j q
      · have e : j = k := by omega
        subst e
        exact hc1
  · try simp only [cnd] at hc0
    refine WX.exit ?_
    refine Fin.then_exit ?_
    refine Fin.loop_exit ?_
    refine Fin.block_hit rfl ?_
    refine Fin.then_normal ?_
    refine WX.seq ?_
    refine WX.region rfl ?_
    refine WXL.assign Met.none rfl ?_
    refine WXL.nil ?_
    refine Fin.then_normal ?_
    refine WX.ret ?_
    refine Fin.result (O' := O) (.inr rfl) rfl rfl drop_ ⟨?_, rfl⟩
    first
    | exact congrArg I (by rw [findIdx_found (by omega) hk.2 hc1, if_pos (by omega)])
    | exact congrArg I (by
        have e1 : l.findIdx p = l.length := by
          rw [List.findIdx_eq_length]
          intro x hx
          obtain ⟨j, hj, rfl⟩ := List.mem_iff_getElem.1 hx
          rw [← nth_get hj]
          exact hk.2 j (by omega)
        rw [e1, if_neg (by omega)])

theorem containsE_ok (O : Objs) (l : List E4) (a : Option Addr) (c : Nat) (f : FuncId) (first cap : Array Value) (p : E4 → Bool) (hl : Src O 4 (.slice a l.length c) l.length (flat encE l)) (hlen : l.length ≤ 1000000) (hf : fnOk Try.prog f = true) (ht : Tells Try.prog O f first.toList cap.toList aggE p l) :
    Spec Try.prog true 57 #[.slice a l.length c, .func (.func f) first cap] O fun v O' => v = .bool (l.any p) ∧ O' = O := by
  refine Spec.enter (args := [_, _]) (m := 9) Try.func57 rfl rfl (by decide +kernel) fun h0 => ?_
  refine WX.seq ?_
  refine WX.region rfl ?_
  refine WXL.assign Met.none rfl ?_
  refine WXL.nil ?_
  refine Fin.then_normal ?_
  refine WX.seq ?_
  refine WX.region rfl ?_
  refine WXL.move Met.none rfl ?_
  refine WXL.move Met.none rfl ?_
  refine WXL.cl (O1 := _) Met.none rfl (fnOk_of Try.func59 (by decide +kernel)) rfl (fun _ h => h) (indexE_ok _ l a c f first cap p hl hlen hf ht) (fun v O' hp => ?_)
  obtain ⟨rfl, hO⟩ := hp
  subst O'
  refine WXL.bin Met.none rfl rfl rfl ?_
  refine WXL.assign Met.none rfl ?_
  refine WXL.nil ?_
  refine Fin.then_normal ?_
  refine WX.ret ?_
  refine Fin.result (O' := O) (.inr rfl) rfl rfl drop_ ⟨congrArg Value.bool ?_, rfl⟩
  rw [Bool.eq_iff_iff]
  simp only [decide_eq_true_eq, List.any_eq_true]
  constructor
  · intro h
    split at h
    · rename_i hlt
      exact ⟨l[l.findIdx p], List.getElem_mem hlt, List.findIdx_getElem⟩
    · omega
  · rintro ⟨x, hx, hp⟩
    have := List.findIdx_lt_length_of_exists (p := p) (xs := l) ⟨x, hx, hp⟩
    rw [if_pos this]
    omega

theorem bad5_any (n : Net4) : n.edges.any (fun e => decide (BadEdge n e)) = true ↔ Bad5 n := by
  rw [List.any_eq_true]
  unfold Bad5
  constructor
  · rintro ⟨e, he, hb⟩
    obtain ⟨k, hk, rfl⟩ := List.mem_iff_getElem.1 he
    exact ⟨k, hk, by rw [nth_get hk]; exact of_decide_eq_true hb⟩
  · rintro ⟨k, hk, hb⟩
    exact ⟨_, nth_mem hk, decide_eq_true hb⟩

theorem valid_ok (O : Objs) (n : Net4) (a : Option Addr) (c : Nat) (hl : Edges O n a c) (hlen : n.edges.length ≤ 1000000) :
    Spec Try.prog false 34 #[netV n a c] O fun v O' => ∃ k, v = I k ∧ Wrong n k ∧ O' = O := by
  refine Spec.enter (args := [_]) (m := 44) Try.func34 rfl rfl (by decide +kernel) fun h0 => ?_
  refine WX.seq ?_
  refine WX.region rfl ?_
  refine WXL.box (c := [_, _, _, _]) Met.none rfl rfl rfl (fun b1 => ?_)
  refine WXL.assign Met.none rfl ?_
  refine WXL.nil ?_
  refine Fin.then_normal ?_
  refine WX.seq ?_
  refine WX.region rfl ?_
  refine WXL.alloc (c := [_]) Met.none zero95 rfl (fun b3 => ?_)
  refine WXL.st (vs := [_]) (c' := [_]) Met.none rfl rfl rfl sz95 ?_
  refine WXL.nil ?_
  refine Fin.then_normal ?_
  refine WX.seq ?_
  refine WX.block ?_
  refine WX.seq ?_
  refine WX.region rfl ?_
  refine WXL.fieldAddr (off' := 0) Met.none rfl Try.underlying36 rfl sz3 rfl ?_
  first | refine WXL.ld Met.none rfl agg3 ?_ | refine WXL.ldS Met.none rfl agg3 ?_
  refine WXL.bin Met.none rfl rfl rfl ?_
  refine WXL.move Met.none rfl ?_
  refine WXL.split (d := 8) rfl (fun hg8 => ?_) (fun hg8 => ?_)
  · try simp only [cnd] at hg8
    refine WXL.miss (j := 3) (d := 8) rfl rfl rfl ?_
    refine WXL.miss (j := 3) (d := 8) rfl rfl rfl ?_
    refine WXL.miss (j := 3) (d := 8) rfl rfl rfl ?_
    refine WXL.miss (j := 3) (d := 8) rfl rfl rfl ?_
    refine WXL.pick_t Met.none rfl rfl ?_
    refine WXL.assign Met.none rfl ?_
    refine WXL.nil ?_
    refine Fin.then_normal ?_
    refine WX.cond rfl (fun hc0 => ?_) (fun hc0 => nomatch hc0)
    refine WX.seq ?_
    refine WX.region rfl ?_
    refine WXL.assign Met.none rfl ?_
    refine WXL.nil ?_
    refine Fin.then_normal ?_
    refine WX.ret ?_
    refine Fin.block_ret ?_
    refine Fin.then_ret ?_
    refine Fin.result (O' := O) (.inr rfl) rfl rfl drop_ ⟨_, rfl, ?_, rfl⟩
    first
    | exact .inl ⟨by unfold Bad4; omega, rfl⟩
    | exact .inr (.inl ⟨by unfold Bad4; omega, by unfold Bad1; omega, rfl⟩)
    | exact .inr (.inr (.inl ⟨by unfold Bad4; omega, by unfold Bad1; omega, (bad5_any n).1 hc2, rfl⟩))
    | exact .inr (.inr (.inr ⟨by unfold Bad4; omega, by unfold Bad1; omega, fun h => (by rw [(bad5_any n).2 h] at hc2; cases hc2), rfl⟩))
  · try simp only [cnd] at hg8
    refine WXL.fieldAddr (off' := 3) (Met.some rfl rfl rfl) rfl Try.underlying36 rfl sz34 rfl ?_
    first | refine WXL.ld (Met.some rfl rfl rfl) rfl agg34 ?_ | refine WXL.ldS (Met.some rfl rfl rfl) rfl agg34 ?_
    refine WXL.len (Met.some rfl rfl rfl) rfl Try.underlying34 ?_
    refine WXL.bin (Met.some rfl rfl rfl) rfl rfl rfl ?_
    refine WXL.pick_f Met.none rfl rfl ?_
    refine WXL.assign Met.none rfl ?_
    refine WXL.nil ?_
    refine Fin.then_normal ?_
    refine WX.cond rfl (fun hc0 => ?_) (fun hc0 => ?_)
    · try simp only [cnd] at hc0
      refine WX.seq ?_
      refine WX.region rfl ?_
      refine WXL.assign Met.none rfl ?_
      refine WXL.nil ?_
      refine Fin.then_normal ?_
      refine WX.ret ?_
      refine Fin.block_ret ?_
      refine Fin.then_ret ?_
      refine Fin.result (O' := O) (.inr rfl) rfl rfl drop_ ⟨_, rfl, ?_, rfl⟩
      first
      | exact .inl ⟨by unfold Bad4; omega, rfl⟩
      | exact .inr (.inl ⟨by unfold Bad4; omega, by unfold Bad1; omega, rfl⟩)
      | exact .inr (.inr (.inl ⟨by unfold Bad4; omega, by unfold Bad1; omega, (bad5_any n).1 hc2, rfl⟩))
      | exact .inr (.inr (.inr ⟨by unfold Bad4; omega, by unfold Bad1; omega, fun h => (by rw [(bad5_any n).2 h] at hc2; cases hc2), rfl⟩))
    · try simp only [cnd] at hc0
      refine WX.seq ?_
      refine WX.region rfl ?_
      refine WXL.fieldAddr (off' := 0) Met.none rfl Try.underlying36 rfl sz3 rfl ?_
      first | refine WXL.ld Met.none rfl agg3 ?_ | refine WXL.ldS Met.none rfl agg3 ?_
      refine WXL.bin Met.none rfl rfl rfl ?_
      refine WXL.move Met.none rfl ?_
      refine WXL.split (d := 18) rfl (fun hg18 => ?_) (fun hg18 => ?_)
      · try simp only [cnd] at hg18
        refine WXL.miss (j := 3) (d := 18) rfl rfl rfl ?_
        refine WXL.miss (j := 3) (d := 18) rfl rfl rfl ?_
        refine WXL.miss (j := 3) (d := 18) rfl rfl rfl ?_
        refine WXL.miss (j := 3) (d := 18) rfl rfl rfl ?_
        refine WXL.miss (j := 3) (d := 18) rfl rfl rfl ?_
        refine WXL.pick_t Met.none rfl rfl ?_
        refine WXL.move Met.none rfl ?_
        refine WXL.miss (j := 10) (d := 25) rfl rfl rfl ?_
        refine WXL.miss (j := 10) (d := 25) rfl rfl rfl ?_
        refine WXL.miss (j := 10) (d := 25) rfl rfl rfl ?_
        refine WXL.miss (j := 10) (d := 25) rfl rfl rfl ?_
        refine WXL.miss (j := 10) (d := 25) rfl rfl rfl ?_
        refine WXL.pick_t Met.none rfl rfl ?_
        refine WXL.move Met.none rfl ?_
        refine WXL.miss (j := 17) (d := 32) rfl rfl rfl ?_
        refine WXL.miss (j := 17) (d := 32) rfl rfl rfl ?_
        refine WXL.miss (j := 17) (d := 32) rfl rfl rfl ?_
        refine WXL.miss (j := 17) (d := 32) rfl rfl rfl ?_
        refine WXL.miss (j := 17) (d := 32) rfl rfl rfl ?_
        refine WXL.pick_t Met.none rfl rfl ?_
        refine WXL.assign Met.none rfl ?_
        refine WXL.nil ?_
        refine Fin.then_normal ?_
        refine WX.cond rfl (fun hc1 => ?_) (fun hc1 => nomatch hc1)
        refine WX.seq ?_
        refine WX.region rfl ?_
        refine WXL.assign Met.none rfl ?_
        refine WXL.nil ?_
        refine Fin.then_normal ?_
        refine WX.ret ?_
        refine Fin.block_ret ?_
        refine Fin.then_ret ?_
        refine Fin.result (O' := O) (.inr rfl) rfl rfl drop_ ⟨_, rfl, ?_, rfl⟩
        first
        | exact .inl ⟨by unfold Bad4; omega, rfl⟩
        | exact .inr (.inl ⟨by unfold Bad4; omega, by unfold Bad1; omega, rfl⟩)
        | exact .inr (.inr (.inl ⟨by unfold Bad4; omega, by unfold Bad1; omega, (bad5_any n).1 hc2, rfl⟩))
        | exact .inr (.inr (.inr ⟨by unfold Bad4; omega, by unfold Bad1; omega, fun h => (by rw [(bad5_any n).2 h] at hc2; cases hc2), rfl⟩))
      · try simp only [cnd] at hg18
        refine WXL.ldN (vs := [_, _, _, _]) (Met.some rfl rfl rfl) rfl agg36 sz36 ?_
        refine WXL.fieldAddr (off' := 1) (Met.some rfl rfl rfl) rfl Try.underlying36 rfl sz3 rfl ?_
        first | refine WXL.ld (Met.some rfl rfl rfl) rfl agg3 ?_ | refine WXL.ldS (Met.some rfl rfl rfl) rfl agg3 ?_
        refine WXL.cl (O1 := _) (Met.some rfl rfl rfl) rfl (fnOk_of Try.func56 (by decide +kernel)) rfl (fun _ h => h) (node_ok _ n a c _) (fun v O' hp => ?_)
        obtain ⟨rfl, hO⟩ := hp
        subst O'
        refine WXL.not (Met.some rfl rfl rfl) rfl ?_
        refine WXL.pick_f Met.none rfl rfl ?_
        refine WXL.move Met.none rfl ?_
        refine WXL.split (d := 25) rfl (fun hg25 => ?_) (fun hg25 => ?_)
        · try simp only [cnd] at hg25
          refine WXL.miss (j := 10) (d := 25) rfl rfl rfl ?_
          refine WXL.miss (j := 10) (d := 25) rfl rfl rfl ?_
          refine WXL.miss (j := 10) (d := 25) rfl rfl rfl ?_
          refine WXL.miss (j := 10) (d := 25) rfl rfl rfl ?_
          refine WXL.miss (j := 10) (d := 25) rfl rfl rfl ?_
          refine WXL.pick_t Met.none rfl rfl ?_
          refine WXL.move Met.none rfl ?_
          refine WXL.miss (j := 17) (d := 32) rfl rfl rfl ?_
          refine WXL.miss (j := 17) (d := 32) rfl rfl rfl ?_
          refine WXL.miss (j := 17) (d := 32) rfl rfl rfl ?_
          refine WXL.miss (j := 17) (d := 32) rfl rfl rfl ?_
          refine WXL.miss (j := 17) (d := 32) rfl rfl rfl ?_
          refine WXL.pick_t Met.none rfl rfl ?_
          refine WXL.assign Met.none rfl ?_
          refine WXL.nil ?_
          refine Fin.then_normal ?_
          refine WX.cond rfl (fun hc1 => ?_) (fun hc1 => nomatch hc1)
          refine WX.seq ?_
          refine WX.region rfl ?_
          refine WXL.assign Met.none rfl ?_
          refine WXL.nil ?_
          refine Fin.then_normal ?_
          refine WX.ret ?_
          refine Fin.block_ret ?_
          refine Fin.then_ret ?_
          refine Fin.result (O' := O) (.inr rfl) rfl rfl drop_ ⟨_, rfl, ?_, rfl⟩
          first
          | exact .inl ⟨by unfold Bad4; omega, rfl⟩
          | exact .inr (.inl ⟨by unfold Bad4; omega, by unfold Bad1; omega, rfl⟩)
          | exact .inr (.inr (.inl ⟨by unfold Bad4; omega, by unfold Bad1; omega, (bad5_any n).1 hc2, rfl⟩))
          | exact .inr (.inr (.inr ⟨by unfold Bad4; omega, by unfold Bad1; omega, fun h => (by rw [(bad5_any n).2 h] at hc2; cases hc2), rfl⟩))
        · try simp only [cnd] at hg25
          refine WXL.ldN (vs := [_, _, _, _]) (Met.some rfl rfl rfl) rfl agg36 sz36 ?_
          refine WXL.fieldAddr (off' := 2) (Met.some rfl rfl rfl) rfl Try.underlying36 rfl sz3 rfl ?_
          first | refine WXL.ld (Met.some rfl rfl rfl) rfl agg3 ?_ | refine WXL.ldS (Met.some rfl rfl rfl) rfl agg3 ?_
          refine WXL.cl (O1 := _) (Met.some rfl rfl rfl) rfl (fnOk_of Try.func56 (by decide +kernel)) rfl (fun _ h => h) (node_ok _ n a c _) (fun v O' hp => ?_)
          obtain ⟨rfl, hO⟩ := hp
          subst O'
          refine WXL.not (Met.some rfl rfl rfl) rfl ?_
          refine WXL.pick_f Met.none rfl rfl ?_
          refine WXL.move Met.none rfl ?_
          refine WXL.split (d := 32) rfl (fun hg32 => ?_) (fun hg32 => ?_)
          · try simp only [cnd] at hg32
            refine WXL.miss (j := 17) (d := 32) rfl rfl rfl ?_
            refine WXL.miss (j := 17) (d := 32) rfl rfl rfl ?_
            refine WXL.miss (j := 17) (d := 32) rfl rfl rfl ?_
            refine WXL.miss (j := 17) (d := 32) rfl rfl rfl ?_
            refine WXL.miss (j := 17) (d := 32) rfl rfl rfl ?_
            refine WXL.pick_t Met.none rfl rfl ?_
            refine WXL.assign Met.none rfl ?_
            refine WXL.nil ?_
            refine Fin.then_normal ?_
            refine WX.cond rfl (fun hc1 => ?_) (fun hc1 => nomatch hc1)
            refine WX.seq ?_
            refine WX.region rfl ?_
            refine WXL.assign Met.none rfl ?_
            refine WXL.nil ?_
            refine Fin.then_normal ?_
            refine WX.ret ?_
            refine Fin.block_ret ?_
            refine Fin.then_ret ?_
            refine Fin.result (O' := O) (.inr rfl) rfl rfl drop_ ⟨_, rfl, ?_, rfl⟩
            first
            | exact .inl ⟨by unfold Bad4; omega, rfl⟩
            | exact .inr (.inl ⟨by unfold Bad4; omega, by unfold Bad1; omega, rfl⟩)
            | exact .inr (.inr (.inl ⟨by unfold Bad4; omega, by unfold Bad1; omega, (bad5_any n).1 hc2, rfl⟩))
            | exact .inr (.inr (.inr ⟨by unfold Bad4; omega, by unfold Bad1; omega, fun h => (by rw [(bad5_any n).2 h] at hc2; cases hc2), rfl⟩))
          · try simp only [cnd] at hg32
            refine WXL.fieldAddr (off' := 1) (Met.some rfl rfl rfl) rfl Try.underlying36 rfl sz3 rfl ?_
            first | refine WXL.ld (Met.some rfl rfl rfl) rfl agg3 ?_ | refine WXL.ldS (Met.some rfl rfl rfl) rfl agg3 ?_
            refine WXL.fieldAddr (off' := 2) (Met.some rfl rfl rfl) rfl Try.underlying36 rfl sz3 rfl ?_
            first | refine WXL.ld (Met.some rfl rfl rfl) rfl agg3 ?_ | refine WXL.ldS (Met.some rfl rfl rfl) rfl agg3 ?_
            refine WXL.bin (Met.some rfl rfl rfl) rfl rfl rfl ?_
            refine WXL.pick_f Met.none rfl rfl ?_
            refine WXL.assign Met.none rfl ?_
            refine WXL.nil ?_
            refine Fin.then_normal ?_
            refine WX.cond rfl (fun hc1 => ?_) (fun hc1 => ?_)
            · try simp only [cnd] at hc1
              refine WX.seq ?_
              refine WX.region rfl ?_
              refine WXL.assign Met.none rfl ?_
              refine WXL.nil ?_
              refine Fin.then_normal ?_
              refine WX.ret ?_
              refine Fin.block_ret ?_
              refine Fin.then_ret ?_
              refine Fin.result (O' := O) (.inr rfl) rfl rfl drop_ ⟨_, rfl, ?_, rfl⟩
              first
              | exact .inl ⟨by unfold Bad4; omega, rfl⟩
              | exact .inr (.inl ⟨by unfold Bad4; omega, by unfold Bad1; omega, rfl⟩)
              | exact .inr (.inr (.inl ⟨by unfold Bad4; omega, by unfold Bad1; omega, (bad5_any n).1 hc2, rfl⟩))
              | exact .inr (.inr (.inr ⟨by unfold Bad4; omega, by unfold Bad1; omega, fun h => (by rw [(bad5_any n).2 h] at hc2; cases hc2), rfl⟩))
            · try simp only [cnd] at hc1
              refine WX.seq ?_
              refine WX.region rfl ?_
              refine WXL.fieldAddr (off' := 3) Met.none rfl Try.underlying36 rfl sz34 rfl ?_
              first | refine WXL.ld Met.none rfl agg34 ?_ | refine WXL.ldS Met.none rfl agg34 ?_
              refine WXL.makeFunc Met.none rfl rfl ?_
              refine WXL.cl (O1 := _) Met.none rfl (fnOk_of Try.func57 (by decide +kernel)) rfl (fun _ h => h) (containsE_ok _ n.edges a c 58 #[] _ (fun e => decide (BadEdge n e)) src_ hlen (fnOk_of Try.func58 (by decide +kernel)) (fun N e _ => bad_ok (N ++ _) n a c e b1 b3 (Knows.app at_) (Knows.app at_))) (fun v O' hp => ?_)
              obtain ⟨rfl, hO⟩ := hp
              subst O'
              refine WXL.assign Met.none rfl ?_
              refine WXL.nil ?_
              refine Fin.then_normal ?_
              refine WX.cond rfl (fun hc2 => ?_) (fun hc2 => ?_)
              · try simp only [cnd] at hc2
                refine WX.seq ?_
                refine WX.region rfl ?_
                refine WXL.assign Met.none rfl ?_
                refine WXL.nil ?_
                refine Fin.then_normal ?_
                refine WX.ret ?_
                refine Fin.block_ret ?_
                refine Fin.then_ret ?_
                refine Fin.result (O' := O) (.inr rfl) rfl rfl drop_ ⟨_, rfl, ?_, rfl⟩
                first
                | exact .inl ⟨by unfold Bad4; omega, rfl⟩
                | exact .inr (.inl ⟨by unfold Bad4; omega, by unfold Bad1; omega, rfl⟩)
                | exact .inr (.inr (.inl ⟨by unfold Bad4; omega, by unfold Bad1; omega, (bad5_any n).1 hc2, rfl⟩))
                | exact .inr (.inr (.inr ⟨by unfold Bad4; omega, by unfold Bad1; omega, fun h => (by rw [(bad5_any n).2 h] at hc2; cases hc2), rfl⟩))
              · try simp only [cnd] at hc2
                refine WX.skip ?_
                refine Fin.block_normal ?_
                refine Fin.then_normal ?_
                refine WX.seq ?_
                refine WX.region rfl ?_
                refine WXL.assign Met.none rfl ?_
                refine WXL.nil ?_
                refine Fin.then_normal ?_
                refine WX.ret ?_
                refine Fin.result (O' := O) (.inr rfl) rfl rfl drop_ ⟨_, rfl, ?_, rfl⟩
                first
                | exact .inl ⟨by unfold Bad4; omega, rfl⟩
                | exact .inr (.inl ⟨by unfold Bad4; omega, by unfold Bad1; omega, rfl⟩)
                | exact .inr (.inr (.inl ⟨by unfold Bad4; omega, by unfold Bad1; omega, (bad5_any n).1 hc2, rfl⟩))
                | exact .inr (.inr (.inr ⟨by unfold Bad4; omega, by unfold Bad1; omega, fun h => (by rw [(bad5_any n).2 h] at hc2; cases hc2), rfl⟩))

end Go.Proofs.Ytjmklialkjncaaa.Eng

set_option linter.unusedVariables false
set_option linter.unusedSimpArgs false
namespace Go.Proofs.Ytjmklialkjncaaa.Eng

structure Arc where
  edge : Nat
  to : Int
  fwd : Bool
  deriving Inhabited

def encA (a : Arc) : List Value := [I a.edge, I a.to, .bool a.fwd]
theorem encA_len (a : Arc) : (encA a).length = 3 := rfl
def aggA (a : Arc) : Value := .agg (encA a).toArray

theorem cell_flatE (l : List E4) (k j : Nat) {v : Value} (h : k < l.length) (hv : (encE (nth l k))[j]? = some v) : (flat encE l)[k * 4 + j]? = some v := by
  rw [cell_flat encE_len l k j h, hv]
  have := (List.getElem?_eq_some_iff.1 hv).1
  rw [encE_len] at this
  exact this

def restP (n : Net4) (f : List Int) (a : Arc) : Int := if a.fwd = true then (nth n.edges a.edge).cap - nth f a.edge else (nth n.edges a.edge).back + nth f a.edge

theorem rest_ok (O : Objs) (n : Net4) (f : List Int) (r : Arc) (a af : Option Addr) (c cf : Nat) (hl : Edges O n a c) (hf : Src O 1 (.slice af f.length cf) f.length (f.map I)) (hlen : f.length = n.edges.length) (hr : r.edge < f.length)
    (h1 : r.fwd = true → In64 ((nth n.edges r.edge).cap - nth f r.edge)) (h2 : r.fwd = false → In64 ((nth n.edges r.edge).back + nth f r.edge)) :
    Spec Try.prog true 38 #[netV n a c, .slice af f.length cf, aggA r] O fun v O' => v = I (restP n f r) ∧ O' = O := by
  unfold In64 at h1 h2
  refine Spec.enter (args := [_, _, _]) (m := 35) Try.func38 rfl rfl (by decide +kernel) fun h0 => ?_
  refine WX.seq ?_
  refine WX.region rfl ?_
  refine WXL.box (c := [_, _, _, _]) Met.none rfl rfl rfl (fun b3 => ?_)
  refine WXL.box (c := [_, _, _]) Met.none rfl rfl rfl (fun b5 => ?_)
  refine WXL.assign Met.none rfl ?_
  refine WXL.nil ?_
  refine Fin.then_normal ?_
  refine WX.seq ?_
  refine WX.seq ?_
  refine WX.region rfl ?_
  refine WXL.fieldAddr (off' := 2) Met.none rfl Try.underlying79 rfl sz4 rfl ?_
  first | refine WXL.ld Met.none rfl agg4 ?_ | refine WXL.ldS Met.none rfl agg4 ?_
  refine WXL.nil ?_
  refine Fin.then_normal ?_
  refine WX.cond rfl (fun hc0 => ?_) (fun hc0 => ?_)
  · try simp only [cnd] at hc0
    have h1 := h1 hc0
    refine WX.seq ?_
    refine WX.draw rfl ?_
    refine WXL.fieldAddr (off' := 3) Met.none rfl Try.underlying36 rfl sz34 rfl ?_
    first | refine WXL.ld Met.none rfl agg34 ?_ | refine WXL.ldS Met.none rfl agg34 ?_
    refine WXL.fieldAddr (off' := 0) Met.none rfl Try.underlying79 rfl sz3 rfl ?_
    first | refine WXL.ld Met.none rfl agg3 ?_ | refine WXL.ldS Met.none rfl agg3 ?_
    first | refine WXL.ix Met.none rfl rfl elem34 sz44 ?_ | refine WXL.ixS Met.none rfl rfl elem34 sz44 ?_
    first | refine WXL.fieldAddr Met.none rfl Try.underlying44 rfl sz3 rfl ?_ | refine WXL.faS Met.none rfl Try.underlying44 rfl sz3 ?_
    first | refine WXL.ld Met.none rfl agg3 ?_ | refine WXL.ldS Met.none rfl agg3 ?_
    refine WXL.move Met.none rfl ?_
    refine WXL.fieldAddr (off' := 0) Met.none rfl Try.underlying79 rfl sz3 rfl ?_
    first | refine WXL.ld Met.none rfl agg3 ?_ | refine WXL.ldS Met.none rfl agg3 ?_
    first | refine WXL.ix Met.none rfl rfl elem22 sz3 ?_ | refine WXL.ixS Met.none rfl rfl elem22 sz3 ?_
    first | refine WXL.ld Met.none rfl agg3 ?_ | refine WXL.ldS Met.none rfl agg3 ?_
    refine WXL.bin Met.none rfl rfl bvS ?_
    refine WXL.assign Met.none rfl ?_
    refine WXL.nil ?_
    refine Fin.then_normal ?_
    refine WX.ret ?_
    refine Fin.then_ret ?_
    refine Fin.result (O' := O) (.inr rfl) rfl rfl drop_ ⟨?_, rfl⟩
    unfold restP
    first | (rw [if_pos hc0]; exact rfl) | (rw [if_neg (by rw [hc0]; decide)]; exact rfl)
  · try simp only [cnd] at hc0
    have h2 := h2 hc0
    refine WX.skip ?_
    refine Fin.then_normal ?_
    refine WX.seq ?_
    refine WX.draw rfl ?_
    refine WXL.fieldAddr (off' := 3) Met.none rfl Try.underlying36 rfl sz34 rfl ?_
    first | refine WXL.ld Met.none rfl agg34 ?_ | refine WXL.ldS Met.none rfl agg34 ?_
    refine WXL.fieldAddr (off' := 0) Met.none rfl Try.underlying79 rfl sz3 rfl ?_
    first | refine WXL.ld Met.none rfl agg3 ?_ | refine WXL.ldS Met.none rfl agg3 ?_
    first | refine WXL.ix Met.none rfl rfl elem34 sz44 ?_ | refine WXL.ixS Met.none rfl rfl elem34 sz44 ?_
    first | refine WXL.fieldAddr Met.none rfl Try.underlying44 rfl sz3 rfl ?_ | refine WXL.faS Met.none rfl Try.underlying44 rfl sz3 ?_
    first | refine WXL.ld Met.none rfl agg3 ?_ | refine WXL.ldS Met.none rfl agg3 ?_
    refine WXL.move Met.none rfl ?_
    refine WXL.fieldAddr (off' := 0) Met.none rfl Try.underlying79 rfl sz3 rfl ?_
    first | refine WXL.ld Met.none rfl agg3 ?_ | refine WXL.ldS Met.none rfl agg3 ?_
    first | refine WXL.ix Met.none rfl rfl elem22 sz3 ?_ | refine WXL.ixS Met.none rfl rfl elem22 sz3 ?_
    first | refine WXL.ld Met.none rfl agg3 ?_ | refine WXL.ldS Met.none rfl agg3 ?_
    refine WXL.bin Met.none rfl rfl bvA ?_
    refine WXL.assign Met.none rfl ?_
    refine WXL.nil ?_
    refine Fin.then_normal ?_
    refine WX.ret ?_
    refine Fin.result (O' := O) (.inr rfl) rfl rfl drop_ ⟨?_, rfl⟩
    unfold restP
    first | (rw [if_pos hc0]; exact rfl) | (rw [if_neg (by rw [hc0]; decide)]; exact rfl)

theorem Grow.row_of {sz : Nat} {a : Option Addr} {n c : Nat} {cs : List Value} {G : Objs} (hg : Grow sz a n c cs G) (h : 0 < n) : ∃ b, a = some ⟨b, 0, none⟩ ∧ G = [(b, ⟨sz, false, cs⟩)] ∧ cs.length = n * sz := by
  rcases hg with ⟨_, h1, _⟩ | h2
  · omega
  · exact h2

def pushP (f : List Int) (r : Arc) (d : Int) : List Int := f.set r.edge (nth f r.edge + if r.fwd = true then d else -d)

theorem push_ok (R G : Objs) (f : List Int) (r : Arc) (d : Int) (a : Option Addr) (c : Nat) (hg : Grow 1 a f.length c (f.map I) G) (hr : r.edge < f.length) (hd : -9223372036854775807 ≤ d ∧ d ≤ 9223372036854775807)
    (h1 : In64 (nth f r.edge + if r.fwd = true then d else -d)) :
    Spec Try.prog false 39 #[.slice a f.length c, aggA r, I d] (G ++ R) fun v O' => ∃ G', Grow 1 a f.length c ((pushP f r d).map I) G' ∧ O' = G' ++ R := by
  obtain ⟨b, rfl, rfl, hlen⟩ := hg.row_of (by omega)
  unfold In64 at h1
  refine Spec.enter (args := [_, _, _]) (m := 19) Try.func39 rfl rfl (by decide +kernel) fun h0 => ?_
  refine WX.seq ?_
  refine WX.region rfl ?_
  refine WXL.box (c := [_, _, _]) Met.none rfl rfl rfl (fun b4 => ?_)
  refine WXL.nil ?_
  refine Fin.then_normal ?_
  refine WX.seq ?_
  refine WX.seq ?_
  refine WX.region rfl ?_
  refine WXL.fieldAddr (off' := 2) Met.none rfl Try.underlying79 rfl sz4 rfl ?_
  first | refine WXL.ld Met.none rfl agg4 ?_ | refine WXL.ldS Met.none rfl agg4 ?_
  refine WXL.not Met.none rfl ?_
  refine WXL.nil ?_
  refine Fin.then_normal ?_
  refine WX.cond rfl (fun hc0 => ?_) (fun hc0 => ?_)
  · try simp only [cnd] at hc0
    rw [if_neg (by rw [hc0]; decide)] at h1
    refine WX.region rfl ?_
    refine WXL.move Met.none rfl ?_
    refine WXL.neg Met.none rfl (by first | exact wrap_neg (by omega) (by omega) | exact rfl) ?_
    refine WXL.assign Met.none rfl ?_
    refine WXL.nil ?_
    refine Fin.then_normal ?_
    refine WX.region rfl ?_
    refine WXL.move Met.none rfl ?_
    refine WXL.fieldAddr (off' := 0) Met.none rfl Try.underlying79 rfl sz3 rfl ?_
    first | refine WXL.ld Met.none rfl agg3 ?_ | refine WXL.ldS Met.none rfl agg3 ?_
    first | refine WXL.ix Met.none rfl rfl elem22 sz3 ?_ | refine WXL.ixS Met.none rfl rfl elem22 sz3 ?_
    first | refine WXL.ld Met.none rfl agg3 ?_ | refine WXL.ldS Met.none rfl agg3 ?_
    refine WXL.move Met.none rfl ?_
    refine WXL.bin Met.none rfl rfl bvA ?_
    first | refine WXL.ix Met.none rfl rfl elem22 sz3 ?_ | refine WXL.ixS Met.none rfl rfl elem22 sz3 ?_
    refine WXL.st (vs := [_]) Met.none rfl rfl rfl sz3 ?_
    refine WXL.nil ?_
    refine Fin.results (O' := [(b, ⟨1, false, (pushP f r d).map I⟩)] ++ R) (.inl rfl) rfl (vs := []) trivial ?_ ⟨_, .inr ⟨b, rfl, rfl, by unfold pushP; simp⟩, rfl⟩
    intro h hs
    unfold pushP
    first | rw [if_pos hc0] | rw [if_neg (by rw [hc0]; decide)]
    exact hs.tail
  · try simp only [cnd] at hc0
    rw [if_pos hc0] at h1
    refine WX.skip ?_
    refine Fin.then_normal ?_
    refine WX.region rfl ?_
    refine WXL.move Met.none rfl ?_
    refine WXL.fieldAddr (off' := 0) Met.none rfl Try.underlying79 rfl sz3 rfl ?_
    first | refine WXL.ld Met.none rfl agg3 ?_ | refine WXL.ldS Met.none rfl agg3 ?_
    first | refine WXL.ix Met.none rfl rfl elem22 sz3 ?_ | refine WXL.ixS Met.none rfl rfl elem22 sz3 ?_
    first | refine WXL.ld Met.none rfl agg3 ?_ | refine WXL.ldS Met.none rfl agg3 ?_
    refine WXL.move Met.none rfl ?_
    refine WXL.bin Met.none rfl rfl bvA ?_
    first | refine WXL.ix Met.none rfl rfl elem22 sz3 ?_ | refine WXL.ixS Met.none rfl rfl elem22 sz3 ?_
    refine WXL.st (vs := [_]) Met.none rfl rfl rfl sz3 ?_
    refine WXL.nil ?_
    refine Fin.results (O' := [(b, ⟨1, false, (pushP f r d).map I⟩)] ++ R) (.inl rfl) rfl (vs := []) trivial ?_ ⟨_, .inr ⟨b, rfl, rfl, by unfold pushP; simp⟩, rfl⟩
    intro h hs
    unfold pushP
    first | rw [if_pos hc0] | rw [if_neg (by rw [hc0]; decide)]
    exact hs.tail

def otherR (e : E4) (v : Int) : Int := if e.a = v then e.b else e.a

theorem other_ok (O : Objs) (e : E4) (v : Int) : Spec Try.prog true 41 #[aggE e, I v] O fun u O' => u = I (otherR e v) ∧ O' = O := by
  refine Spec.enter (args := [_, _]) (m := 13) Try.func41 rfl rfl (by decide +kernel) fun h0 => ?_
  refine WX.seq ?_
  refine WX.region rfl ?_
  refine WXL.box (c := [_, _, _, _]) Met.none rfl rfl rfl (fun b2 => ?_)
  refine WXL.assign Met.none rfl ?_
  refine WXL.nil ?_
  refine Fin.then_normal ?_
  refine WX.seq ?_
  refine WX.seq ?_
  refine WX.region rfl ?_
  refine WXL.fieldAddr (off' := 0) Met.none rfl Try.underlying63 rfl sz3 rfl ?_
  first | refine WXL.ld Met.none rfl agg3 ?_ | refine WXL.ldS Met.none rfl agg3 ?_
  refine WXL.move Met.none rfl ?_
  refine WXL.bin Met.none rfl rfl rfl ?_
  refine WXL.nil ?_
  refine Fin.then_normal ?_
  refine WX.cond rfl (fun hc0 => ?_) (fun hc0 => ?_)
  · try simp only [cnd] at hc0
    refine WX.seq ?_
    refine WX.region rfl ?_
    refine WXL.fieldAddr (off' := 1) Met.none rfl Try.underlying63 rfl sz3 rfl ?_
    first | refine WXL.ld Met.none rfl agg3 ?_ | refine WXL.ldS Met.none rfl agg3 ?_
    refine WXL.assign Met.none rfl ?_
    refine WXL.nil ?_
    refine Fin.then_normal ?_
    refine WX.ret ?_
    refine Fin.then_ret ?_
    refine Fin.result (O' := O) (.inr rfl) rfl rfl drop_ ⟨?_, rfl⟩
    unfold otherR
    first | (rw [if_pos hc0]; exact rfl) | (rw [if_neg hc0]; exact rfl)
  · try simp only [cnd] at hc0
    refine WX.skip ?_
    refine Fin.then_normal ?_
    refine WX.seq ?_
    refine WX.region rfl ?_
    refine WXL.fieldAddr (off' := 0) Met.none rfl Try.underlying63 rfl sz3 rfl ?_
    first | refine WXL.ld Met.none rfl agg3 ?_ | refine WXL.ldS Met.none rfl agg3 ?_
    refine WXL.assign Met.none rfl ?_
    refine WXL.nil ?_
    refine Fin.then_normal ?_
    refine WX.ret ?_
    refine Fin.result (O' := O) (.inr rfl) rfl rfl drop_ ⟨?_, rfl⟩
    unfold otherR
    first | (rw [if_pos hc0]; exact rfl) | (rw [if_neg hc0]; exact rfl)

def restR (e : E4) (f v : Int) : Int × Int := if e.a = v then (e.b, e.cap - f) else if e.b = v then (e.a, e.back + f) else (0, 0)

theorem refRest_ok (O : Objs) (e : E4) (f v : Int) (h1 : In64 (e.cap - f)) (h2 : In64 (e.back + f)) : Spec Try.prog true 42 #[aggE e, I f, I v] O fun u O' => u = .tuple #[I (restR e f v).1, I (restR e f v).2] ∧ O' = O := by
  unfold In64 at h1 h2
  refine Spec.enter (args := [_, _, _]) (m := 28) Try.func42 rfl rfl (by decide +kernel) fun h0 => ?_
  refine WX.seq ?_
  refine WX.region rfl ?_
  refine WXL.box (c := [_, _, _, _]) Met.none rfl rfl rfl (fun b3 => ?_)
  refine WXL.assign Met.none rfl ?_
  refine WXL.assign Met.none rfl ?_
  refine WXL.nil ?_
  refine Fin.then_normal ?_
  refine WX.seq ?_
  refine WX.seq ?_
  refine WX.region rfl ?_
  refine WXL.fieldAddr (off' := 0) Met.none rfl Try.underlying63 rfl sz3 rfl ?_
  first | refine WXL.ld Met.none rfl agg3 ?_ | refine WXL.ldS Met.none rfl agg3 ?_
  refine WXL.move Met.none rfl ?_
  refine WXL.bin Met.none rfl rfl rfl ?_
  refine WXL.nil ?_
  refine Fin.then_normal ?_
  refine WX.cond rfl (fun hc0 => ?_) (fun hc0 => ?_)
  · try simp only [cnd] at hc0
    refine WX.seq ?_
    refine WX.draw rfl ?_
    refine WXL.fieldAddr (off' := 1) Met.none rfl Try.underlying63 rfl sz3 rfl ?_
    first | refine WXL.ld Met.none rfl agg3 ?_ | refine WXL.ldS Met.none rfl agg3 ?_
    refine WXL.fieldAddr (off' := 2) Met.none rfl Try.underlying63 rfl sz3 rfl ?_
    first | refine WXL.ld Met.none rfl agg3 ?_ | refine WXL.ldS Met.none rfl agg3 ?_
    refine WXL.move Met.none rfl ?_
    refine WXL.bin Met.none rfl rfl bvS ?_
    refine WXL.assign Met.none rfl ?_
    refine WXL.assign Met.none rfl ?_
    refine WXL.nil ?_
    refine Fin.then_normal ?_
    refine WX.ret ?_
    refine Fin.then_ret ?_
    refine Fin.result (O' := O) (.inr rfl) rfl rfl drop_ ⟨?_, rfl⟩
    unfold restR
    first | (rw [if_pos hc0]; exact rfl) | (rw [if_neg hc0, if_pos hc1]; exact rfl) | (rw [if_neg hc0, if_neg hc1]; exact rfl)
  · try simp only [cnd] at hc0
    refine WX.skip ?_
    refine Fin.then_normal ?_
    refine WX.seq ?_
    refine WX.seq ?_
    refine WX.region rfl ?_
    refine WXL.fieldAddr (off' := 1) Met.none rfl Try.underlying63 rfl sz3 rfl ?_
    first | refine WXL.ld Met.none rfl agg3 ?_ | refine WXL.ldS Met.none rfl agg3 ?_
    refine WXL.move Met.none rfl ?_
    refine WXL.bin Met.none rfl rfl rfl ?_
    refine WXL.nil ?_
    refine Fin.then_normal ?_
    refine WX.cond rfl (fun hc1 => ?_) (fun hc1 => ?_)
    · try simp only [cnd] at hc1
      refine WX.seq ?_
      refine WX.draw rfl ?_
      refine WXL.fieldAddr (off' := 0) Met.none rfl Try.underlying63 rfl sz3 rfl ?_
      first | refine WXL.ld Met.none rfl agg3 ?_ | refine WXL.ldS Met.none rfl agg3 ?_
      refine WXL.fieldAddr (off' := 3) Met.none rfl Try.underlying63 rfl sz3 rfl ?_
      first | refine WXL.ld Met.none rfl agg3 ?_ | refine WXL.ldS Met.none rfl agg3 ?_
      refine WXL.move Met.none rfl ?_
      refine WXL.bin Met.none rfl rfl bvA ?_
      refine WXL.assign Met.none rfl ?_
      refine WXL.assign Met.none rfl ?_
      refine WXL.nil ?_
      refine Fin.then_normal ?_
      refine WX.ret ?_
      refine Fin.then_ret ?_
      refine Fin.result (O' := O) (.inr rfl) rfl rfl drop_ ⟨?_, rfl⟩
      unfold restR
      first | (rw [if_pos hc0]; exact rfl) | (rw [if_neg hc0, if_pos hc1]; exact rfl) | (rw [if_neg hc0, if_neg hc1]; exact rfl)
    · try simp only [cnd] at hc1
      refine WX.skip ?_
      refine Fin.then_normal ?_
      refine WX.seq ?_
      refine WX.region rfl ?_
      refine WXL.assign Met.none rfl ?_
      refine WXL.assign Met.none rfl ?_
      refine WXL.nil ?_
      refine Fin.then_normal ?_
      refine WX.ret ?_
      refine Fin.result (O' := O) (.inr rfl) rfl rfl drop_ ⟨?_, rfl⟩
      unfold restR
      first | (rw [if_pos hc0]; exact rfl) | (rw [if_neg hc0, if_pos hc1]; exact rfl) | (rw [if_neg hc0, if_neg hc1]; exact rfl)

def changeR (n : Net4) (f : List Int) (i : Nat) (to d : Int) : List Int := f.set i (if (nth n.edges i).b = to then nth f i + d else nth f i - d)

theorem change_ok (R G : Objs) (n : Net4) (f : List Int) (i : Nat) (to d : Int) (a af : Option Addr) (c cf : Nat) (hl : Edges R n a c) (hg : Grow 1 af f.length cf (f.map I) G) (hi : i < f.length) (hlen : f.length = n.edges.length)
    (h1 : (nth n.edges i).b = to → In64 (nth f i + d)) (h2 : (nth n.edges i).b ≠ to → In64 (nth f i - d)) :
    Spec Try.prog false 43 #[netV n a c, .slice af f.length cf, I i, I to, I d] (G ++ R) fun v O' => ∃ G', Grow 1 af f.length cf ((changeR n f i to d).map I) G' ∧ O' = G' ++ R := by
  obtain ⟨b, rfl, rfl, hgl⟩ := hg.row_of (by omega)
  unfold In64 at h1 h2
  refine Spec.enter (args := [_, _, _, _, _]) (m := 36) Try.func43 rfl rfl (by decide +kernel) fun h0 => ?_
  refine WX.seq ?_
  refine WX.region rfl ?_
  refine WXL.box (c := [_, _, _, _]) Met.none rfl rfl rfl (fun b5 => ?_)
  refine WXL.nil ?_
  refine Fin.then_normal ?_
  refine WX.seq ?_
  refine WX.region rfl ?_
  refine WXL.fieldAddr (off' := 3) Met.none rfl Try.underlying25 rfl sz23 rfl ?_
  first | refine WXL.ld Met.none rfl agg23 ?_ | refine WXL.ldS Met.none rfl agg23 ?_
  refine WXL.move Met.none rfl ?_
  first | refine WXL.ix Met.none rfl rfl elem23 sz63 ?_ | refine WXL.ixS Met.none rfl rfl elem23 sz63 ?_
  first | refine WXL.fieldAddr Met.none rfl Try.underlying63 rfl sz3 rfl ?_ | refine WXL.faS Met.none rfl Try.underlying63 rfl sz3 ?_
  first | refine WXL.ld Met.none rfl agg3 ?_ | refine WXL.ldS Met.none rfl agg3 ?_
  refine WXL.move Met.none rfl ?_
  refine WXL.bin Met.none rfl rfl rfl ?_
  refine WXL.nil ?_
  refine Fin.then_normal ?_
  refine WX.cond rfl (fun hc0 => ?_) (fun hc0 => ?_)
  · try simp only [cnd] at hc0
    have h1 := h1 hc0
    refine WX.region rfl ?_
    refine WXL.move Met.none rfl ?_
    refine WXL.move Met.none rfl ?_
    refine WXL.move Met.none rfl ?_
    refine WXL.move Met.none rfl ?_
    first | refine WXL.ix Met.none rfl rfl elem22 sz3 ?_ | refine WXL.ixS Met.none rfl rfl elem22 sz3 ?_
    first | refine WXL.ld Met.none rfl agg3 ?_ | refine WXL.ldS Met.none rfl agg3 ?_
    refine WXL.move Met.none rfl ?_
    refine WXL.bin Met.none rfl rfl bvA ?_
    first | refine WXL.ix Met.none rfl rfl elem22 sz3 ?_ | refine WXL.ixS Met.none rfl rfl elem22 sz3 ?_
    refine WXL.st (vs := [_]) Met.none rfl rfl rfl sz3 ?_
    refine WXL.nil ?_
    refine Fin.results (O' := [(b, ⟨1, false, (changeR n f i to d).map I⟩)] ++ R) (.inl rfl) rfl (vs := []) trivial ?_ ⟨_, .inr ⟨b, rfl, rfl, by unfold changeR; simp⟩, rfl⟩
    intro h hs
    unfold changeR
    first | rw [if_pos hc0] | rw [if_neg hc0]
    exact hs.tail
  · try simp only [cnd] at hc0
    have h2 := h2 hc0
    refine WX.region rfl ?_
    refine WXL.move Met.none rfl ?_
    refine WXL.move Met.none rfl ?_
    refine WXL.move Met.none rfl ?_
    refine WXL.move Met.none rfl ?_
    first | refine WXL.ix Met.none rfl rfl elem22 sz3 ?_ | refine WXL.ixS Met.none rfl rfl elem22 sz3 ?_
    first | refine WXL.ld Met.none rfl agg3 ?_ | refine WXL.ldS Met.none rfl agg3 ?_
    refine WXL.move Met.none rfl ?_
    refine WXL.bin Met.none rfl rfl bvS ?_
    first | refine WXL.ix Met.none rfl rfl elem22 sz3 ?_ | refine WXL.ixS Met.none rfl rfl elem22 sz3 ?_
    refine WXL.st (vs := [_]) Met.none rfl rfl rfl sz3 ?_
    refine WXL.nil ?_
    refine Fin.results (O' := [(b, ⟨1, false, (changeR n f i to d).map I⟩)] ++ R) (.inl rfl) rfl (vs := []) trivial ?_ ⟨_, .inr ⟨b, rfl, rfl, by unfold changeR; simp⟩, rfl⟩
    intro h hs
    unfold changeR
    first | rw [if_pos hc0] | rw [if_neg hc0]
    exact hs.tail

end Go.Proofs.Ytjmklialkjncaaa.Eng

set_option linter.unusedVariables false
set_option linter.unusedSimpArgs false
namespace Go.Proofs.Ytjmklialkjncaaa.Eng

structure BS where
  by_ : List Int
  queue : List Int

/-- An edge is looked at from a node: what it leads to, if that is new. -/
def tryE (n : Net4) (f : List Int) (u : Int) (i : Nat) (S : BS) : Option BS :=
  if (restR (nth n.edges i) (nth f i) u).2 ≤ 0 ∨ nth S.by_ (restR (nth n.edges i) (nth f i) u).1.toNat ≠ -2 then none
  else some ⟨S.by_.set (restR (nth n.edges i) (nth f i) u).1.toNat i, S.queue ++ [(restR (nth n.edges i) (nth f i) u).1]⟩

def innerL (n : Net4) (f : List Int) (stop : Bool) (u : Int) : List Nat → BS → BS × Bool
  | [], S => (S, false)
  | i :: l, S => match tryE n f u i S with
    | none => innerL n f stop u l S
    | some S' => if stop = true ∧ (restR (nth n.edges i) (nth f i) u).1 = n.sink then (S', true) else innerL n f stop u l S'

def outerL (n : Net4) (f : List Int) (stop : Bool) : Nat → BS → Nat → List Int
  | 0, S, _ => S.by_
  | fuel + 1, S, k => if k < S.queue.length then
      (if (innerL n f stop (nth S.queue k) (List.range n.edges.length) S).2 = true then (innerL n f stop (nth S.queue k) (List.range n.edges.length) S).1.by_
      else outerL n f stop fuel (innerL n f stop (nth S.queue k) (List.range n.edges.length) S).1 (k + 1))
    else S.by_

def startBS (n : Net4) : BS := ⟨(List.replicate n.nodes.toNat (-2)).set n.source.toNat (-1), [n.source]⟩

def searchR (n : Net4) (f : List Int) (stop : Bool) : List Int := outerL n f stop n.nodes.toNat (startBS n) 0

/-- A network in order, and a flow within its bounds. -/
structure Sound (n : Net4) : Prop where
  nodes : 2 ≤ n.nodes ∧ n.nodes ≤ 1024
  len : n.edges.length ≤ 8192
  source : 0 ≤ n.source ∧ n.source < n.nodes
  sink : 0 ≤ n.sink ∧ n.sink < n.nodes
  ne : n.source ≠ n.sink
  edge : ∀ i, i < n.edges.length → ¬ BadEdge n (nth n.edges i)

theorem Wrong.sound {n : Net4} (h : Wrong n 0) : Sound n := by
  have h' : ¬ Bad4 n ∧ ¬ Bad1 n ∧ ¬ Bad5 n := by
    unfold Wrong at h
    rcases h with ⟨_, h⟩ | ⟨_, _, h⟩ | ⟨_, _, _, h⟩ | ⟨h1, h2, h3, _⟩
    · omega
    · omega
    · omega
    · exact ⟨h1, h2, h3⟩
  obtain ⟨h4, h1, h5⟩ := h'
  unfold Bad4 at h4
  unfold Bad1 at h1
  exact ⟨by omega, by omega, by omega, by omega, by omega, fun i hi hb => h5 ⟨i, hi, hb⟩⟩

structure Flow (n : Net4) (f : List Int) : Prop where
  len : f.length = n.edges.length
  cap : ∀ i, i < n.edges.length → -(nth n.edges i).back ≤ nth f i ∧ nth f i ≤ (nth n.edges i).cap

theorem Sound.at {n : Net4} (hn : Sound n) {i : Nat} (hi : i < n.edges.length) : 0 ≤ (nth n.edges i).a ∧ (nth n.edges i).a < n.nodes ∧ 0 ≤ (nth n.edges i).b ∧ (nth n.edges i).b < n.nodes ∧ (nth n.edges i).a ≠ (nth n.edges i).b ∧
    0 ≤ (nth n.edges i).cap ∧ (nth n.edges i).cap ≤ 1099511627776 ∧ 0 ≤ (nth n.edges i).back ∧ (nth n.edges i).back ≤ 1099511627776 := by
  have := hn.edge i hi
  unfold BadEdge at this
  omega

/-- What holds all along a search. -/
structure Good (n : Net4) (S : BS) : Prop where
  len : (S.by_.length : Int) = n.nodes
  room : S.queue.length + S.by_.count (-2) = S.by_.length
  inside : ∀ q ∈ S.queue, 0 ≤ q ∧ q < n.nodes

theorem restR_inside {n : Net4} (hn : Sound n) {i : Nat} (hi : i < n.edges.length) (x u : Int) : 0 ≤ (restR (nth n.edges i) x u).1 ∧ (restR (nth n.edges i) x u).1 < n.nodes := by
  have := hn.at hi
  have := hn.nodes
  unfold restR
  split
  · exact ⟨by simp only; omega, by simp only; omega⟩
  · split
    · exact ⟨by simp only; omega, by simp only; omega⟩
    · exact ⟨by simp only; omega, by simp only; omega⟩

theorem count_set_of {l : List Int} {k : Nat} {a : Int} (hk : k < l.length) (h : nth l k = -2) (ha : a ≠ -2) : (l.set k a).count (-2) + 1 = l.count (-2) := by
  rw [nth_get hk] at h
  have e := List.take_append_drop k l
  have e2 : l.drop k = l[k] :: l.drop (k + 1) := List.drop_eq_getElem_cons hk
  have h1 : l.count (-2) = (l.take k).count (-2) + (1 + (l.drop (k + 1)).count (-2)) := by
    conv => lhs; rw [← e]
    rw [List.count_append, e2, h, List.count_cons_self]
    omega
  rw [List.set_eq_take_append_cons_drop, if_pos hk, List.count_append, List.count_cons_of_ne (by simpa using ha)]
  omega

theorem Good.tryE {n : Net4} (hn : Sound n) {f : List Int} {u : Int} {i : Nat} (hi : i < n.edges.length) {S S' : BS} (hg : Good n S) (h : tryE n f u i S = some S') : Good n S' := by
  unfold Eng.tryE at h
  split at h
  · cases h
  · rename_i hc
    obtain rfl := Option.some.inj h
    obtain ⟨r1, r2⟩ := restR_inside hn hi (nth f i) u
    have hlt : (restR (nth n.edges i) (nth f i) u).1.toNat < S.by_.length := by have := hg.len; omega
    have hby : nth S.by_ (restR (nth n.edges i) (nth f i) u).1.toNat = -2 := by
      rcases Classical.em (nth S.by_ (restR (nth n.edges i) (nth f i) u).1.toNat = -2) with q | q
      · exact q
      · exact absurd (.inr q) hc
    have := count_set_of (a := (i : Int)) hlt hby (by omega)
    refine ⟨by rw [List.length_set]; exact hg.len, ?_, fun q hq => ?_⟩
    · show (S.queue ++ [_]).length + (S.by_.set _ _).count (-2) = (S.by_.set _ _).length
      rw [List.length_set, List.length_append, List.length_singleton]
      have := hg.room
      omega
    · rcases List.mem_append.1 hq with hq | hq
      · exact hg.inside q hq
      · rw [List.mem_singleton] at hq
        subst hq
        exact ⟨r1, r2⟩

theorem Good.start {n : Net4} (hn : Sound n) : Good n (startBS n) := by
  have h1 := hn.nodes
  have h2 := hn.source
  refine ⟨?_, ?_, fun q hq => ?_⟩
  · unfold startBS
    rw [List.length_set, List.length_replicate]
    omega
  · unfold startBS
    have := count_set_of (l := List.replicate n.nodes.toNat (-2)) (k := n.source.toNat) (a := -1) (by rw [List.length_replicate]; omega) (by rw [nth_get (by rw [List.length_replicate]; omega)]; simp) (by omega)
    rw [List.count_replicate_self] at this
    simp only [List.length_set, List.length_replicate, List.length_singleton]
    omega
  · have : q = n.source := by simpa [startBS] using hq
    subst this
    exact h2

/-- Edges that do not touch the node are passed by. -/
theorem innerL_filter {n : Net4} {f : List Int} {stop : Bool} {u : Int} (l : List Nat) (S : BS) :
    innerL n f stop u l S = innerL n f stop u (l.filter fun i => decide ((nth n.edges i).a = u ∨ (nth n.edges i).b = u)) S := by
  induction l generalizing S with
  | nil => rfl
  | cons i l ih =>
    rw [List.filter_cons]
    by_cases h : (nth n.edges i).a = u ∨ (nth n.edges i).b = u
    · rw [if_pos (decide_eq_true h)]
      unfold innerL
      split
      · exact ih S
      · split
        · rfl
        · exact ih _
    · rw [if_neg (by simpa using h)]
      have e : tryE n f u i S = none := by
        unfold tryE restR
        rw [if_pos]
        left
        rw [if_neg (fun q => h (.inl q)), if_neg (fun q => h (.inr q))]
        exact Int.le_refl 0
      conv => lhs; unfold innerL
      rw [e]
      exact ih S

end Go.Proofs.Ytjmklialkjncaaa.Eng

set_option linter.unusedVariables false
set_option linter.unusedSimpArgs false
namespace Go.Proofs.Ytjmklialkjncaaa.Eng

theorem drop_range_lt {m i : Nat} (h : i < m) : (List.range m).drop i = i :: (List.range m).drop (i + 1) := by
  rw [List.drop_eq_getElem_cons (by simpa using h)]
  simp

theorem drop_range_ge {m i : Nat} (h : m ≤ i) : (List.range m).drop i = [] := List.drop_eq_nil_of_le (by simpa using h)

theorem replicate_succ_map (k : Nat) (a : Int) : (List.replicate (k + 1) a).map I = (List.replicate k a).map I ++ [I a] := by
  rw [List.replicate_succ', List.map_append]; rfl

section
variable {n : Net4} {f : List Int} {stop : Bool} {u : Int} {i : Nat} {l : List Nat} {S S' : BS}

theorem inner_skip (h : tryE n f u i S = none) : innerL n f stop u (i :: l) S = innerL n f stop u l S := by
  conv => lhs; unfold innerL
  rw [h]
theorem inner_visit (h : tryE n f u i S = some S') (hs : ¬ (stop = true ∧ (restR (nth n.edges i) (nth f i) u).1 = n.sink)) : innerL n f stop u (i :: l) S = innerL n f stop u l S' := by
  conv => lhs; unfold innerL
  rw [h]
  exact if_neg hs
theorem inner_stop (h : tryE n f u i S = some S') (hs : stop = true ∧ (restR (nth n.edges i) (nth f i) u).1 = n.sink) : innerL n f stop u (i :: l) S = (S', true) := by
  conv => lhs; unfold innerL
  rw [h]
  exact if_pos hs
theorem try_none1 (h : (restR (nth n.edges i) (nth f i) u).2 ≤ 0) : tryE n f u i S = none := if_pos (.inl h)
theorem try_none2 (h : nth S.by_ (restR (nth n.edges i) (nth f i) u).1.toNat ≠ -2) : tryE n f u i S = none := if_pos (.inr h)
theorem try_some (h : 0 < (restR (nth n.edges i) (nth f i) u).2) (h2 : nth S.by_ (restR (nth n.edges i) (nth f i) u).1.toNat = -2) :
    tryE n f u i S = some ⟨S.by_.set (restR (nth n.edges i) (nth f i) u).1.toNat i, S.queue ++ [(restR (nth n.edges i) (nth f i) u).1]⟩ := if_neg (by omega)

/-- What the rest of a search comes to. -/
def restL (n : Net4) (f : List Int) (stop : Bool) (k : Nat) (u : Int) (l : List Nat) (S : BS) : List Int :=
  if (innerL n f stop u l S).2 = true then (innerL n f stop u l S).1.by_ else outerL n f stop (n.nodes.toNat - (k + 1)) (innerL n f stop u l S).1 (k + 1)

theorem rest_nil {k : Nat} : restL n f stop k u [] S = outerL n f stop (n.nodes.toNat - (k + 1)) S (k + 1) := rfl
theorem rest_skip {k : Nat} (h : tryE n f u i S = none) : restL n f stop k u (i :: l) S = restL n f stop k u l S := by unfold restL; rw [inner_skip h]
theorem rest_visit {k : Nat} (h : tryE n f u i S = some S') (hs : ¬ (stop = true ∧ (restR (nth n.edges i) (nth f i) u).1 = n.sink)) : restL n f stop k u (i :: l) S = restL n f stop k u l S' := by unfold restL; rw [inner_visit h hs]
theorem rest_stop {k : Nat} (h : tryE n f u i S = some S') (hs : stop = true ∧ (restR (nth n.edges i) (nth f i) u).1 = n.sink) : restL n f stop k u (i :: l) S = S'.by_ := by unfold restL; rw [inner_stop h hs]; rfl
theorem outer_end {k fuel : Nat} (h : S.queue.length ≤ k) : outerL n f stop fuel S k = S.by_ := by
  cases fuel with
  | zero => rfl
  | succ fuel => unfold outerL; rw [if_neg (by omega)]
theorem outer_more {k : Nat} (h : k < S.queue.length) (hk : k < n.nodes.toNat) : outerL n f stop (n.nodes.toNat - k) S k = restL n f stop k (nth S.queue k) (List.range n.edges.length) S := by
  obtain ⟨m, hm⟩ : ∃ m, n.nodes.toNat - k = m + 1 := ⟨n.nodes.toNat - (k + 1), by omega⟩
  have e : n.nodes.toNat - (k + 1) = m := by omega
  rw [hm]
  unfold restL
  rw [e]
  conv => lhs; unfold outerL
  rw [if_pos h]
end

theorem Flow.in64 {n : Net4} {f : List Int} (hn : Sound n) (hf : Flow n f) {i : Nat} (hi : i < n.edges.length) : In64 ((nth n.edges i).cap - nth f i) ∧ In64 ((nth n.edges i).back + nth f i) := by
  have := hn.at hi
  have := hf.cap i hi
  unfold In64
  omega

theorem Good.push {n : Net4} (hn : Sound n) {f : List Int} {u : Int} {i : Nat} (hi : i < n.edges.length) {S : BS} (hg : Good n S) (h : 0 < (restR (nth n.edges i) (nth f i) u).2) (h2 : nth S.by_ (restR (nth n.edges i) (nth f i) u).1.toNat = -2) :
    Good n ⟨S.by_.set (restR (nth n.edges i) (nth f i) u).1.toNat i, S.queue ++ [(restR (nth n.edges i) (nth f i) u).1]⟩ := hg.tryE hn hi (try_some h h2)

theorem refSearch_ok (O : Objs) (n : Net4) (f : List Int) (stop : Bool) (a af : Option Addr) (c cf : Nat) (hn : Sound n) (hfl : Flow n f) (hl : Edges O n a c) (hf : Src O 1 (.slice af f.length cf) f.length (f.map I)) :
    Spec Try.prog false 40 #[netV n a c, .slice af f.length cf, .bool stop] O fun v O' => ∃ b c', v = Row b 0 n.nodes.toNat c' ∧ (searchR n f stop).length = n.nodes.toNat ∧ O' = (b, ⟨1, false, (searchR n f stop).map I⟩) :: O := by
  have hnn := hn.nodes
  have hns := hn.source
  have hnk := hn.sink
  have hlen := hn.len
  have hfe := hfl.len
  refine Spec.enter (args := [_, _, _]) (m := 86) Try.func40 rfl rfl (by decide +kernel) fun h0 => ?_
  refine WX.seq ?_
  refine WX.region rfl ?_
  refine WXL.box (c := [_, _, _, _]) Met.none rfl rfl rfl (fun b3 => ?_)
  refine WXL.assign Met.none rfl ?_
  refine WXL.nil ?_
  refine Fin.then_normal ?_
  refine WX.seq ?_
  refine WX.region rfl ?_
  refine WXL.assign Met.none rfl ?_
  refine WXL.nil ?_
  refine Fin.then_normal ?_
  refine WX.seq ?_
  refine WX.seq ?_
  refine WX.region rfl ?_
  refine WXL.assign Met.none rfl ?_
  refine WXL.nil ?_
  refine Fin.then_normal ?_
  refine WX.block ?_
  refine WX.loop (fun q : Nat × Option Addr × Nat × Objs => [(1, .slice af f.length cf), (2, .bool stop), (3, Ptr b3 0), (7, .slice q.2.1 q.1 q.2.2.1), (8, I (q.1 : Int))]) (fun q => (b3, ⟨0, false, [I n.nodes, I n.source, I n.sink, .slice a n.edges.length c]⟩) :: (q.2.2.2 ++ O)) (fun q => q.1 ≤ n.nodes.toNat ∧ Grow 1 q.2.1 q.1 q.2.2.1 ((List.replicate q.1 (-2)).map I) q.2.2.2) (fun q => n.nodes.toNat - q.1) (0, none, 0, []) ⟨by omega, .nil⟩ (fun s hs => hs.tl [0] 1) (fun q hq => ?_)
  obtain ⟨k, ga, gc, G⟩ := q
  obtain ⟨hk1, hG⟩ := hq
  simp only at hk1 hG
  dsimp only
  refine WX.seq ?_
  refine WX.seq ?_
  refine WX.region rfl ?_
  refine WXL.move Met.none rfl ?_
  refine WXL.fieldAddr (off' := 0) Met.none rfl Try.underlying25 rfl sz3 rfl ?_
  first | refine WXL.ld Met.none rfl agg3 ?_ | refine WXL.ldS Met.none rfl agg3 ?_
  refine WXL.bin Met.none rfl rfl rfl ?_
  refine WXL.nil ?_
  refine Fin.then_normal ?_
  refine WX.cond rfl (fun hc0 => ?_) (fun hc0 => ?_)
  · try simp only [cnd] at hc0
    refine WX.skip ?_
    refine Fin.then_normal ?_
    refine WX.seq ?_
    refine WX.block ?_
    refine WX.region rfl ?_
    refine WXL.move Met.none rfl ?_
    refine WXL.buildSlice (c := [_]) Met.none rfl elem22 sz3 zero3 (by decide) (by decide) rfl rfl rfl rfl (fun b21 => ?_)
    refine WXL.apG [_, _] Met.none rfl rfl isrow22 elem22 sz3 by3 zero3 (Src.lit (cs := [_])) (fun a22 c22 G22 hG22 => ?_)
    refine WXL.assign Met.none rfl ?_
    refine WXL.nil ?_
    refine Fin.block_normal ?_
    refine Fin.then_normal ?_
    refine WX.region rfl ?_
    refine WXL.move Met.none rfl ?_
    refine WXL.bin Met.none rfl rfl bvA ?_
    refine WXL.assign Met.none rfl ?_
    refine WXL.nil ?_
    refine Fin.loop_next (k + 1, a22, c22, G22) ⟨by simp only; omega, ?_⟩ (by simp only; omega) (fun s hs => hs.tl [1] 2)
    rw [replicate_succ_map]
    exact hG22
  · try simp only [cnd] at hc0
    refine WX.exit ?_
    refine Fin.then_exit ?_
    refine Fin.loop_exit ?_
    refine Fin.block_hit rfl ?_
    refine Fin.then_normal ?_
    refine WX.seq ?_
    have hk : k = n.nodes.toNat := by omega
    subst hk
    obtain ⟨b7, rfl, rfl, hbl⟩ := hG.row_of (by omega)
    refine WX.region rfl ?_
    refine WXL.move Met.none rfl ?_
    refine WXL.fieldAddr (off' := 1) Met.none rfl Try.underlying25 rfl sz3 rfl ?_
    first | refine WXL.ld Met.none rfl agg3 ?_ | refine WXL.ldS Met.none rfl agg3 ?_
    first | refine WXL.ix Met.none rfl rfl elem22 sz3 ?_ | refine WXL.ixS Met.none rfl rfl elem22 sz3 ?_
    refine WXL.st (vs := [_]) Met.none rfl rfl rfl sz3 ?_ (hc := (splice_map I _ n.source.toNat (-1) (by rw [List.length_replicate]; omega)))
    refine WXL.nil ?_
    refine Fin.then_normal ?_
    refine WX.seq ?_
    refine WX.region rfl ?_
    refine WXL.fieldAddr (off' := 1) Met.none rfl Try.underlying25 rfl sz3 rfl ?_
    first | refine WXL.ld Met.none rfl agg3 ?_ | refine WXL.ldS Met.none rfl agg3 ?_
    refine WXL.buildSlice (c := [_]) Met.none rfl elem22 sz3 zero3 (by decide) (by decide) rfl rfl rfl rfl (fun b29 => ?_)
    refine WXL.assign Met.none rfl ?_
    refine WXL.nil ?_
    refine Fin.then_normal ?_
    refine WX.seq ?_
    refine WX.seq ?_
    refine WX.region rfl ?_
    refine WXL.assign Met.none rfl ?_
    refine WXL.nil ?_
    refine Fin.then_normal ?_
    refine WX.block ?_
    refine WX.loop (fun q : BS × Nat × Nat × Nat => [(1, .slice af f.length cf), (2, .bool stop), (3, Ptr b3 0), (7, Row b7 0 n.nodes.toNat gc), (9, Row q.2.2.1 0 q.1.queue.length q.2.2.2), (10, I (q.2.1 : Int))]) (fun q => (q.2.2.1, ⟨1, false, q.1.queue.map I⟩) :: (b3, ⟨0, false, [I n.nodes, I n.source, I n.sink, .slice a n.edges.length c]⟩) :: (b7, ⟨1, false, q.1.by_.map I⟩) :: O) (fun q => q.2.1 ≤ q.1.queue.length ∧ Good n q.1 ∧ outerL n f stop (n.nodes.toNat - q.2.1) q.1 q.2.1 = searchR n f stop) (fun q => n.nodes.toNat - q.2.1) (startBS n, 0, b29, _) ⟨Nat.zero_le _, Good.start hn, rfl⟩ (fun s hs => hs.tl [0, 1, 2] 3) (fun q hq => ?_)
    obtain ⟨S, k, bq, cq⟩ := q
    obtain ⟨hk1, hgd, hout⟩ := hq
    simp only at hk1 hgd hout
    dsimp only
    have hroom := hgd.room
    have hbl := hgd.len
    refine WX.seq ?_
    refine WX.seq ?_
    refine WX.region rfl ?_
    refine WXL.move Met.none rfl ?_
    refine WXL.move Met.none rfl ?_
    refine WXL.len Met.none rfl Try.underlying22 ?_
    refine WXL.bin Met.none rfl rfl rfl ?_
    refine WXL.nil ?_
    refine Fin.then_normal ?_
    refine WX.cond rfl (fun hc1 => ?_) (fun hc1 => ?_)
    · try simp only [cnd] at hc1
      refine WX.skip ?_
      refine Fin.then_normal ?_
      refine WX.seq ?_
      refine WX.block ?_
      refine WX.seq ?_
      refine WX.region rfl ?_
      refine WXL.assign Met.none rfl ?_
      refine WXL.nil ?_
      refine Fin.then_normal ?_
      refine WX.block ?_
      have hkn : k < n.nodes.toNat := by omega
      obtain ⟨u, hu⟩ : ∃ u, nth S.queue k = u := ⟨_, rfl⟩
      rw [outer_more (by omega) hkn, hu] at hout
      refine WX.loop (fun q : BS × Nat × Nat × Nat => [(1, .slice af f.length cf), (2, .bool stop), (3, Ptr b3 0), (7, Row b7 0 n.nodes.toNat gc), (9, Row q.2.2.1 0 q.1.queue.length q.2.2.2), (10, I (k : Int)), (11, I (q.2.1 : Int))]) (fun q => (q.2.2.1, ⟨1, false, q.1.queue.map I⟩) :: (b3, ⟨0, false, [I n.nodes, I n.source, I n.sink, .slice a n.edges.length c]⟩) :: (b7, ⟨1, false, q.1.by_.map I⟩) :: O) (fun q => q.2.1 ≤ n.edges.length ∧ Good n q.1 ∧ k < q.1.queue.length ∧ nth q.1.queue k = u ∧ restL n f stop k u ((List.range n.edges.length).drop q.2.1) q.1 = searchR n f stop) (fun q => n.edges.length - q.2.1) (S, 0, bq, cq) ⟨Nat.zero_le _, hgd, by simp only; omega, hu, hout⟩ (fun s hs => hs.tl [0, 1, 2] 3) (fun q hq => ?_)
      obtain ⟨S2, i, bq2, cq2⟩ := q
      obtain ⟨hi1, hgd2, hkq, hku, hin⟩ := hq
      simp only at hi1 hgd2 hkq hku hin
      dsimp only
      have hroom2 := hgd2.room
      have hbl2 := hgd2.len
      refine WX.seq ?_
      refine WX.seq ?_
      refine WX.region rfl ?_
      refine WXL.move Met.none rfl ?_
      refine WXL.fieldAddr (off' := 3) Met.none rfl Try.underlying25 rfl sz23 rfl ?_
      first | refine WXL.ld Met.none rfl agg23 ?_ | refine WXL.ldS Met.none rfl agg23 ?_
      refine WXL.len Met.none rfl Try.underlying23 ?_
      refine WXL.bin Met.none rfl rfl rfl ?_
      refine WXL.nil ?_
      refine Fin.then_normal ?_
      refine WX.cond rfl (fun hc2 => ?_) (fun hc2 => ?_)
      · try simp only [cnd] at hc2
        refine WX.skip ?_
        refine Fin.then_normal ?_
        refine WX.seq ?_
        refine WX.block ?_
        refine WX.seq ?_
        have hi : i < n.edges.length := by omega
        have hin64 := hfl.in64 hn hi
        have hto := restR_inside hn hi (nth f i) u
        refine WX.draw rfl ?_
        refine WXL.fieldAddr (off' := 3) Met.none rfl Try.underlying25 rfl sz23 rfl ?_
        first | refine WXL.ld Met.none rfl agg23 ?_ | refine WXL.ldS Met.none rfl agg23 ?_
        refine WXL.move Met.none rfl ?_
        first | refine WXL.ix Met.none rfl rfl elem23 sz63 ?_ | refine WXL.ixS Met.none rfl rfl elem23 sz63 ?_
        first | refine WXL.ldN Met.none rfl agg63 sz63 ?_ | refine WXL.ldNS Met.none rfl agg63 sz63 ?_
        refine WXL.move Met.none rfl ?_
        refine WXL.move Met.none rfl ?_
        first | refine WXL.ix Met.none rfl rfl elem22 sz3 ?_ | refine WXL.ixS Met.none rfl rfl elem22 sz3 ?_
        first | refine WXL.ld Met.none rfl agg3 ?_ | refine WXL.ldS Met.none rfl agg3 ?_
        refine WXL.move Met.none rfl ?_
        refine WXL.move Met.none rfl ?_
        first | refine WXL.ix Met.none rfl rfl elem22 sz3 ?_ | refine WXL.ixS Met.none rfl rfl elem22 sz3 ?_
        first | refine WXL.ld Met.none rfl agg3 ?_ | refine WXL.ldS Met.none rfl agg3 ?_
        refine WXL.cl (O1 := _) Met.none rfl (fnOk_of Try.func42 (by decide +kernel)) rfl (fun _ h => h) (refRest_ok _ (nth n.edges i) (nth f i) (nth S2.queue k) hin64.1 hin64.2) (fun v O' hp => ?_)
        obtain ⟨rfl, hO⟩ := hp
        subst O'
        rw [hku]
        refine WXL.move Met.none rfl ?_
        refine WXL.extract Met.none rfl rfl ?_
        refine WXL.extract Met.none rfl rfl ?_
        refine WXL.assign Met.none rfl ?_
        refine WXL.assign Met.none rfl ?_
        refine WXL.nil ?_
        refine Fin.then_normal ?_
        refine WX.seq ?_
        refine WX.seq ?_
        refine WX.region rfl ?_
        refine WXL.move Met.none rfl ?_
        refine WXL.bin Met.none rfl rfl rfl ?_
        refine WXL.move Met.none rfl ?_
        refine WXL.split (d := 62) rfl (fun hg62 => ?_) (fun hg62 => ?_)
        · try simp only [cnd] at hg62
          refine WXL.miss (j := 2) (d := 62) rfl rfl rfl ?_
          refine WXL.miss (j := 2) (d := 62) rfl rfl rfl ?_
          refine WXL.miss (j := 2) (d := 62) rfl rfl rfl ?_
          refine WXL.miss (j := 2) (d := 62) rfl rfl rfl ?_
          refine WXL.miss (j := 2) (d := 62) rfl rfl rfl ?_
          refine WXL.pick_t Met.none rfl rfl ?_
          refine WXL.nil ?_
          refine Fin.then_normal ?_
          refine WX.cond rfl (fun hc3 => ?_) (fun hc3 => nomatch hc3)
          refine WX.exit ?_
          refine Fin.then_exit ?_
          refine Fin.block_hit rfl ?_
          refine Fin.then_normal ?_
          refine WX.region rfl ?_
          refine WXL.move Met.none rfl ?_
          refine WXL.bin Met.none rfl rfl bvA ?_
          refine WXL.assign Met.none rfl ?_
          refine WXL.nil ?_
          rw [drop_range_lt hi] at hin
          first
          | (rw [rest_skip (try_none1 hg62)] at hin; exact Fin.loop_next (S2, i + 1, bq2, cq2) ⟨by simp only; omega, hgd2, hkq, hku, hin⟩ (by simp only; omega) (fun s hs => hs.tl [0, 1, 2] 3))
          | (rw [rest_skip (try_none2 hc3)] at hin; exact Fin.loop_next (S2, i + 1, bq2, cq2) ⟨by simp only; omega, hgd2, hkq, hku, hin⟩ (by simp only; omega) (fun s hs => hs.tl [0, 1, 2] 3))
          | (rw [rest_visit (try_some hg62 hc3) (by first | exact fun q => hc4 q.2 | exact fun q => (by rw [hg78] at q; cases q.1))] at hin
             exact Fin.loop_next (⟨S2.by_.set (restR (nth n.edges i) (nth f i) u).1.toNat i, S2.queue ++ [(restR (nth n.edges i) (nth f i) u).1]⟩, i + 1, b76, _) ⟨by simp only; omega, hgd2.push hn hi hg62 hc3, by simp only [List.length_append]; omega, by simp only; rw [nth_append_left hkq]; exact hku, hin⟩ (by simp only; omega) (fun s hs => hs.told ⟨eq_, eq_, eq_, eq_, (by first | exact rfl | (rw [List.length_append]; exact rfl)), eq_, eq_, trivial⟩ [1, 2, 3] 4 (by decide) (by decide) rfl))
        · try simp only [cnd] at hg62
          refine WXL.move (Met.some rfl rfl rfl) rfl ?_
          refine WXL.move (Met.some rfl rfl rfl) rfl ?_
          first | refine WXL.ix (Met.some rfl rfl rfl) rfl rfl elem22 sz3 ?_ | refine WXL.ixS (Met.some rfl rfl rfl) rfl rfl elem22 sz3 ?_
          first | refine WXL.ld (Met.some rfl rfl rfl) rfl agg3 ?_ | refine WXL.ldS (Met.some rfl rfl rfl) rfl agg3 ?_
          refine WXL.bin (Met.some rfl rfl rfl) rfl rfl rfl ?_
          refine WXL.pick_f Met.none rfl rfl ?_
          refine WXL.nil ?_
          refine Fin.then_normal ?_
          refine WX.cond rfl (fun hc3 => ?_) (fun hc3 => ?_)
          · try simp only [cnd] at hc3
            refine WX.exit ?_
            refine Fin.then_exit ?_
            refine Fin.block_hit rfl ?_
            refine Fin.then_normal ?_
            refine WX.region rfl ?_
            refine WXL.move Met.none rfl ?_
            refine WXL.bin Met.none rfl rfl bvA ?_
            refine WXL.assign Met.none rfl ?_
            refine WXL.nil ?_
            rw [drop_range_lt hi] at hin
            first
            | (rw [rest_skip (try_none1 hg62)] at hin; exact Fin.loop_next (S2, i + 1, bq2, cq2) ⟨by simp only; omega, hgd2, hkq, hku, hin⟩ (by simp only; omega) (fun s hs => hs.tl [0, 1, 2] 3))
            | (rw [rest_skip (try_none2 hc3)] at hin; exact Fin.loop_next (S2, i + 1, bq2, cq2) ⟨by simp only; omega, hgd2, hkq, hku, hin⟩ (by simp only; omega) (fun s hs => hs.tl [0, 1, 2] 3))
            | (rw [rest_visit (try_some hg62 hc3) (by first | exact fun q => hc4 q.2 | exact fun q => (by rw [hg78] at q; cases q.1))] at hin
               exact Fin.loop_next (⟨S2.by_.set (restR (nth n.edges i) (nth f i) u).1.toNat i, S2.queue ++ [(restR (nth n.edges i) (nth f i) u).1]⟩, i + 1, b76, _) ⟨by simp only; omega, hgd2.push hn hi hg62 hc3, by simp only [List.length_append]; omega, by simp only; rw [nth_append_left hkq]; exact hku, hin⟩ (by simp only; omega) (fun s hs => hs.told ⟨eq_, eq_, eq_, eq_, (by first | exact rfl | (rw [List.length_append]; exact rfl)), eq_, eq_, trivial⟩ [1, 2, 3] 4 (by decide) (by decide) rfl))
          · try simp only [cnd] at hc3
            refine WX.skip ?_
            refine Fin.then_normal ?_
            refine WX.seq ?_
            refine WX.region rfl ?_
            refine WXL.move Met.none rfl ?_
            refine WXL.move Met.none rfl ?_
            refine WXL.move Met.none rfl ?_
            first | refine WXL.ix Met.none rfl rfl elem22 sz3 ?_ | refine WXL.ixS Met.none rfl rfl elem22 sz3 ?_
            refine WXL.st (vs := [_]) Met.none rfl rfl rfl sz3 ?_ (hc := (splice_map I S2.by_ (restR (nth n.edges i) (nth f i) u).1.toNat i (by omega)))
            refine WXL.nil ?_
            refine Fin.then_normal ?_
            refine WX.seq ?_
            refine WX.region rfl ?_
            refine WXL.move Met.none rfl ?_
            refine WXL.move Met.none rfl ?_
            refine WXL.buildSlice (c := [_]) Met.none rfl elem22 sz3 zero3 (by decide) (by decide) rfl rfl rfl rfl (fun b75 => ?_)
            refine WXL.ap Met.none rfl rfl isrow22 elem22 sz3 by3 zero3 (Src.lit (cs := [_])) (fun b76 => ?_) (hc := (show _ = (S2.queue ++ [(restR (nth n.edges i) (nth f i) u).1]).map I from by simp))
            refine WXL.assign Met.none rfl ?_
            refine WXL.nil ?_
            refine Fin.then_normal ?_
            refine WX.seq ?_
            refine WX.region rfl ?_
            refine WXL.move Met.none rfl ?_
            refine WXL.move Met.none rfl ?_
            refine WXL.split (d := 78) rfl (fun hg78 => ?_) (fun hg78 => ?_)
            · try simp only [cnd] at hg78
              refine WXL.move (Met.some rfl rfl rfl) rfl ?_
              refine WXL.fieldAddr (off' := 2) (Met.some rfl rfl rfl) rfl Try.underlying25 rfl sz3 rfl ?_
              first | refine WXL.ld (Met.some rfl rfl rfl) rfl agg3 ?_ | refine WXL.ldS (Met.some rfl rfl rfl) rfl agg3 ?_
              refine WXL.bin (Met.some rfl rfl rfl) rfl rfl rfl ?_
              refine WXL.pick_t Met.none rfl rfl ?_
              refine WXL.nil ?_
              refine Fin.then_normal ?_
              refine WX.cond rfl (fun hc4 => ?_) (fun hc4 => ?_)
              · try simp only [cnd] at hc4
                refine WX.seq ?_
                refine WX.region rfl ?_
                refine WXL.move Met.none rfl ?_
                refine WXL.assign Met.none rfl ?_
                refine WXL.nil ?_
                refine Fin.then_normal ?_
                refine WX.ret ?_
                refine Fin.block_ret ?_
                refine Fin.then_ret ?_
                refine Fin.loop_ret ?_
                refine Fin.block_ret ?_
                refine Fin.block_ret ?_
                refine Fin.then_ret ?_
                refine Fin.loop_ret ?_
                refine Fin.block_ret ?_
                refine Fin.then_ret ?_
                refine Fin.result (O' := (b7, ⟨1, false, (searchR n f stop).map I⟩) :: O) (.inr rfl) rfl rfl (fun h hs => ?_) ⟨b7, gc, rfl, ?_, rfl⟩
                · first
                  | (rw [outer_end (by omega)] at hout; rw [← hout]; exact hs.told [2] 3 (by decide) (by decide) rfl)
                  | (rw [drop_range_lt hi, rest_stop (try_some hg62 hc3) ⟨hg78, hc4⟩] at hin; rw [← hin]; exact hs.told [3] 4 (by decide) (by decide) rfl)
                · first
                  | (rw [outer_end (by omega)] at hout; rw [← hout]; omega)
                  | (rw [drop_range_lt hi, rest_stop (try_some hg62 hc3) ⟨hg78, hc4⟩] at hin; rw [← hin]; have := hgd2.len; simp only [List.length_set]; omega)
              · try simp only [cnd] at hc4
                refine WX.skip ?_
                refine Fin.block_normal ?_
                refine Fin.then_normal ?_
                refine WX.region rfl ?_
                refine WXL.move Met.none rfl ?_
                refine WXL.bin Met.none rfl rfl bvA ?_
                refine WXL.assign Met.none rfl ?_
                refine WXL.nil ?_
                rw [drop_range_lt hi] at hin
                first
                | (rw [rest_skip (try_none1 hg62)] at hin; exact Fin.loop_next (S2, i + 1, bq2, cq2) ⟨by simp only; omega, hgd2, hkq, hku, hin⟩ (by simp only; omega) (fun s hs => hs.tl [0, 1, 2] 3))
                | (rw [rest_skip (try_none2 hc3)] at hin; exact Fin.loop_next (S2, i + 1, bq2, cq2) ⟨by simp only; omega, hgd2, hkq, hku, hin⟩ (by simp only; omega) (fun s hs => hs.tl [0, 1, 2] 3))
                | (rw [rest_visit (try_some hg62 hc3) (by first | exact fun q => hc4 q.2 | exact fun q => (by rw [hg78] at q; cases q.1))] at hin
                   exact Fin.loop_next (⟨S2.by_.set (restR (nth n.edges i) (nth f i) u).1.toNat i, S2.queue ++ [(restR (nth n.edges i) (nth f i) u).1]⟩, i + 1, b76, _) ⟨by simp only; omega, hgd2.push hn hi hg62 hc3, by simp only [List.length_append]; omega, by simp only; rw [nth_append_left hkq]; exact hku, hin⟩ (by simp only; omega) (fun s hs => hs.told ⟨eq_, eq_, eq_, eq_, (by first | exact rfl | (rw [List.length_append]; exact rfl)), eq_, eq_, trivial⟩ [1, 2, 3] 4 (by decide) (by decide) rfl))
            · try simp only [cnd] at hg78
              refine WXL.miss (j := 1) (d := 78) rfl rfl rfl ?_
              refine WXL.miss (j := 1) (d := 78) rfl rfl rfl ?_
              refine WXL.miss (j := 1) (d := 78) rfl rfl rfl ?_
              refine WXL.miss (j := 1) (d := 78) rfl rfl rfl ?_
              refine WXL.pick_f Met.none rfl rfl ?_
              refine WXL.nil ?_
              refine Fin.then_normal ?_
              refine WX.cond rfl (fun hc4 => nomatch hc4) (fun hc4 => ?_)
              refine WX.skip ?_
              refine Fin.block_normal ?_
              refine Fin.then_normal ?_
              refine WX.region rfl ?_
              refine WXL.move Met.none rfl ?_
              refine WXL.bin Met.none rfl rfl bvA ?_
              refine WXL.assign Met.none rfl ?_
              refine WXL.nil ?_
              rw [drop_range_lt hi] at hin
              first
              | (rw [rest_skip (try_none1 hg62)] at hin; exact Fin.loop_next (S2, i + 1, bq2, cq2) ⟨by simp only; omega, hgd2, hkq, hku, hin⟩ (by simp only; omega) (fun s hs => hs.tl [0, 1, 2] 3))
              | (rw [rest_skip (try_none2 hc3)] at hin; exact Fin.loop_next (S2, i + 1, bq2, cq2) ⟨by simp only; omega, hgd2, hkq, hku, hin⟩ (by simp only; omega) (fun s hs => hs.tl [0, 1, 2] 3))
              | (rw [rest_visit (try_some hg62 hc3) (by first | exact fun q => hc4 q.2 | exact fun q => (by rw [hg78] at q; cases q.1))] at hin
                 exact Fin.loop_next (⟨S2.by_.set (restR (nth n.edges i) (nth f i) u).1.toNat i, S2.queue ++ [(restR (nth n.edges i) (nth f i) u).1]⟩, i + 1, b76, _) ⟨by simp only; omega, hgd2.push hn hi hg62 hc3, by simp only [List.length_append]; omega, by simp only; rw [nth_append_left hkq]; exact hku, hin⟩ (by simp only; omega) (fun s hs => hs.told ⟨eq_, eq_, eq_, eq_, (by first | exact rfl | (rw [List.length_append]; exact rfl)), eq_, eq_, trivial⟩ [1, 2, 3] 4 (by decide) (by decide) rfl))
      · try simp only [cnd] at hc2
        refine WX.exit ?_
        refine Fin.then_exit ?_
        refine Fin.loop_exit ?_
        refine Fin.block_hit rfl ?_
        refine Fin.block_normal ?_
        refine Fin.then_normal ?_
        refine WX.region rfl ?_
        refine WXL.move Met.none rfl ?_
        refine WXL.bin Met.none rfl rfl bvA ?_
        refine WXL.assign Met.none rfl ?_
        refine WXL.nil ?_
        have hi2 : i = n.edges.length := by omega
        rw [drop_range_ge (by omega), rest_nil] at hin
        exact Fin.loop_next (S2, k + 1, bq2, cq2) ⟨by simp only; omega, hgd2, hin⟩ (by simp only; omega) (fun s hs => hs.tl [0, 1, 2] 3)
    · try simp only [cnd] at hc1
      refine WX.exit ?_
      refine Fin.then_exit ?_
      refine Fin.loop_exit ?_
      refine Fin.block_hit rfl ?_
      refine Fin.then_normal ?_
      refine WX.seq ?_
      refine WX.region rfl ?_
      refine WXL.move Met.none rfl ?_
      refine WXL.assign Met.none rfl ?_
      refine WXL.nil ?_
      refine Fin.then_normal ?_
      refine WX.ret ?_
      refine Fin.result (O' := (b7, ⟨1, false, (searchR n f stop).map I⟩) :: O) (.inr rfl) rfl rfl (fun h hs => ?_) ⟨b7, gc, rfl, ?_, rfl⟩
      · first
        | (rw [outer_end (by omega)] at hout; rw [← hout]; exact hs.told [2] 3 (by decide) (by decide) rfl)
        | (rw [drop_range_lt hi, rest_stop (try_some hg62 hc3) ⟨hg78, hc4⟩] at hin; rw [← hin]; exact hs.told [3] 4 (by decide) (by decide) rfl)
      · first
        | (rw [outer_end (by omega)] at hout; rw [← hout]; omega)
        | (rw [drop_range_lt hi, rest_stop (try_some hg62 hc3) ⟨hg78, hc4⟩] at hin; rw [← hin]; have := hgd2.len; simp only [List.length_set]; omega)

end Go.Proofs.Ytjmklialkjncaaa.Eng

set_option linter.unusedVariables false
set_option linter.unusedSimpArgs false
namespace Go.Proofs.Ytjmklialkjncaaa.Eng

section
variable {P : Program} {x : Cx} {L L' : Tmps} {O O' : Objs} {ops : Array Oper} {mq : Mk} {i : Nat} {l : List Oper} {K : ASt → Prop}
  {t u : TypeId} {p : String} {af : Array Edge} {gd : Option (Nat × Bool)} {d : Tmp}

theorem flatten_at {Gs : List Objs} {k : Nat} (h : k < Gs.length) (R : Objs) : Gs.flatten ++ R = (Gs.take k).flatten ++ (nth Gs k ++ ((Gs.drop (k + 1)).flatten ++ R)) := by
  have e : Gs = Gs.take k ++ (Gs[k] :: Gs.drop (k + 1)) := by rw [← List.drop_eq_getElem_cons h, List.take_append_drop]
  conv => lhs; rw [e]
  rw [List.flatten_append, List.flatten_cons, nth_get h]
  simp only [List.append_assoc]

theorem flatten_set {Gs : List Objs} {k : Nat} (h : k < Gs.length) (G R : Objs) : (Gs.set k G).flatten ++ R = (Gs.take k).flatten ++ (G ++ ((Gs.drop (k + 1)).flatten ++ R)) := by
  rw [List.set_eq_take_append_cons_drop, if_pos h, List.flatten_append, List.flatten_cons]
  simp only [List.append_assoc]

/-- `append` to one of several rows that grow. -/
theorem WXL.appendGs {y z : Operand} {ty tz e : TypeId} {a : Option Addr} {n c sz by_ m : Nat} {cs new : List Value} {v zv : Value} {Gs : List Objs} (A : Objs) {R : Objs} (k : Nat) (hk : k < Gs.length) (hw : Met x L ops gd) (hq : x.q = false) (hy : evL L y = some (.slice a n c)) (hz : evL L z = some v) (hr : isRowT P tz = true) (hcl : mq.Z = [])
    (hO : O = A ++ (Gs.flatten ++ R)) (hg : Grow sz a n c cs (nth Gs k)) (hsrc : Src O sz v m new) (he : elemOf P ty = some e) (hs : szOf P e = some sz) (hby : byOf P e = some by_) (hzv : zeroOf P e = some zv) (h3 : zv.cells.size = sz)
    (hf : (n + m) * by_ ≤ 140737488355328) (h1 : 0 < sz) (h2 : 0 < by_) (hm : new.length = m * sz)
    (h : ∀ a' c' G', Grow sz a' (n + m) c' (cs ++ new) G' → WXL P x ops mq (i + 1) l ((d, .slice a' (n + m) c') :: L) (A ++ ((Gs.set k G').flatten ++ R)) K) :
    WXL P x ops mq i ({ dst := some d, op := .call { callee := .builtin .append, args := #[y, z], argTypes := #[ty, tz] }, type := t, pos := p, after := af, guard := gd } :: l) L O K := by
  refine WXL.appendG (A ++ (Gs.take k).flatten) (R := (Gs.drop (k + 1)).flatten ++ R) hw hq hy hz hr hcl ?_ hg hsrc he hs hby hzv h3 hf h1 h2 hm fun a' c' G' hG' => ?_
  · rw [hO, flatten_at hk, List.append_assoc]
  · have := h a' c' G' hG'
    rw [flatten_set hk, ← List.append_assoc] at this
    exact this
end

def arcAt (n : Net4) (u : Nat) (i : Nat) : Arc := if (nth n.edges i).a = u then ⟨i, (nth n.edges i).b, true⟩ else ⟨i, (nth n.edges i).a, false⟩
def touches (n : Net4) (u : Nat) (i : Nat) : Bool := decide ((nth n.edges i).a = u ∨ (nth n.edges i).b = u)
def arcsTo (n : Net4) (k u : Nat) : List Arc := ((List.range k).filter (touches n u)).map (arcAt n u)
def arcsOf (n : Net4) (u : Nat) : List Arc := arcsTo n n.edges.length u
def rowsV (n : Net4) (k : Nat) (A : Nat → Option Addr) (C : Nat → Nat) : List Value := (List.range n.nodes.toNat).map fun u => .slice (A u) (arcsTo n k u).length (C u)

theorem cell_range {V : Nat → Value} {m u : Nat} (h : u < m) : ((List.range m).map V)[u]? = some (V u) := by
  rw [List.getElem?_map, List.getElem?_range h]; rfl

theorem arcsTo_succ (n : Net4) (k u : Nat) : arcsTo n (k + 1) u = arcsTo n k u ++ (if touches n u k = true then [arcAt n u k] else []) := by
  unfold arcsTo
  rw [List.range_succ, List.filter_append, List.map_append]
  congr 1
  rw [List.filter_cons]
  split <;> rfl

theorem arcsTo_len (n : Net4) (k u : Nat) : (arcsTo n k u).length ≤ k := by
  unfold arcsTo
  rw [List.length_map]
  exact Nat.le_trans (List.length_filter_le _ _) (by simp)

/-- The rows of arcs lie in the memory. -/
structure ArcRows (n : Net4) (k : Nat) (A : Nat → Option Addr) (C : Nat → Nat) (Gs : List Objs) : Prop where
  len : Gs.length = n.nodes.toNat
  row : ∀ u, u < n.nodes.toNat → Grow 3 (A u) (arcsTo n k u).length (C u) (flat encA (arcsTo n k u)) (nth Gs u)

theorem zerosL_range (v : Value) (m : Nat) : zerosL [v] m = (List.range m).map fun _ => v := by
  rw [show zerosL [v] m = (List.replicate m v).map id from zerosL_map id v m, List.map_const', List.length_range, List.map_id]

theorem splice_one (l : List Value) (k : Nat) (v : Value) (h : k < l.length) : splice l k [v] = l.set k v := by
  have := splice_map id l k v h
  simpa using this

theorem rows_len (n : Net4) (k : Nat) (A : Nat → Option Addr) (C : Nat → Nat) : (rowsV n k A C).length = n.nodes.toNat := by unfold rowsV; simp

theorem rows_two {n : Net4} (hn : Sound n) {k : Nat} (hk : k < n.edges.length) (A : Nat → Option Addr) (C : Nat → Nat) (a1 a2 : Option Addr) (c1 c2 : Nat) :
    ((rowsV n k A C).set (nth n.edges k).a.toNat (.slice a1 ((arcsTo n k (nth n.edges k).a.toNat).length + 1) c1)).set (nth n.edges k).b.toNat (.slice a2 ((arcsTo n k (nth n.edges k).b.toNat).length + 1) c2) =
      rowsV n (k + 1) (fun x => if x = (nth n.edges k).b.toNat then a2 else if x = (nth n.edges k).a.toNat then a1 else A x) (fun x => if x = (nth n.edges k).b.toNat then c2 else if x = (nth n.edges k).a.toNat then c1 else C x) := by
  have h := hn.at hk
  unfold rowsV
  apply List.ext_getElem?
  intro j
  rcases Nat.lt_or_ge j n.nodes.toNat with hj | hj
  · rw [cell_range hj]
    rw [List.getElem?_set, List.getElem?_set]
    simp only [List.length_set, List.length_map, List.length_range, cell_range hj]
    have hlen : (arcsTo n (k + 1) j).length = (arcsTo n k j).length + (if touches n j k = true then 1 else 0) := by
      rw [arcsTo_succ, List.length_append]
      split <;> rfl
    by_cases hb : (nth n.edges k).b.toNat = j
    · have ht : touches n j k = true := by unfold touches; exact decide_eq_true (by omega)
      rw [if_pos hb, if_pos (by omega), hlen, if_pos ht, if_pos hb.symm, if_pos hb.symm, hb]
    · by_cases ha : (nth n.edges k).a.toNat = j
      · have ht : touches n j k = true := by unfold touches; exact decide_eq_true (by omega)
        rw [if_neg hb, if_pos ha, if_pos (by omega), hlen, if_pos ht, if_neg (fun e => hb e.symm), if_pos ha.symm, if_neg (fun e => hb e.symm), if_pos ha.symm, ha]
      · have ht : touches n j k = false := by unfold touches; exact decide_eq_false (by omega)
        have nb : ¬ j = (nth n.edges k).b.toNat := fun e => hb e.symm
        have na : ¬ j = (nth n.edges k).a.toNat := fun e => ha e.symm
        rw [if_neg hb, if_neg ha, hlen, ht]
        simp only [if_neg nb, if_neg na, Bool.false_eq_true, if_false, Nat.add_zero]
  · rw [List.getElem?_eq_none (by simpa using hj), List.getElem?_eq_none (by simpa using hj)]

theorem ArcRows.next {n : Net4} (hn : Sound n) {k : Nat} (hk : k < n.edges.length) {A : Nat → Option Addr} {C : Nat → Nat} {Gs : List Objs} (h : ArcRows n k A C Gs) {a1 a2 : Option Addr} {c1 c2 : Nat} {G1 G2 : Objs}
    (h1 : Grow 3 a1 ((arcsTo n k (nth n.edges k).a.toNat).length + 1) c1 (flat encA (arcsTo n k (nth n.edges k).a.toNat) ++ encA ⟨k, (nth n.edges k).b, true⟩) G1)
    (h2 : Grow 3 a2 ((arcsTo n k (nth n.edges k).b.toNat).length + 1) c2 (flat encA (arcsTo n k (nth n.edges k).b.toNat) ++ encA ⟨k, (nth n.edges k).a, false⟩) G2) :
    ArcRows n (k + 1) (fun x => if x = (nth n.edges k).b.toNat then a2 else if x = (nth n.edges k).a.toNat then a1 else A x) (fun x => if x = (nth n.edges k).b.toNat then c2 else if x = (nth n.edges k).a.toNat then c1 else C x)
      ((Gs.set (nth n.edges k).a.toNat G1).set (nth n.edges k).b.toNat G2) := by
  have hb := hn.at hk
  refine ⟨by rw [List.length_set, List.length_set]; exact h.len, fun u hu => ?_⟩
  have hlen := h.len
  rw [nth_set (by rw [List.length_set]; omega) (by rw [List.length_set]; omega), nth_set (by omega) (by omega), arcsTo_succ]
  have one : ∀ r : Arc, flat encA [r] = encA r := fun r => by simp [flat]
  by_cases e2 : u = (nth n.edges k).b.toNat
  · subst e2
    have ht : touches n (nth n.edges k).b.toNat k = true := by unfold touches; exact decide_eq_true (by omega)
    have ha : arcAt n (nth n.edges k).b.toNat k = ⟨k, (nth n.edges k).a, false⟩ := by unfold arcAt; rw [if_neg (by omega)]
    simp only [if_true, ht, ha, flat_append, one, List.length_append, List.length_singleton]
    exact h2
  · by_cases e1 : u = (nth n.edges k).a.toNat
    · subst e1
      have ht : touches n (nth n.edges k).a.toNat k = true := by unfold touches; exact decide_eq_true (by omega)
      have ha : arcAt n (nth n.edges k).a.toNat k = ⟨k, (nth n.edges k).b, true⟩ := by unfold arcAt; rw [if_pos (by omega)]
      have n2 : ¬ (nth n.edges k).b.toNat = (nth n.edges k).a.toNat := fun e => e2 e.symm
      simp only [if_neg e2, if_neg n2, if_true, ht, ha, flat_append, one, List.length_append, List.length_singleton]
      exact h1
    · have ht : touches n u k = false := by unfold touches; exact decide_eq_false (by omega)
      have n2 : ¬ (nth n.edges k).b.toNat = u := fun e => e2 e.symm
      have n1 : ¬ (nth n.edges k).a.toNat = u := fun e => e1 e.symm
      simp only [if_neg e2, if_neg n2, if_neg e1, if_neg n1, ht, Bool.false_eq_true, if_false, List.append_nil]
      exact h.row u hu

theorem arcs_ok (O : Objs) (n : Net4) (a : Option Addr) (c : Nat) (hn : Sound n) (hl : Edges O n a c) :
    Spec Try.prog false 36 #[netV n a c] O fun v O' => ∃ b c' A C Gs, v = Row b 0 n.nodes.toNat c' ∧ ArcRows n n.edges.length A C Gs ∧ O' = (b, ⟨1, false, rowsV n n.edges.length A C⟩) :: (Gs.flatten ++ O) := by
  have hnn := hn.nodes
  have hlen := hn.len
  refine Spec.enter (args := [_]) (m := 49) Try.func36 rfl rfl (by decide +kernel) fun h0 => ?_
  refine WX.seq ?_
  refine WX.region rfl ?_
  refine WXL.box (c := [_, _, _, _]) Met.none rfl rfl rfl (fun b1 => ?_)
  refine WXL.assign Met.none rfl ?_
  refine WXL.nil ?_
  refine Fin.then_normal ?_
  refine WX.seq ?_
  refine WX.region rfl ?_
  refine WXL.fieldAddr (off' := 0) Met.none rfl Try.underlying36 rfl sz3 rfl ?_
  first | refine WXL.ld Met.none rfl agg3 ?_ | refine WXL.ldS Met.none rfl agg3 ?_
  refine WXL.makeSlice Met.none rfl rfl elem72 sz74 by74 zero74 (by omega) (by omega) (by omega) rfl (by decide) (by first | rw [Int.toNat_natCast] | exact rfl) (zerosL_range _ _) (fun b8 => ?_)
  refine WXL.assign Met.none rfl ?_
  refine WXL.nil ?_
  refine Fin.then_normal ?_
  refine WX.seq ?_
  refine WX.seq ?_
  refine WX.region rfl ?_
  refine WXL.fieldAddr (off' := 3) Met.none rfl Try.underlying36 rfl sz34 rfl ?_
  first | refine WXL.ld Met.none rfl agg34 ?_ | refine WXL.ldS Met.none rfl agg34 ?_
  refine WXL.len Met.none rfl Try.underlying34 ?_
  refine WXL.move Met.none rfl ?_
  refine WXL.nil ?_
  refine Fin.then_normal ?_
  refine WX.block ?_
  refine WX.loop (fun q : Nat × (Nat → Option Addr) × (Nat → Nat) × List Objs => [(1, Ptr b1 0), (3, Row b8 0 n.nodes.toNat n.nodes.toNat), (10, .slice a n.edges.length c), (11, I (n.edges.length : Int)), (12, I (q.1 : Int))]) (fun q => (b8, ⟨1, false, rowsV n q.1 q.2.1 q.2.2.1⟩) :: (b1, ⟨0, false, [I n.nodes, I n.source, I n.sink, .slice a n.edges.length c]⟩) :: (q.2.2.2.flatten ++ O)) (fun q => q.1 ≤ n.edges.length ∧ ArcRows n q.1 q.2.1 q.2.2.1 q.2.2.2) (fun q => n.edges.length - q.1) (0, fun _ => none, fun _ => 0, List.replicate n.nodes.toNat []) ⟨Nat.zero_le _, by simp, fun u hu => ?_⟩ ?_ (fun q hq => ?_)
  · simp only
    rw [nth_get (by simpa using hu), List.getElem_replicate]
    exact .nil
  · intro s hs
    have := hs.told (L' := [(1, Ptr b1 0), (3, Row b8 0 n.nodes.toNat n.nodes.toNat), (10, .slice a n.edges.length c), (11, I (n.edges.length : Int)), (12, I ((0 : Nat) : Int))]) ⟨rfl, rfl, rfl, rfl, rfl, trivial⟩ [0, 1] 2 (by decide) (by decide) rfl
    simp only [List.flatten_replicate_nil]
    exact this
  obtain ⟨k, A, C, Gs⟩ := q
  obtain ⟨hk1, hR⟩ := hq
  simp only at hk1 hR
  dsimp only
  have hGl := hR.len
  refine WX.seq ?_
  refine WX.region rfl ?_
  refine WXL.bin Met.none rfl rfl rfl ?_
  refine WXL.nil ?_
  refine Fin.then_normal ?_
  refine WX.seq ?_
  refine WX.cond rfl (fun hc0 => ?_) (fun hc0 => ?_)
  · try simp only [cnd] at hc0
    refine WX.skip ?_
    refine Fin.then_normal ?_
    refine WX.seq ?_
    refine WX.block ?_
    refine WX.seq ?_
    refine WX.region rfl ?_
    refine WXL.move Met.none rfl ?_
    first | refine WXL.ix Met.none rfl rfl elem34 sz44 ?_ | refine WXL.ixS Met.none rfl rfl elem34 sz44 ?_
    first | refine WXL.ldN Met.none rfl agg44 sz44 ?_ | refine WXL.ldNS Met.none rfl agg44 sz44 ?_
    refine WXL.alloc (c := [_, _, _, _]) Met.none zero44 rfl (fun b5 => ?_)
    refine WXL.assign Met.none rfl ?_
    refine WXL.st (vs := [_, _, _, _]) (c' := [_, _, _, _]) Met.none rfl rfl rfl sz44 ?_
    refine WXL.nil ?_
    refine Fin.then_normal ?_
    refine WX.seq ?_
    have hk : k < n.edges.length := by omega
    have he := hn.at hk
    have hla := arcsTo_len n k (nth n.edges k).a.toNat
    have hlb := arcsTo_len n k (nth n.edges k).b.toNat
    refine WX.draw rfl ?_
    refine WXL.move Met.none rfl ?_
    refine WXL.fieldAddr (off' := 0) Met.none rfl Try.underlying44 rfl sz3 rfl ?_
    first | refine WXL.ld Met.none rfl agg3 ?_ | refine WXL.ldS Met.none rfl agg3 ?_
    refine WXL.move Met.none rfl ?_
    refine WXL.fieldAddr (off' := 0) Met.none rfl Try.underlying44 rfl sz3 rfl ?_
    first | refine WXL.ld Met.none rfl agg3 ?_ | refine WXL.ldS Met.none rfl agg3 ?_
    first | refine WXL.ix Met.none rfl rfl elem72 sz74 ?_ | refine WXL.ixS Met.none rfl rfl elem72 sz74 ?_
    refine WXL.load1 lz_ Met.none rfl (Knows.at 1 rfl) agg74 (show _ = some (Value.slice (A (nth n.edges k).a.toNat) (arcsTo n k (nth n.edges k).a.toNat).length (C (nth n.edges k).a.toNat)) from cell_range (by omega)) ?_
    refine WXL.move Met.none rfl ?_
    refine WXL.fieldAddr (off' := 1) Met.none rfl Try.underlying44 rfl sz3 rfl ?_
    first | refine WXL.ld Met.none rfl agg3 ?_ | refine WXL.ldS Met.none rfl agg3 ?_
    refine WXL.build (c := [_, _, _]) Met.none rfl zero79 places79 rfl ?_
    refine WXL.buildSlice (c := [_, _, _]) Met.none rfl elem74 sz79 zero79 (by decide) (by decide) rfl rfl rfl rfl (fun b29 => ?_)
    refine WXL.appendGs [_, _, _, _] (nth n.edges k).a.toNat (by omega) Met.none rfl rfl rfl isrow74 rfl rfl (hR.row _ (by omega)) (Src.of (cs := [_, _, _]) (Knows.at 0 rfl) (Nat.le_of_ble_eq_true rfl) rfl) elem74 sz79 by79 zero79 rfl (by omega) (by decide) (by decide) rfl (fun a30 c30 G30 hG30 => ?_)
    first | refine WXL.ix Met.none rfl rfl elem72 sz74 ?_ | refine WXL.ixS Met.none rfl rfl elem72 sz74 ?_
    refine WXL.st (vs := [_]) (j := 2) Met.none rfl rfl rfl sz74 ?_ (hj := rfl) (hl := (by rw [rows_len, List.length_singleton]; omega)) (hc := (splice_one _ _ _ (by rw [rows_len]; omega)))
    refine WXL.nil ?_
    refine Fin.then_normal ?_
    refine WX.draw rfl ?_
    refine WXL.move Met.none rfl ?_
    refine WXL.fieldAddr (off' := 1) Met.none rfl Try.underlying44 rfl sz3 rfl ?_
    first | refine WXL.ld Met.none rfl agg3 ?_ | refine WXL.ldS Met.none rfl agg3 ?_
    refine WXL.move Met.none rfl ?_
    refine WXL.fieldAddr (off' := 1) Met.none rfl Try.underlying44 rfl sz3 rfl ?_
    first | refine WXL.ld Met.none rfl agg3 ?_ | refine WXL.ldS Met.none rfl agg3 ?_
    first | refine WXL.ix Met.none rfl rfl elem72 sz74 ?_ | refine WXL.ixS Met.none rfl rfl elem72 sz74 ?_
    refine WXL.load1 lz_ Met.none rfl (Knows.at 2 rfl) agg74 (show _ = some (Value.slice (A (nth n.edges k).b.toNat) (arcsTo n k (nth n.edges k).b.toNat).length (C (nth n.edges k).b.toNat)) from ((List.getElem?_set_ne (by omega)).trans (cell_range (by omega)))) ?_
    refine WXL.move Met.none rfl ?_
    refine WXL.fieldAddr (off' := 0) Met.none rfl Try.underlying44 rfl sz3 rfl ?_
    first | refine WXL.ld Met.none rfl agg3 ?_ | refine WXL.ldS Met.none rfl agg3 ?_
    refine WXL.build (c := [_, _, _]) Met.none rfl zero79 places79 rfl ?_
    refine WXL.buildSlice (c := [_, _, _]) Met.none rfl elem74 sz79 zero79 (by decide) (by decide) rfl rfl rfl rfl (fun b44 => ?_)
    have hG2 : Grow 3 (A (nth n.edges k).b.toNat) (arcsTo n k (nth n.edges k).b.toNat).length (C (nth n.edges k).b.toNat) (flat encA (arcsTo n k (nth n.edges k).b.toNat)) (nth (Gs.set (nth n.edges k).a.toNat G30) (nth n.edges k).b.toNat) := by
      rw [nth_set (by omega) (by omega), if_neg (by omega)]
      exact hR.row _ (by omega)
    refine WXL.appendGs [_, _, _, _, _] (nth n.edges k).b.toNat (by rw [List.length_set]; omega) Met.none rfl rfl rfl isrow74 rfl rfl hG2 (Src.of (cs := [_, _, _]) (Knows.at 0 rfl) (Nat.le_of_ble_eq_true rfl) rfl) elem74 sz79 by79 zero79 rfl (by omega) (by decide) (by decide) rfl (fun a45 c45 G45 hG45 => ?_)
    first | refine WXL.ix Met.none rfl rfl elem72 sz74 ?_ | refine WXL.ixS Met.none rfl rfl elem72 sz74 ?_
    refine WXL.st (vs := [_]) (j := 3) Met.none rfl rfl rfl sz74 ?_ (hj := rfl) (hl := (by rw [List.length_set, rows_len, List.length_singleton]; omega)) (hc := (splice_one _ _ _ (by rw [List.length_set, rows_len]; omega)))
    refine WXL.nil ?_
    refine Fin.block_normal ?_
    refine Fin.then_normal ?_
    refine WX.region rfl ?_
    refine WXL.bin Met.none rfl rfl bvA ?_
    refine WXL.move Met.none rfl ?_
    refine WXL.nil ?_
    exact Fin.loop_next (k + 1, _, _, _) ⟨by simp only; omega, hR.next hn hk hG30 hG45⟩ (by simp only; omega) (fun s hs => by
      have := hs.told (L' := [(1, Ptr b1 0), (3, Row b8 0 n.nodes.toNat n.nodes.toNat), (10, .slice a n.edges.length c), (11, I (n.edges.length : Int)), (12, I ((k + 1 : Nat) : Int))]) ⟨eq_, eq_, eq_, eq_, eq_, trivial⟩ [3, 4] 5 (by decide) (by decide) rfl
      rw [rows_two hn hk] at this
      exact this)
  · try simp only [cnd] at hc0
    refine WX.exit ?_
    refine Fin.then_exit ?_
    refine Fin.loop_exit ?_
    refine Fin.block_hit rfl ?_
    refine Fin.then_normal ?_
    refine WX.seq ?_
    refine WX.region rfl ?_
    refine WXL.move Met.none rfl ?_
    refine WXL.assign Met.none rfl ?_
    refine WXL.nil ?_
    refine Fin.then_normal ?_
    refine WX.ret ?_
    have hk : k = n.edges.length := by omega
    subst hk
    exact Fin.result (O' := (b8, ⟨1, false, rowsV n n.edges.length A C⟩) :: (Gs.flatten ++ O)) (.inr rfl) rfl rfl (fun _ => Sat.told [0] 2 (by decide) (by decide) rfl) ⟨b8, _, A, C, Gs, rfl, hR, rfl⟩

theorem ArcRows.own {n : Net4} {k : Nat} {A : Nat → Option Addr} {C : Nat → Nat} {Gs : List Objs} (h : ArcRows n k A C Gs) : ∀ p ∈ Gs.flatten, p.2.ro = false := by
  intro p hp
  obtain ⟨G, hG, hp⟩ := List.mem_flatten.1 hp
  obtain ⟨u, hu, rfl⟩ := List.mem_iff_getElem.1 hG
  have := (h.row u (by rw [← h.len]; exact hu)).own
  rw [nth_get hu] at this
  exact this p hp

theorem arcs_q (O : Objs) (n : Net4) (a : Option Addr) (c : Nat) (hn : Sound n) (hl : Edges O n a c) :
    Spec Try.prog true 36 #[netV n a c] O fun v O' => ∃ b c' A C Gs, v = Row b 0 n.nodes.toNat c' ∧ ArcRows n n.edges.length A C Gs ∧ O' = (b, ⟨1, false, rowsV n n.edges.length A C⟩) :: (Gs.flatten ++ O) := by
  have h := Spec.frame (Post := fun v N => ∃ b c' A C Gs, v = Row b 0 n.nodes.toNat c' ∧ ArcRows n n.edges.length A C Gs ∧ N = (b, ⟨1, false, rowsV n n.edges.length A C⟩) :: Gs.flatten) ((arcs_ok (roO O) n a c hn hl.roh).mono fun v O' ⟨b, c', A, C, Gs, e, hR, eo⟩ =>
    ⟨(b, ⟨1, false, rowsV n n.edges.length A C⟩) :: Gs.flatten, ⟨b, c', A, C, Gs, e, hR, rfl⟩, fun p hp => (by
      rcases List.mem_cons.1 hp with rfl | hp
      · rfl
      · exact hR.own p hp), eo⟩)
  exact h.mono fun v O' ⟨N, ⟨b, c', A, C, Gs, e, hR, eN⟩, eo⟩ => ⟨b, c', A, C, Gs, e, hR, by rw [eo, eN]; rfl⟩

end Go.Proofs.Ytjmklialkjncaaa.Eng

set_option linter.unusedVariables false
set_option linter.unusedSimpArgs false
namespace Go.Proofs.Ytjmklialkjncaaa.Eng

def genOf {α : Type} (F : Int → Nat → α) (l : List Int) : List α := (List.range l.length).map fun v => F (nth l v) v

theorem genOf_len {α : Type} (F : Int → Nat → α) (l : List Int) : (genOf F l).length = l.length := by unfold genOf; simp

theorem nth_genOf {α : Type} [Inhabited α] (F : Int → Nat → α) {l : List Int} {v : Nat} (h : v < l.length) : nth (genOf F l) v = F (nth l v) v := by
  rw [nth_get (by rw [genOf_len]; exact h)]
  unfold genOf
  simp

theorem genOf_set {α : Type} [Inhabited α] (F : Int → Nat → α) {l : List Int} {v : Nat} {i : Int} (h : v < l.length) : genOf F (l.set v i) = (genOf F l).set v (F i v) := by
  refine ext_nth (by rw [genOf_len, List.length_set, List.length_set, genOf_len]) fun j hj => ?_
  rw [genOf_len, List.length_set] at hj
  rw [nth_genOf F (by rw [List.length_set]; exact hj), nth_set h hj, nth_set (by rw [genOf_len]; exact h) (by rw [genOf_len]; exact hj), nth_genOf F hj]
  by_cases e : v = j
  · subst e; simp
  · simp [e]

theorem genOf_replicate {α : Type} [Inhabited α] (F : Int → Nat → α) (m : Nat) (a : Int) (d : α) (h : ∀ v, F a v = d) : genOf F (List.replicate m a) = List.replicate m d := by
  refine ext_nth (by rw [genOf_len, List.length_replicate, List.length_replicate]) fun j hj => ?_
  rw [genOf_len, List.length_replicate] at hj
  rw [nth_genOf F (by rw [List.length_replicate]; exact hj), nth_get (by simpa using hj), nth_get (by simpa using hj), List.getElem_replicate, List.getElem_replicate, h]

theorem set_replicate {α : Type} (m v : Nat) (d : α) : (List.replicate m d).set v d = List.replicate m d := by
  apply List.ext_getElem
  · simp
  · intro j h1 h2
    rw [List.getElem_set]
    split <;> simp

def seenF (i : Int) (_ : Nat) : Bool := decide (i ≠ -2)
def byF (n : Net4) (i : Int) (v : Nat) : Arc := if 0 ≤ i then ⟨i.toNat, v, decide ((nth n.edges i.toNat).b = v)⟩ else ⟨0, 0, false⟩
def fromF (n : Net4) (i : Int) (v : Nat) : Int := if 0 ≤ i then otherR (nth n.edges i.toNat) v else 0

theorem start_gen {α : Type} [Inhabited α] (F : Int → Nat → α) (n : Net4) (hn : Sound n) (d : α) (h : ∀ v, F (-2) v = d) : genOf F (startBS n).by_ = (List.replicate n.nodes.toNat d).set n.source.toNat (F (-1) n.source.toNat) := by
  have h1 := hn.nodes
  have h2 := hn.source
  unfold startBS
  rw [genOf_set F (by rw [List.length_replicate]; omega), genOf_replicate F _ _ d h]

theorem start_by (n : Net4) (hn : Sound n) : genOf (byF n) (startBS n).by_ = List.replicate n.nodes.toNat ⟨0, 0, false⟩ := by
  rw [start_gen (byF n) n hn ⟨0, 0, false⟩ fun v => rfl]
  exact set_replicate _ _ _
theorem start_from (n : Net4) (hn : Sound n) : genOf (fromF n) (startBS n).by_ = List.replicate n.nodes.toNat 0 := by
  rw [start_gen (fromF n) n hn 0 fun v => rfl]
  exact set_replicate _ _ _
theorem start_seen (n : Net4) (hn : Sound n) : genOf seenF (startBS n).by_ = (List.replicate n.nodes.toNat false).set n.source.toNat true := start_gen seenF n hn false fun v => rfl

/-- The edges at a node, in order. -/
def incL (n : Net4) (u : Nat) : List Nat := (List.range n.edges.length).filter (touches n u)

theorem arcsOf_eq (n : Net4) (u : Nat) : arcsOf n u = (incL n u).map (arcAt n u) := rfl

theorem incL_mem {n : Net4} {u i : Nat} (h : i ∈ incL n u) : i < n.edges.length ∧ ((nth n.edges i).a = u ∨ (nth n.edges i).b = u) := by
  unfold incL touches at h
  rw [List.mem_filter, List.mem_range, decide_eq_true_eq] at h
  exact h

theorem rest_start {n : Net4} {f : List Int} {stop : Bool} {k : Nat} {u : Int} {S : BS} (hu : 0 ≤ u) : restL n f stop k u (List.range n.edges.length) S = restL n f stop k u (incL n u.toNat) S := by
  unfold restL
  rw [innerL_filter]
  have : (List.range n.edges.length).filter (fun i => decide ((nth n.edges i).a = u ∨ (nth n.edges i).b = u)) = incL n u.toNat := by
    unfold incL
    apply List.filter_congr
    intro i _
    unfold touches
    rw [Int.toNat_of_nonneg hu]
  rw [this]

theorem arc_rest {n : Net4} (hn : Sound n) {u i : Nat} (f : List Int) (h : i ∈ incL n u) : restR (nth n.edges i) (nth f i) u = ((arcAt n u i).to, restP n f (arcAt n u i)) ∧ (arcAt n u i).edge = i ∧
    otherR (nth n.edges i) (arcAt n u i).to = u ∧ (arcAt n u i).fwd = decide ((nth n.edges i).b = (arcAt n u i).to) ∧ 0 ≤ (arcAt n u i).to ∧ (arcAt n u i).to < n.nodes := by
  obtain ⟨hi, hu⟩ := incL_mem h
  have he := hn.at hi
  unfold arcAt restR restP otherR
  by_cases ha : (nth n.edges i).a = u
  · simp only [if_pos ha, if_true, true_and]
    refine ⟨?_, ?_, by omega, by omega⟩
    · rw [if_neg (by omega)]; exact ha
    · simp
  · have hb : (nth n.edges i).b = u := by omega
    simp only [if_neg ha, if_pos hb, Bool.false_eq_true, if_false, true_and]
    refine ⟨?_, ?_, by omega, by omega⟩
    · rw [if_pos trivial]; exact hb
    · exact (decide_eq_false (by omega)).symm

end Go.Proofs.Ytjmklialkjncaaa.Eng

set_option linter.unusedVariables false
set_option linter.unusedSimpArgs false
namespace Go.Proofs.Ytjmklialkjncaaa.Eng

/-- What is visited, in the program's lists. -/
def seenL (S : BS) : List Bool := genOf seenF S.by_
def byL (n : Net4) (S : BS) : List Arc := genOf (byF n) S.by_
def fromL (n : Net4) (S : BS) : List Int := genOf (fromF n) S.by_

theorem seen_nth {S : BS} {v : Nat} (h : v < S.by_.length) : nth (seenL S) v = decide (nth S.by_ v ≠ -2) := nth_genOf seenF h

theorem visit_gen {n : Net4} (hn : Sound n) {f : List Int} {u i : Nat} {S : BS} (hg : Good n S) (h : i ∈ incL n u) :
    seenL ⟨S.by_.set (arcAt n u i).to.toNat i, S.queue ++ [(arcAt n u i).to]⟩ = (seenL S).set (arcAt n u i).to.toNat true ∧
    byL n ⟨S.by_.set (arcAt n u i).to.toNat i, S.queue ++ [(arcAt n u i).to]⟩ = (byL n S).set (arcAt n u i).to.toNat (arcAt n u i) ∧
    fromL n ⟨S.by_.set (arcAt n u i).to.toNat i, S.queue ++ [(arcAt n u i).to]⟩ = (fromL n S).set (arcAt n u i).to.toNat u := by
  obtain ⟨_, he, ho, hf, h0, h1⟩ := arc_rest hn f h
  have hl := hg.len
  have hlt : (arcAt n u i).to.toNat < S.by_.length := by omega
  have hto : (((arcAt n u i).to.toNat : Nat) : Int) = (arcAt n u i).to := Int.toNat_of_nonneg h0
  unfold seenL byL fromL
  refine ⟨?_, ?_, ?_⟩
  · rw [genOf_set seenF hlt]
    congr 1
  · rw [genOf_set (byF n) hlt]
    congr 1
    unfold byF
    rw [if_pos (by omega), Int.toNat_natCast, hto, ← hf]
    generalize arcAt n u i = r at he ⊢
    cases r
    simp only at he ⊢
    rw [he]
  · rw [genOf_set (fromF n) hlt]
    congr 1
    unfold fromF
    rw [if_pos (by omega), Int.toNat_natCast, hto, ho]

theorem search_ok (O : Objs) (n : Net4) (f : List Int) (stop : Bool) (a af aa : Option Addr) (c cf ca : Nat) (A : Nat → Option Addr) (C : Nat → Nat) (hn : Sound n) (hfl : Flow n f) (hl : Edges O n a c) (hf : Src O 1 (.slice af f.length cf) f.length (f.map I))
    (har : Src O 1 (.slice aa n.nodes.toNat ca) n.nodes.toNat (rowsV n n.edges.length A C)) (hrow : ∀ u, u < n.nodes.toNat → Src O 3 (.slice (A u) (arcsOf n u).length (C u)) (arcsOf n u).length (flat encA (arcsOf n u))) :
    Spec Try.prog false 37 #[netV n a c, .slice af f.length cf, .slice aa n.nodes.toNat ca, .bool stop] O fun v O' => ∃ S b1 b2 b3, searchR n f stop = S.by_ ∧ (S.by_.length : Int) = n.nodes ∧ v = .tuple #[Row b1 0 n.nodes.toNat n.nodes.toNat, Row b2 0 n.nodes.toNat n.nodes.toNat, Row b3 0 n.nodes.toNat n.nodes.toNat] ∧
      O' = (b3, ⟨1, false, (seenL S).map .bool⟩) :: (b2, ⟨1, false, (fromL n S).map I⟩) :: (b1, ⟨3, false, flat encA (byL n S)⟩) :: O := by
  have hnn := hn.nodes
  have hns := hn.source
  have hnk := hn.sink
  have hlen := hn.len
  have hfe := hfl.len
  refine Spec.enter (args := [_, _, _, _]) (m := 95) Try.func37 rfl rfl (by decide +kernel) fun h0 => ?_
  refine WX.seq ?_
  refine WX.region rfl ?_
  refine WXL.box (c := [_, _, _, _]) Met.none rfl rfl rfl (fun b4 => ?_)
  refine WXL.assign Met.none rfl ?_
  refine WXL.assign Met.none rfl ?_
  refine WXL.assign Met.none rfl ?_
  refine WXL.nil ?_
  refine Fin.then_normal ?_
  refine WX.scope ?_
  refine WX.seq ?_
  refine WX.draw rfl ?_
  refine WXL.fieldAddr (off' := 0) Met.none rfl Try.underlying36 rfl sz3 rfl ?_
  first | refine WXL.ld Met.none rfl agg3 ?_ | refine WXL.ldS Met.none rfl agg3 ?_
  refine WXL.makeSlice Met.none rfl rfl elem74 sz79 by79 zero79 (by omega) (by omega) (by omega) rfl (by decide) (by first | rw [Int.toNat_natCast] | exact rfl) (zerosL_flat (E := encA) (⟨0, 0, false⟩ : Arc) _) (fun b17 => ?_)
  refine WXL.fieldAddr (off' := 0) Met.none rfl Try.underlying36 rfl sz3 rfl ?_
  first | refine WXL.ld Met.none rfl agg3 ?_ | refine WXL.ldS Met.none rfl agg3 ?_
  refine WXL.makeSlice Met.none rfl rfl elem22 sz3 by3 zero3 (by omega) (by omega) (by omega) rfl (by decide) (by first | rw [Int.toNat_natCast] | exact rfl) (zerosL_map I 0 _) (fun b20 => ?_)
  refine WXL.fieldAddr (off' := 0) Met.none rfl Try.underlying36 rfl sz3 rfl ?_
  first | refine WXL.ld Met.none rfl agg3 ?_ | refine WXL.ldS Met.none rfl agg3 ?_
  refine WXL.makeSlice Met.none rfl rfl elem46 sz4 by4 zero4 (by omega) (by omega) (by omega) rfl (by decide) (by first | rw [Int.toNat_natCast] | exact rfl) (zerosL_map Value.bool false _) (fun b23 => ?_)
  refine WXL.assign Met.none rfl ?_
  refine WXL.assign Met.none rfl ?_
  refine WXL.assign Met.none rfl ?_
  refine WXL.nil ?_
  refine Fin.then_normal ?_
  refine WX.seq ?_
  refine WX.region rfl ?_
  refine WXL.move Met.none rfl ?_
  refine WXL.fieldAddr (off' := 1) Met.none rfl Try.underlying36 rfl sz3 rfl ?_
  first | refine WXL.ld Met.none rfl agg3 ?_ | refine WXL.ldS Met.none rfl agg3 ?_
  first | refine WXL.ix Met.none rfl rfl elem46 sz4 ?_ | refine WXL.ixS Met.none rfl rfl elem46 sz4 ?_
  refine WXL.st (vs := [_]) Met.none rfl rfl rfl sz4 ?_ (hl := (by rw [List.length_map, List.length_replicate, List.length_singleton]; omega)) (hc := (splice_map Value.bool _ _ true (by rw [List.length_replicate]; omega)))
  refine WXL.nil ?_
  refine Fin.then_normal ?_
  refine WX.seq ?_
  refine WX.region rfl ?_
  refine WXL.fieldAddr (off' := 1) Met.none rfl Try.underlying36 rfl sz3 rfl ?_
  first | refine WXL.ld Met.none rfl agg3 ?_ | refine WXL.ldS Met.none rfl agg3 ?_
  refine WXL.buildSlice (c := [_]) Met.none rfl elem22 sz3 zero3 (by decide) (by decide) rfl rfl rfl rfl (fun b30 => ?_)
  refine WXL.assign Met.none rfl ?_
  refine WXL.nil ?_
  refine Fin.then_normal ?_
  refine WX.seq ?_
  refine WX.label ?_
  refine Fin.then_normal ?_
  refine WX.seq ?_
  refine WX.seq ?_
  refine WX.region rfl ?_
  refine WXL.assign Met.none rfl ?_
  refine WXL.nil ?_
  refine Fin.then_normal ?_
  refine WX.block ?_
  refine WX.loop (fun q : BS × Nat × Nat × Nat => [(1, .slice af f.length cf), (2, .slice aa n.nodes.toNat ca), (3, .bool stop), (4, Ptr b4 0), (8, Row b17 0 n.nodes.toNat n.nodes.toNat), (9, Row b20 0 n.nodes.toNat n.nodes.toNat), (10, Row b23 0 n.nodes.toNat n.nodes.toNat), (11, Row q.2.2.1 0 q.1.queue.length q.2.2.2), (12, I (q.2.1 : Int))]) (fun q => (q.2.2.1, ⟨1, false, q.1.queue.map I⟩) :: (b23, ⟨1, false, (seenL q.1).map .bool⟩) :: (b20, ⟨1, false, (fromL n q.1).map I⟩) :: (b17, ⟨3, false, flat encA (byL n q.1)⟩) :: (b4, ⟨0, false, [I n.nodes, I n.source, I n.sink, .slice a n.edges.length c]⟩) :: O) (fun q => q.2.1 ≤ q.1.queue.length ∧ Good n q.1 ∧ outerL n f stop (n.nodes.toNat - q.2.1) q.1 q.2.1 = searchR n f stop) (fun q => n.nodes.toNat - q.2.1) (startBS n, 0, b30, 1) ⟨Nat.zero_le _, Good.start hn, rfl⟩ ?_ (fun q hq => ?_)
  · intro s hs
    have := hs.told (L' := [(1, .slice af f.length cf), (2, .slice aa n.nodes.toNat ca), (3, .bool stop), (4, Ptr b4 0), (8, Row b17 0 n.nodes.toNat n.nodes.toNat), (9, Row b20 0 n.nodes.toNat n.nodes.toNat), (10, Row b23 0 n.nodes.toNat n.nodes.toNat), (11, Row b30 0 1 1), (12, I ((0 : Nat) : Int))]) ⟨rfl, rfl, rfl, rfl, rfl, rfl, rfl, rfl, rfl, trivial⟩ [0, 1, 2, 3, 4] 5 (by decide) (by decide) rfl
    unfold seenL fromL byL
    simp only [start_seen n hn, start_from n hn, start_by n hn]
    exact this
  obtain ⟨S, k, bq, cq⟩ := q
  obtain ⟨hk1, hgd, hout⟩ := hq
  simp only at hk1 hgd hout
  dsimp only
  have hroom := hgd.room
  have hbl := hgd.len
  refine WX.seq ?_
  refine WX.seq ?_
  refine WX.region rfl ?_
  refine WXL.move Met.none rfl ?_
  refine WXL.move Met.none rfl ?_
  refine WXL.len Met.none rfl Try.underlying22 ?_
  refine WXL.bin Met.none rfl rfl rfl ?_
  refine WXL.nil ?_
  refine Fin.then_normal ?_
  refine WX.cond rfl (fun hc0 => ?_) (fun hc0 => ?_)
  · try simp only [cnd] at hc0
    refine WX.skip ?_
    refine Fin.then_normal ?_
    refine WX.seq ?_
    refine WX.block ?_
    refine WX.seq ?_
    have hkn : k < n.nodes.toNat := by omega
    have huin := hgd.inside _ (nth_mem (l := S.queue) (i := k) (by omega))
    have hRow := hrow (nth S.queue k).toNat (by omega)
    have hrl := arcsTo_len n n.edges.length (nth S.queue k).toNat
    rw [outer_more (by omega) hkn, rest_start huin.1] at hout
    refine WX.region rfl ?_
    refine WXL.move Met.none rfl ?_
    refine WXL.move Met.none rfl ?_
    refine WXL.move Met.none rfl ?_
    first | refine WXL.ix Met.none rfl rfl elem22 sz3 ?_ | refine WXL.ixS Met.none rfl rfl elem22 sz3 ?_
    first | refine WXL.ld Met.none rfl agg3 ?_ | refine WXL.ldS Met.none rfl agg3 ?_
    first | refine WXL.ix Met.none rfl rfl elem72 sz74 ?_ | refine WXL.ixS Met.none rfl rfl elem72 sz74 ?_
    refine WXL.load1S lz_ Met.none rfl src_ agg74 (show _ = some (Value.slice (A (nth S.queue k).toNat) (arcsOf n (nth S.queue k).toNat).length (C (nth S.queue k).toNat)) from cell_range (V := fun u => Value.slice (A u) (arcsTo n n.edges.length u).length (C u)) (u := (nth S.queue k).toNat) (by omega)) ?_
    refine WXL.len Met.none rfl Try.underlying74 ?_
    refine WXL.move Met.none rfl ?_
    refine WXL.nil ?_
    refine Fin.then_normal ?_
    refine WX.block ?_
    obtain ⟨u, hu⟩ : ∃ u, (nth S.queue k).toNat = u := ⟨_, rfl⟩
    have hun : nth S.queue k = (u : Int) := by omega
    rw [hu] at hRow hrl hout
    rw [hun] at hout
    have hrl2 : (arcsOf n u).length ≤ n.edges.length := hrl
    rw [hu]
    refine WX.loop (fun q : BS × Nat × Nat × Nat => [(1, .slice af f.length cf), (2, .slice aa n.nodes.toNat ca), (3, .bool stop), (4, Ptr b4 0), (8, Row b17 0 n.nodes.toNat n.nodes.toNat), (9, Row b20 0 n.nodes.toNat n.nodes.toNat), (10, Row b23 0 n.nodes.toNat n.nodes.toNat), (11, Row q.2.2.1 0 q.1.queue.length q.2.2.2), (12, I (k : Int)), (43, .slice (A u) (arcsOf n u).length (C u)), (44, I ((arcsOf n u).length : Int)), (45, I (q.2.1 : Int))]) (fun q => (q.2.2.1, ⟨1, false, q.1.queue.map I⟩) :: (b23, ⟨1, false, (seenL q.1).map .bool⟩) :: (b20, ⟨1, false, (fromL n q.1).map I⟩) :: (b17, ⟨3, false, flat encA (byL n q.1)⟩) :: (b4, ⟨0, false, [I n.nodes, I n.source, I n.sink, .slice a n.edges.length c]⟩) :: O) (fun q => q.2.1 ≤ (arcsOf n u).length ∧ Good n q.1 ∧ k < q.1.queue.length ∧ nth q.1.queue k = (u : Int) ∧ restL n f stop k u ((incL n u).drop q.2.1) q.1 = searchR n f stop) (fun q => (arcsOf n u).length - q.2.1) (S, 0, bq, cq) ⟨Nat.zero_le _, hgd, by simp only; omega, hun, hout⟩ (fun s hs => hs.tl [0, 1, 2, 3, 4] 5) (fun q hq => ?_)
    obtain ⟨S2, j, bq2, cq2⟩ := q
    obtain ⟨hj1, hgd2, hkq, hku, hin⟩ := hq
    simp only at hj1 hgd2 hkq hku hin
    dsimp only
    have hroom2 := hgd2.room
    have hbl2 := hgd2.len
    refine WX.seq ?_
    refine WX.region rfl ?_
    refine WXL.bin Met.none rfl rfl rfl ?_
    refine WXL.nil ?_
    refine Fin.then_normal ?_
    refine WX.seq ?_
    refine WX.cond rfl (fun hc1 => ?_) (fun hc1 => ?_)
    · try simp only [cnd] at hc1
      refine WX.skip ?_
      refine Fin.then_normal ?_
      refine WX.seq ?_
      refine WX.block ?_
      refine WX.seq ?_
      have hj : j < (arcsOf n u).length := by omega
      have hji : j < (incL n u).length := by rw [arcsOf_eq, List.length_map] at hj; exact hj
      refine WX.region rfl ?_
      first | refine WXL.ix Met.none rfl rfl elem74 sz79 ?_ | refine WXL.ixS Met.none rfl rfl elem74 sz79 ?_
      first | refine WXL.ldN Met.none rfl agg79 sz79 ?_ (hv := (cellsAt_flat encA_len _ _ hj)) | refine WXL.ldNS Met.none rfl agg79 sz79 ?_ (hv := (cellsAt_flat encA_len _ _ hj))
      refine WXL.alloc (c := [_, _, _]) Met.none zero79 rfl (fun b14 => ?_)
      refine WXL.st (vs := [_, _, _]) (c' := [_, _, _]) Met.none rfl rfl rfl sz79 ?_
      refine WXL.nil ?_
      refine Fin.then_normal ?_
      refine WX.seq ?_
      refine WX.seq ?_
      have hnth : nth (arcsOf n u) j = arcAt n u (nth (incL n u) j) := by rw [arcsOf_eq]; exact nth_map hji
      rw [hnth]
      have hmem : nth (incL n u) j ∈ incL n u := nth_mem hji
      rw [List.drop_eq_getElem_cons hji, ← nth_get hji] at hin
      obtain ⟨i, hi⟩ : ∃ i, nth (incL n u) j = i := ⟨_, rfl⟩
      rw [hi] at hmem hin
      rw [hi]
      have hie := (incL_mem hmem).1
      obtain ⟨g1, g2, g3, g4, g5, g6⟩ := arc_rest hn f hmem
      have hvg := visit_gen hn (f := f) hgd2 hmem
      have hin64 := hfl.in64 hn hie
      have hr1 : (restR (nth n.edges i) (nth f i) u).1 = (arcAt n u i).to := by rw [g1]
      have hr2 : (restR (nth n.edges i) (nth f i) u).2 = restP n f (arcAt n u i) := by rw [g1]
      have hsl : (seenL S2).length = S2.by_.length := genOf_len _ _
      have hfl2 : (fromL n S2).length = S2.by_.length := genOf_len _ _
      have hyl : (byL n S2).length = S2.by_.length := genOf_len _ _
      have hsn := seen_nth (S := S2) (v := (arcAt n u i).to.toNat) (by omega)
      refine WX.region rfl ?_
      refine WXL.move Met.none rfl ?_
      refine WXL.fieldAddr (off' := 1) Met.none rfl Try.underlying79 rfl sz3 rfl ?_
      first | refine WXL.ld Met.none rfl agg3 ?_ | refine WXL.ldS Met.none rfl agg3 ?_
      first | refine WXL.ix Met.none rfl rfl elem46 sz4 ?_ | refine WXL.ixS Met.none rfl rfl elem46 sz4 ?_
      first | refine WXL.ld Met.none rfl agg4 ?_ | refine WXL.ldS Met.none rfl agg4 ?_
      refine WXL.move Met.none rfl ?_
      refine WXL.split (d := 54) rfl (fun hg54 => ?_) (fun hg54 => ?_)
      · try simp only [cnd] at hg54
        refine WXL.miss (j := 5) (d := 54) rfl rfl rfl ?_
        refine WXL.miss (j := 5) (d := 54) rfl rfl rfl ?_
        refine WXL.miss (j := 5) (d := 54) rfl rfl rfl ?_
        refine WXL.miss (j := 5) (d := 54) rfl rfl rfl ?_
        refine WXL.miss (j := 5) (d := 54) rfl rfl rfl ?_
        refine WXL.pick_t Met.none rfl rfl ?_
        refine WXL.nil ?_
        refine Fin.then_normal ?_
        refine WX.cond rfl (fun hc2 => ?_) (fun hc2 => nomatch hc2)
        refine WX.exit ?_
        refine Fin.then_exit ?_
        refine Fin.block_hit rfl ?_
        refine Fin.then_normal ?_
        refine WX.region rfl ?_
        refine WXL.bin Met.none rfl rfl bvA ?_
        refine WXL.move Met.none rfl ?_
        refine WXL.nil ?_
        first
        | (have h2 : nth S2.by_ (restR (nth n.edges i) (nth f i) u).1.toNat ≠ -2 := by
             rw [hr1]
             rw [hsn] at hg54
             exact of_decide_eq_true hg54
           rw [rest_skip (try_none2 h2)] at hin
           exact Fin.loop_next (S2, j + 1, bq2, cq2) ⟨by simp only; omega, hgd2, hkq, hku, hin⟩ (by simp only; omega) (fun s hs => hs.tl [1, 2, 3, 4, 5] 6))
        | (have h1 : (restR (nth n.edges i) (nth f i) u).2 ≤ 0 := by rw [hr2]; exact hc2
           rw [rest_skip (try_none1 h1)] at hin
           exact Fin.loop_next (S2, j + 1, bq2, cq2) ⟨by simp only; omega, hgd2, hkq, hku, hin⟩ (by simp only; omega) (fun s hs => hs.tl [1, 2, 3, 4, 5] 6))
        | (have hby : nth S2.by_ (restR (nth n.edges i) (nth f i) u).1.toNat = -2 := by
             rw [hr1]
             rw [hsn] at hg54
             have := of_decide_eq_false hg54
             omega
           have hrs : 0 < (restR (nth n.edges i) (nth f i) u).2 := by rw [hr2]; omega
           have hgp := hgd2.push hn hie hrs hby
           rw [rest_visit (try_some hrs hby) (by rw [hr1]; first | exact fun q => hc3 q.2 | exact fun q => (by rw [hg79] at q; cases q.1))] at hin
           rw [hr1] at hin hgp
           rw [hku, ← hvg.1, ← hvg.2.1, ← hvg.2.2]
           exact Fin.loop_next (⟨S2.by_.set (arcAt n u i).to.toNat i, S2.queue ++ [(arcAt n u i).to]⟩, j + 1, b90, _) ⟨by simp only; omega, hgp, by simp only [List.length_append]; omega, by simp only; rw [nth_append_left hkq]; exact hku, hin⟩ (by simp only; omega) (fun s hs => hs.told ⟨eq_, eq_, eq_, eq_, eq_, eq_, eq_, (by first | exact rfl | (rw [List.length_append]; exact rfl)), eq_, eq_, eq_, eq_, trivial⟩ [2, 3, 4, 5, 6] 7 (by decide) (by decide) rfl))
      · try simp only [cnd] at hg54
        refine WXL.ldN (vs := [_, _, _, _]) (Met.some rfl rfl rfl) rfl agg36 sz36 ?_
        refine WXL.move (Met.some rfl rfl rfl) rfl ?_
        refine WXL.ldN (vs := [_, _, _]) (Met.some rfl rfl rfl) rfl agg79 sz79 ?_
        refine WXL.cl (O1 := _) (Met.some rfl rfl rfl) rfl (fnOk_of Try.func38 (by decide +kernel)) rfl (fun _ h => h) (rest_ok _ n f (arcAt n u i) a af c cf src_ src_ hfe (by omega) (fun _ => by rw [g2]; exact hin64.1) (fun _ => by rw [g2]; exact hin64.2)) (fun v O' hp => ?_)
        obtain ⟨rfl, hO⟩ := hp
        subst O'
        refine WXL.bin (Met.some rfl rfl rfl) rfl rfl rfl ?_
        refine WXL.pick_f Met.none rfl rfl ?_
        refine WXL.nil ?_
        refine Fin.then_normal ?_
        refine WX.cond rfl (fun hc2 => ?_) (fun hc2 => ?_)
        · try simp only [cnd] at hc2
          refine WX.exit ?_
          refine Fin.then_exit ?_
          refine Fin.block_hit rfl ?_
          refine Fin.then_normal ?_
          refine WX.region rfl ?_
          refine WXL.bin Met.none rfl rfl bvA ?_
          refine WXL.move Met.none rfl ?_
          refine WXL.nil ?_
          first
          | (have h2 : nth S2.by_ (restR (nth n.edges i) (nth f i) u).1.toNat ≠ -2 := by
               rw [hr1]
               rw [hsn] at hg54
               exact of_decide_eq_true hg54
             rw [rest_skip (try_none2 h2)] at hin
             exact Fin.loop_next (S2, j + 1, bq2, cq2) ⟨by simp only; omega, hgd2, hkq, hku, hin⟩ (by simp only; omega) (fun s hs => hs.tl [1, 2, 3, 4, 5] 6))
          | (have h1 : (restR (nth n.edges i) (nth f i) u).2 ≤ 0 := by rw [hr2]; exact hc2
             rw [rest_skip (try_none1 h1)] at hin
             exact Fin.loop_next (S2, j + 1, bq2, cq2) ⟨by simp only; omega, hgd2, hkq, hku, hin⟩ (by simp only; omega) (fun s hs => hs.tl [1, 2, 3, 4, 5] 6))
          | (have hby : nth S2.by_ (restR (nth n.edges i) (nth f i) u).1.toNat = -2 := by
               rw [hr1]
               rw [hsn] at hg54
               have := of_decide_eq_false hg54
               omega
             have hrs : 0 < (restR (nth n.edges i) (nth f i) u).2 := by rw [hr2]; omega
             have hgp := hgd2.push hn hie hrs hby
             rw [rest_visit (try_some hrs hby) (by rw [hr1]; first | exact fun q => hc3 q.2 | exact fun q => (by rw [hg79] at q; cases q.1))] at hin
             rw [hr1] at hin hgp
             rw [hku, ← hvg.1, ← hvg.2.1, ← hvg.2.2]
             exact Fin.loop_next (⟨S2.by_.set (arcAt n u i).to.toNat i, S2.queue ++ [(arcAt n u i).to]⟩, j + 1, b90, _) ⟨by simp only; omega, hgp, by simp only [List.length_append]; omega, by simp only; rw [nth_append_left hkq]; exact hku, hin⟩ (by simp only; omega) (fun s hs => hs.told ⟨eq_, eq_, eq_, eq_, eq_, eq_, eq_, (by first | exact rfl | (rw [List.length_append]; exact rfl)), eq_, eq_, eq_, eq_, trivial⟩ [2, 3, 4, 5, 6] 7 (by decide) (by decide) rfl))
        · try simp only [cnd] at hc2
          refine WX.skip ?_
          refine Fin.then_normal ?_
          refine WX.seq ?_
          refine WX.draw rfl ?_
          refine WXL.move Met.none rfl ?_
          refine WXL.fieldAddr (off' := 1) Met.none rfl Try.underlying79 rfl sz3 rfl ?_
          first | refine WXL.ld Met.none rfl agg3 ?_ | refine WXL.ldS Met.none rfl agg3 ?_
          refine WXL.move Met.none rfl ?_
          refine WXL.fieldAddr (off' := 1) Met.none rfl Try.underlying79 rfl sz3 rfl ?_
          refine WXL.lz1 Met.none rfl agg3 ?_
          refine WXL.move Met.none rfl ?_
          refine WXL.fieldAddr (off' := 1) Met.none rfl Try.underlying79 rfl sz3 rfl ?_
          refine WXL.lz1 Met.none rfl agg3 ?_
          refine WXL.lzN (vs := [_, _, _]) Met.none rfl agg79 sz79 ?_
          refine WXL.move Met.none rfl ?_
          refine WXL.move Met.none rfl ?_
          first | refine WXL.ix Met.none rfl rfl elem22 sz3 ?_ | refine WXL.ixS Met.none rfl rfl elem22 sz3 ?_
          first | refine WXL.ld Met.none rfl agg3 ?_ | refine WXL.ldS Met.none rfl agg3 ?_
          first | refine WXL.ix Met.none rfl rfl elem46 sz4 ?_ | refine WXL.ixS Met.none rfl rfl elem46 sz4 ?_
          refine WXL.st (vs := [_]) Met.none rfl rfl rfl sz4 ?_ (hl := (by rw [List.length_map, List.length_singleton]; omega))
          first | refine WXL.ix Met.none rfl rfl elem74 sz79 ?_ | refine WXL.ixS Met.none rfl rfl elem74 sz79 ?_
          refine WXL.st Met.none rfl rfl rfl sz79 ?_ (hl := (by rw [flat_length encA_len]; show _ + 3 ≤ _; omega)) (hc := (splice_flat encA_len _ _ (arcAt n u i) (by omega)))
          first | refine WXL.ix Met.none rfl rfl elem22 sz3 ?_ | refine WXL.ixS Met.none rfl rfl elem22 sz3 ?_
          refine WXL.st (vs := [_]) Met.none rfl rfl rfl sz3 ?_ (hl := (by rw [List.length_map, List.length_singleton]; omega))
          refine WXL.nil ?_
          refine Fin.then_normal ?_
          refine WX.seq ?_
          refine WX.seq ?_
          refine WX.region rfl ?_
          refine WXL.move Met.none rfl ?_
          refine WXL.move Met.none rfl ?_
          refine WXL.split (d := 79) rfl (fun hg79 => ?_) (fun hg79 => ?_)
          · try simp only [cnd] at hg79
            refine WXL.fieldAddr (off' := 1) (Met.some rfl rfl rfl) rfl Try.underlying79 rfl sz3 rfl ?_
            first | refine WXL.ld (Met.some rfl rfl rfl) rfl agg3 ?_ | refine WXL.ldS (Met.some rfl rfl rfl) rfl agg3 ?_
            refine WXL.fieldAddr (off' := 2) (Met.some rfl rfl rfl) rfl Try.underlying36 rfl sz3 rfl ?_
            first | refine WXL.ld (Met.some rfl rfl rfl) rfl agg3 ?_ | refine WXL.ldS (Met.some rfl rfl rfl) rfl agg3 ?_
            refine WXL.bin (Met.some rfl rfl rfl) rfl rfl rfl ?_
            refine WXL.pick_t Met.none rfl rfl ?_
            refine WXL.nil ?_
            refine Fin.then_normal ?_
            refine WX.cond rfl (fun hc3 => ?_) (fun hc3 => ?_)
            · try simp only [cnd] at hc3
              refine WX.exit ?_
              refine Fin.then_exit ?_
              refine Fin.block_miss rfl ?_
              refine Fin.then_exit ?_
              refine Fin.loop_exit ?_
              refine Fin.block_miss rfl ?_
              refine Fin.block_miss rfl ?_
              refine Fin.then_exit ?_
              refine Fin.loop_exit ?_
              refine Fin.block_hit rfl ?_
              refine Fin.then_normal ?_
              refine WX.seq ?_
              refine WX.region rfl ?_
              refine WXL.move Met.none rfl ?_
              refine WXL.move Met.none rfl ?_
              refine WXL.move Met.none rfl ?_
              refine WXL.assign Met.none rfl ?_
              refine WXL.assign Met.none rfl ?_
              refine WXL.assign Met.none rfl ?_
              refine WXL.nil ?_
              refine Fin.then_normal ?_
              refine WX.ret ?_
              first
              | (rw [outer_end (by omega)] at hout
                 exact Fin.result (.inr rfl) rfl rfl (fun _ => Sat.told [1, 2, 3] 5 (by decide) (by decide) rfl) ⟨S, b17, b20, b23, hout.symm, hbl, rfl, rfl⟩)
              | (have hby : nth S2.by_ (restR (nth n.edges i) (nth f i) u).1.toNat = -2 := by
                   rw [hr1]
                   rw [hsn] at hg54
                   have := of_decide_eq_false hg54
                   omega
                 have hrs : 0 < (restR (nth n.edges i) (nth f i) u).2 := by rw [hr2]; omega
                 have hgp := hgd2.push hn hie hrs hby
                 rw [rest_stop (try_some hrs hby) ⟨hg79, by rw [hr1]; exact hc3⟩] at hin
                 rw [hr1] at hin hgp
                 rw [hku, ← hvg.1, ← hvg.2.1, ← hvg.2.2]
                 exact Fin.result (.inr rfl) rfl rfl (fun _ => Sat.told [2, 3, 4] 6 (by decide) (by decide) rfl) ⟨⟨S2.by_.set (arcAt n u i).to.toNat i, S2.queue ++ [(arcAt n u i).to]⟩, b17, b20, b23, hin.symm, hgp.len, rfl, rfl⟩)
            · try simp only [cnd] at hc3
              refine WX.skip ?_
              refine Fin.then_normal ?_
              refine WX.region rfl ?_
              refine WXL.move Met.none rfl ?_
              refine WXL.fieldAddr (off' := 1) Met.none rfl Try.underlying79 rfl sz3 rfl ?_
              first | refine WXL.ld Met.none rfl agg3 ?_ | refine WXL.ldS Met.none rfl agg3 ?_
              refine WXL.buildSlice (c := [_]) Met.none rfl elem22 sz3 zero3 (by decide) (by decide) rfl rfl rfl rfl (fun b89 => ?_)
              refine WXL.ap Met.none rfl rfl isrow22 elem22 sz3 by3 zero3 (Src.lit (cs := [_])) (fun b90 => ?_) (hc := (show _ = (S2.queue ++ [(arcAt n u i).to]).map I from by simp))
              refine WXL.assign Met.none rfl ?_
              refine WXL.nil ?_
              refine Fin.block_normal ?_
              refine Fin.then_normal ?_
              refine WX.region rfl ?_
              refine WXL.bin Met.none rfl rfl bvA ?_
              refine WXL.move Met.none rfl ?_
              refine WXL.nil ?_
              first
              | (have h2 : nth S2.by_ (restR (nth n.edges i) (nth f i) u).1.toNat ≠ -2 := by
                   rw [hr1]
                   rw [hsn] at hg54
                   exact of_decide_eq_true hg54
                 rw [rest_skip (try_none2 h2)] at hin
                 exact Fin.loop_next (S2, j + 1, bq2, cq2) ⟨by simp only; omega, hgd2, hkq, hku, hin⟩ (by simp only; omega) (fun s hs => hs.tl [1, 2, 3, 4, 5] 6))
              | (have h1 : (restR (nth n.edges i) (nth f i) u).2 ≤ 0 := by rw [hr2]; exact hc2
                 rw [rest_skip (try_none1 h1)] at hin
                 exact Fin.loop_next (S2, j + 1, bq2, cq2) ⟨by simp only; omega, hgd2, hkq, hku, hin⟩ (by simp only; omega) (fun s hs => hs.tl [1, 2, 3, 4, 5] 6))
              | (have hby : nth S2.by_ (restR (nth n.edges i) (nth f i) u).1.toNat = -2 := by
                   rw [hr1]
                   rw [hsn] at hg54
                   have := of_decide_eq_false hg54
                   omega
                 have hrs : 0 < (restR (nth n.edges i) (nth f i) u).2 := by rw [hr2]; omega
                 have hgp := hgd2.push hn hie hrs hby
                 rw [rest_visit (try_some hrs hby) (by rw [hr1]; first | exact fun q => hc3 q.2 | exact fun q => (by rw [hg79] at q; cases q.1))] at hin
                 rw [hr1] at hin hgp
                 rw [hku, ← hvg.1, ← hvg.2.1, ← hvg.2.2]
                 exact Fin.loop_next (⟨S2.by_.set (arcAt n u i).to.toNat i, S2.queue ++ [(arcAt n u i).to]⟩, j + 1, b90, _) ⟨by simp only; omega, hgp, by simp only [List.length_append]; omega, by simp only; rw [nth_append_left hkq]; exact hku, hin⟩ (by simp only; omega) (fun s hs => hs.told ⟨eq_, eq_, eq_, eq_, eq_, eq_, eq_, (by first | exact rfl | (rw [List.length_append]; exact rfl)), eq_, eq_, eq_, eq_, trivial⟩ [2, 3, 4, 5, 6] 7 (by decide) (by decide) rfl))
          · try simp only [cnd] at hg79
            refine WXL.miss (j := 1) (d := 79) rfl rfl rfl ?_
            refine WXL.miss (j := 1) (d := 79) rfl rfl rfl ?_
            refine WXL.miss (j := 1) (d := 79) rfl rfl rfl ?_
            refine WXL.miss (j := 1) (d := 79) rfl rfl rfl ?_
            refine WXL.miss (j := 1) (d := 79) rfl rfl rfl ?_
            refine WXL.pick_f Met.none rfl rfl ?_
            refine WXL.nil ?_
            refine Fin.then_normal ?_
            refine WX.cond rfl (fun hc3 => nomatch hc3) (fun hc3 => ?_)
            refine WX.skip ?_
            refine Fin.then_normal ?_
            refine WX.region rfl ?_
            refine WXL.move Met.none rfl ?_
            refine WXL.fieldAddr (off' := 1) Met.none rfl Try.underlying79 rfl sz3 rfl ?_
            first | refine WXL.ld Met.none rfl agg3 ?_ | refine WXL.ldS Met.none rfl agg3 ?_
            refine WXL.buildSlice (c := [_]) Met.none rfl elem22 sz3 zero3 (by decide) (by decide) rfl rfl rfl rfl (fun b89 => ?_)
            refine WXL.ap Met.none rfl rfl isrow22 elem22 sz3 by3 zero3 (Src.lit (cs := [_])) (fun b90 => ?_) (hc := (show _ = (S2.queue ++ [(arcAt n u i).to]).map I from by simp))
            refine WXL.assign Met.none rfl ?_
            refine WXL.nil ?_
            refine Fin.block_normal ?_
            refine Fin.then_normal ?_
            refine WX.region rfl ?_
            refine WXL.bin Met.none rfl rfl bvA ?_
            refine WXL.move Met.none rfl ?_
            refine WXL.nil ?_
            first
            | (have h2 : nth S2.by_ (restR (nth n.edges i) (nth f i) u).1.toNat ≠ -2 := by
                 rw [hr1]
                 rw [hsn] at hg54
                 exact of_decide_eq_true hg54
               rw [rest_skip (try_none2 h2)] at hin
               exact Fin.loop_next (S2, j + 1, bq2, cq2) ⟨by simp only; omega, hgd2, hkq, hku, hin⟩ (by simp only; omega) (fun s hs => hs.tl [1, 2, 3, 4, 5] 6))
            | (have h1 : (restR (nth n.edges i) (nth f i) u).2 ≤ 0 := by rw [hr2]; exact hc2
               rw [rest_skip (try_none1 h1)] at hin
               exact Fin.loop_next (S2, j + 1, bq2, cq2) ⟨by simp only; omega, hgd2, hkq, hku, hin⟩ (by simp only; omega) (fun s hs => hs.tl [1, 2, 3, 4, 5] 6))
            | (have hby : nth S2.by_ (restR (nth n.edges i) (nth f i) u).1.toNat = -2 := by
                 rw [hr1]
                 rw [hsn] at hg54
                 have := of_decide_eq_false hg54
                 omega
               have hrs : 0 < (restR (nth n.edges i) (nth f i) u).2 := by rw [hr2]; omega
               have hgp := hgd2.push hn hie hrs hby
               rw [rest_visit (try_some hrs hby) (by rw [hr1]; first | exact fun q => hc3 q.2 | exact fun q => (by rw [hg79] at q; cases q.1))] at hin
               rw [hr1] at hin hgp
               rw [hku, ← hvg.1, ← hvg.2.1, ← hvg.2.2]
               exact Fin.loop_next (⟨S2.by_.set (arcAt n u i).to.toNat i, S2.queue ++ [(arcAt n u i).to]⟩, j + 1, b90, _) ⟨by simp only; omega, hgp, by simp only [List.length_append]; omega, by simp only; rw [nth_append_left hkq]; exact hku, hin⟩ (by simp only; omega) (fun s hs => hs.told ⟨eq_, eq_, eq_, eq_, eq_, eq_, eq_, (by first | exact rfl | (rw [List.length_append]; exact rfl)), eq_, eq_, eq_, eq_, trivial⟩ [2, 3, 4, 5, 6] 7 (by decide) (by decide) rfl))
    · try simp only [cnd] at hc1
      refine WX.exit ?_
      refine Fin.then_exit ?_
      refine Fin.loop_exit ?_
      refine Fin.block_hit rfl ?_
      refine Fin.block_normal ?_
      refine Fin.then_normal ?_
      refine WX.region rfl ?_
      refine WXL.move Met.none rfl ?_
      refine WXL.bin Met.none rfl rfl bvA ?_
      refine WXL.assign Met.none rfl ?_
      refine WXL.nil ?_
      have hj2 : (incL n u).length ≤ j := by rw [arcsOf_eq, List.length_map] at hc1; omega
      rw [List.drop_eq_nil_of_le hj2, rest_nil] at hin
      exact Fin.loop_next (S2, k + 1, bq2, cq2) ⟨by simp only; omega, hgd2, hin⟩ (by simp only; omega) (fun s hs => hs.tl [0, 1, 2, 3, 4] 5)
  · try simp only [cnd] at hc0
    refine WX.exit ?_
    refine Fin.then_exit ?_
    refine Fin.loop_exit ?_
    refine Fin.block_hit rfl ?_
    refine Fin.then_normal ?_
    refine WX.seq ?_
    refine WX.region rfl ?_
    refine WXL.move Met.none rfl ?_
    refine WXL.move Met.none rfl ?_
    refine WXL.move Met.none rfl ?_
    refine WXL.assign Met.none rfl ?_
    refine WXL.assign Met.none rfl ?_
    refine WXL.assign Met.none rfl ?_
    refine WXL.nil ?_
    refine Fin.then_normal ?_
    refine WX.ret ?_
    first
    | (rw [outer_end (by omega)] at hout
       exact Fin.result (.inr rfl) rfl rfl (fun _ => Sat.told [1, 2, 3] 5 (by decide) (by decide) rfl) ⟨S, b17, b20, b23, hout.symm, hbl, rfl, rfl⟩)
    | (have hby : nth S2.by_ (restR (nth n.edges i) (nth f i) u).1.toNat = -2 := by
         rw [hr1]
         rw [hsn] at hg54
         have := of_decide_eq_false hg54
         omega
       have hrs : 0 < (restR (nth n.edges i) (nth f i) u).2 := by rw [hr2]; omega
       have hgp := hgd2.push hn hie hrs hby
       rw [rest_stop (try_some hrs hby) ⟨hg79, by rw [hr1]; exact hc3⟩] at hin
       rw [hr1] at hin hgp
       rw [hku, ← hvg.1, ← hvg.2.1, ← hvg.2.2]
       exact Fin.result (.inr rfl) rfl rfl (fun _ => Sat.told [2, 3, 4] 6 (by decide) (by decide) rfl) ⟨⟨S2.by_.set (arcAt n u i).to.toNat i, S2.queue ++ [(arcAt n u i).to]⟩, b17, b20, b23, hin.symm, hgp.len, rfl, rfl⟩)

end Go.Proofs.Ytjmklialkjncaaa.Eng

set_option linter.unusedVariables false
set_option linter.unusedSimpArgs false
namespace Go.Proofs.Ytjmklialkjncaaa.Eng

/-- A way from a node back to the source: the edges and the nodes that they lead to. -/
inductive Way (n : Net4) (f : List Int) (l : List Int) : Int → List (Nat × Int) → Prop
  | root : Way n f l n.source []
  | step {v : Int} {i : Nat} {p : List (Nat × Int)} : 0 ≤ v → v < n.nodes → nth l v.toNat = i → i < n.edges.length → (restR (nth n.edges i) (nth f i) (otherR (nth n.edges i) v)).1 = v →
      0 < (restR (nth n.edges i) (nth f i) (otherR (nth n.edges i) v)).2 → (∀ q ∈ p, q.2 ≠ v) → v ≠ n.source → Way n f l (otherR (nth n.edges i) v) p → Way n f l v ((i, v) :: p)

structure Ways (n : Net4) (f : List Int) (S : BS) : Prop where
  good : Good n S
  way : ∀ q ∈ S.queue, ∃ p, Way n f S.by_ q p
  seen : ∀ v, 0 ≤ v → v < n.nodes → nth S.by_ v.toNat ≠ -2 → v ∈ S.queue
  tell : ∀ q ∈ S.queue, nth S.by_ q.toNat ≠ -2
  src : nth S.by_ n.source.toNat = -1

theorem Way.inside {n : Net4} (hn : Sound n) {f l : List Int} {v : Int} {p : List (Nat × Int)} (h : Way n f l v p) : 0 ≤ v ∧ v < n.nodes := by
  cases h with
  | root => exact hn.source
  | step h1 h2 => exact ⟨h1, h2⟩

/-- Nodes of a way have been visited. -/
theorem Way.visited {n : Net4} {f l : List Int} {v : Int} {p : List (Nat × Int)} (h : Way n f l v p) : ∀ q ∈ p, 0 ≤ q.2 ∧ q.2 < n.nodes ∧ nth l q.2.toNat ≠ -2 := by
  induction h with
  | root => intro q hq; simp at hq
  | @step v i p h1 h2 h3 _ _ _ _ _ _ ih =>
    intro q hq
    rcases List.mem_cons.1 hq with rfl | hq
    · exact ⟨h1, h2, by rw [h3]; omega⟩
    · exact ih q hq

/-- A way stays one when another node is visited. -/
theorem Way.set {n : Net4} (hn : Sound n) {f l : List Int} (hl : (l.length : Int) = n.nodes) {v : Int} {p : List (Nat × Int)} (h : Way n f l v p) {w : Int} {j : Int} (hw0 : 0 ≤ w) (hw : w < n.nodes) (hnew : nth l w.toNat = -2) : Way n f (l.set w.toNat j) v p := by
  induction h with
  | root => exact .root
  | @step v i p h1 h2 h3 h4 h5 h6 h7 h8 _ ih =>
    refine .step h1 h2 ?_ h4 h5 h6 h7 h8 ih
    rw [nth_set (by omega) (by omega), if_neg, h3]
    intro e
    rw [← e, hnew] at h3
    omega

theorem other_rest {e : E4} {x u : Int} (hab : e.a ≠ e.b) (h : 0 < (restR e x u).2) : otherR e (restR e x u).1 = u := by
  unfold restR at h ⊢
  unfold otherR
  by_cases ha : e.a = u
  · simp only [if_pos ha] at h ⊢
    rw [if_neg hab]; exact ha
  · by_cases hb : e.b = u
    · simp only [if_neg ha, if_pos hb] at h ⊢
      rw [if_pos trivial]; exact hb
    · simp only [if_neg ha, if_neg hb] at h
      omega

theorem Ways.visit {n : Net4} (hn : Sound n) {f : List Int} {u : Int} {i : Nat} (hi : i < n.edges.length) {S : BS} (hw : Ways n f S) (hu : u ∈ S.queue) (h : 0 < (restR (nth n.edges i) (nth f i) u).2) (h2 : nth S.by_ (restR (nth n.edges i) (nth f i) u).1.toNat = -2) :
    Ways n f ⟨S.by_.set (restR (nth n.edges i) (nth f i) u).1.toNat i, S.queue ++ [(restR (nth n.edges i) (nth f i) u).1]⟩ := by
  have hgd := hw.good.push hn hi h h2
  have hl := hw.good.len
  obtain ⟨t0, t1⟩ := restR_inside hn hi (nth f i) u
  have he := hn.at hi
  have hoth := other_rest he.2.2.2.2.1 h
  have hns := hn.source
  generalize hr : (restR (nth n.edges i) (nth f i) u).1 = w at h2 hgd t0 t1 hoth ⊢
  have hws : w ≠ n.source := by
    intro e
    rw [e, hw.src] at h2
    omega
  have hnth : ∀ v : Int, 0 ≤ v → v < n.nodes → nth (S.by_.set w.toNat (i : Int)) v.toNat = if w = v then (i : Int) else nth S.by_ v.toNat := by
    intro v v0 v1
    rw [nth_set (by omega) (by omega)]
    by_cases e : w = v
    · rw [if_pos e, if_pos (by rw [e])]
    · rw [if_neg e, if_neg (by omega)]
  refine ⟨hgd, fun q hq => ?_, fun v v0 v1 hv => ?_, fun q hq => ?_, ?_⟩
  · rcases List.mem_append.1 hq with hq | hq
    · obtain ⟨p, hp⟩ := hw.way q hq
      exact ⟨p, hp.set hn hl t0 t1 h2⟩
    · rw [List.mem_singleton] at hq
      subst hq
      obtain ⟨p, hp⟩ := hw.way u hu
      refine ⟨(i, q) :: p, .step t0 t1 (by rw [hnth q t0 t1, if_pos rfl]) hi (by rw [hoth]; exact hr) (by rw [hoth]; exact h) (fun x hx e => ?_) hws (by rw [hoth]; exact hp.set hn hl t0 t1 h2)⟩
      have := (hp.visited x hx).2.2
      rw [e, h2] at this
      exact this rfl
  · rw [hnth v v0 v1] at hv
    by_cases e : w = v
    · subst e; exact List.mem_append_right _ (List.mem_singleton.2 rfl)
    · rw [if_neg e] at hv
      exact List.mem_append_left _ (hw.seen v v0 v1 hv)
  · have hq' := hgd.inside q hq
    rw [hnth q hq'.1 hq'.2]
    by_cases e : w = q
    · rw [if_pos e]; omega
    · rw [if_neg e]
      rcases List.mem_append.1 hq with hq | hq
      · exact hw.tell q hq
      · exact absurd (List.mem_singleton.1 hq).symm e
  · rw [hnth n.source hns.1 hns.2, if_neg hws]
    exact hw.src

theorem Ways.start {n : Net4} (hn : Sound n) (f : List Int) : Ways n f (startBS n) := by
  have h1 := hn.nodes
  have h2 := hn.source
  have hat : ∀ v : Int, 0 ≤ v → v < n.nodes → nth (startBS n).by_ v.toNat = if n.source = v then -1 else -2 := by
    intro v v0 v1
    unfold startBS
    simp only
    rw [nth_set (by rw [List.length_replicate]; omega) (by rw [List.length_replicate]; omega), nth_get (l := List.replicate n.nodes.toNat (-2)) (by rw [List.length_replicate]; omega), List.getElem_replicate]
    by_cases e : n.source = v
    · rw [if_pos e, if_pos (by rw [e])]
    · rw [if_neg e, if_neg (by omega)]
  refine ⟨Good.start hn, fun q hq => ?_, fun v v0 v1 hv => ?_, fun q hq => ?_, ?_⟩
  · have : q = n.source := by simpa [startBS] using hq
    subst this
    exact ⟨[], .root⟩
  · rw [hat v v0 v1] at hv
    split at hv
    · rename_i e
      subst e
      simp [startBS]
    · exact absurd rfl hv
  · have : q = n.source := by simpa [startBS] using hq
    subst this
    rw [hat _ h2.1 h2.2, if_pos rfl]; omega
  · rw [hat _ h2.1 h2.2, if_pos rfl]

theorem try_cases {n : Net4} {f : List Int} {u : Int} {i : Nat} {S S' : BS} (h : tryE n f u i S = some S') :
    0 < (restR (nth n.edges i) (nth f i) u).2 ∧ nth S.by_ (restR (nth n.edges i) (nth f i) u).1.toNat = -2 ∧ S' = ⟨S.by_.set (restR (nth n.edges i) (nth f i) u).1.toNat i, S.queue ++ [(restR (nth n.edges i) (nth f i) u).1]⟩ := by
  unfold tryE at h
  split at h
  · cases h
  · rename_i hc
    have h1 : ¬ (restR (nth n.edges i) (nth f i) u).2 ≤ 0 := fun q => hc (.inl q)
    have h2 : nth S.by_ (restR (nth n.edges i) (nth f i) u).1.toNat = -2 := Classical.byContradiction fun q => hc (.inr q)
    exact ⟨by omega, h2, (Option.some.inj h).symm⟩

theorem Ways.inner {n : Net4} (hn : Sound n) {f : List Int} {stop : Bool} {u : Int} : ∀ (l : List Nat), (∀ i ∈ l, i < n.edges.length) → ∀ (S : BS), Ways n f S → u ∈ S.queue → Ways n f (innerL n f stop u l S).1 ∧ u ∈ (innerL n f stop u l S).1.queue := by
  intro l
  induction l with
  | nil => intro _ S hw hu; exact ⟨hw, hu⟩
  | cons i l ih =>
    intro hl S hw hu
    have hl' : ∀ i ∈ l, i < n.edges.length := fun j hj => hl j (by simp [hj])
    cases h : tryE n f u i S with
    | none => rw [inner_skip h]; exact ih hl' S hw hu
    | some S' =>
      obtain ⟨h1, h2, h3⟩ := try_cases h
      have hw' : Ways n f S' := by rw [h3]; exact hw.visit hn (hl i (by simp)) hu h1 h2
      have hu' : u ∈ S'.queue := by rw [h3]; exact List.mem_append_left _ hu
      by_cases hs : stop = true ∧ (restR (nth n.edges i) (nth f i) u).1 = n.sink
      · rw [inner_stop h hs]; exact ⟨hw', hu'⟩
      · rw [inner_visit h hs]; exact ih hl' S' hw' hu'

theorem Ways.outer {n : Net4} (hn : Sound n) {f : List Int} {stop : Bool} : ∀ (fuel : Nat) (S : BS) (k : Nat), Ways n f S → ∃ S', outerL n f stop fuel S k = S'.by_ ∧ Ways n f S' := by
  intro fuel
  induction fuel with
  | zero => intro S k hw; exact ⟨S, rfl, hw⟩
  | succ fuel ih =>
    intro S k hw
    unfold outerL
    split
    · rename_i hk
      obtain ⟨h1, h2⟩ := hw.inner hn (stop := stop) (List.range n.edges.length) (fun i hi => List.mem_range.1 hi) S (u := nth S.queue k) (nth_mem hk)
      split
      · exact ⟨_, rfl, h1⟩
      · exact ih _ _ h1
    · exact ⟨S, rfl, hw⟩

theorem search_ways {n : Net4} (hn : Sound n) (f : List Int) (stop : Bool) : ∃ S, searchR n f stop = S.by_ ∧ Ways n f S := Ways.outer hn _ _ _ (Ways.start hn f)

end Go.Proofs.Ytjmklialkjncaaa.Eng

set_option linter.unusedVariables false
set_option linter.unusedSimpArgs false
namespace Go.Proofs.Ytjmklialkjncaaa.Eng

/-- What is left on an edge in the direction in which it leads to a node. -/
def restOn (n : Net4) (f : List Int) (q : Nat × Int) : Int := (restR (nth n.edges q.1) (nth f q.1) (otherR (nth n.edges q.1) q.2)).2
def leastW (n : Net4) (f : List Int) (x : Int) (p : List (Nat × Int)) : Int := p.foldl (fun m q => min m (restOn n f q)) x
def changeW (n : Net4) (d : Int) (p : List (Nat × Int)) (f : List Int) : List Int := p.foldl (fun f q => changeR n f q.1 q.2 d) f

theorem Way.head {n : Net4} {f l : List Int} {v : Int} {p : List (Nat × Int)} (h : Way n f l v p) : v = n.source ∨ ∃ q ∈ p, q.2 = v := by
  cases h with
  | root => exact .inl rfl
  | step => exact .inr ⟨_, List.mem_cons_self .., rfl⟩

theorem Way.edges {n : Net4} {f l : List Int} {v : Int} {p : List (Nat × Int)} (h : Way n f l v p) : ∀ q ∈ p, q.1 < n.edges.length ∧ 0 < restOn n f q ∧ ((nth n.edges q.1).a = q.2 ∨ (nth n.edges q.1).b = q.2) ∧
    (otherR (nth n.edges q.1) q.2 = n.source ∨ ∃ q' ∈ p, q'.2 = otherR (nth n.edges q.1) q.2) := by
  induction h with
  | root => intro q hq; simp at hq
  | @step v i p h1 h2 h3 h4 h5 h6 h7 h8 hw ih =>
    intro q hq
    rcases List.mem_cons.1 hq with rfl | hq
    · refine ⟨h4, h6, ?_, ?_⟩
      · unfold restR at h5 h6
        split at h5
        · exact .inr h5
        · split at h5
          · exact .inl h5
          · rename_i e1 e2
            simp only [if_neg e1, if_neg e2] at h6
            omega
      · rcases hw.head with e | ⟨q', g1, g2⟩
        · exact .inl e
        · exact .inr ⟨q', List.mem_cons_of_mem _ g1, g2⟩
    · obtain ⟨g1, g2, g3, g4⟩ := ih q hq
      refine ⟨g1, g2, g3, ?_⟩
      rcases g4 with g4 | ⟨q', g5, g6⟩
      · exact .inl g4
      · exact .inr ⟨q', List.mem_cons_of_mem _ g5, g6⟩

theorem changeW_length (n : Net4) (d : Int) (p : List (Nat × Int)) (f : List Int) : (changeW n d p f).length = f.length := by
  unfold changeW
  induction p generalizing f with
  | nil => rfl
  | cons q p ih => rw [List.foldl_cons, ih]; unfold changeR; rw [List.length_set]

theorem endpoint {e : E4} {v w : Int} (hv : e.a = v ∨ e.b = v) (hw : e.a = w ∨ e.b = w) : v = w ∨ v = otherR e w := by
  unfold otherR
  split <;> omega

/-- No edge comes twice. -/
theorem Way.nodup {n : Net4} {f l : List Int} {v : Int} {p : List (Nat × Int)} (h : Way n f l v p) : (p.map (·.1)).Nodup := by
  induction h with
  | root => simp
  | @step v i p h1 h2 h3 h4 h5 h6 h7 h8 hw ih =>
    rw [List.map_cons, List.nodup_cons]
    refine ⟨fun hm => ?_, ih⟩
    obtain ⟨⟨i', v'⟩, hq, e⟩ := List.mem_map.1 hm
    simp only at e
    subst e
    obtain ⟨_, _, g3, g4⟩ := hw.edges _ hq
    obtain ⟨_, _, k3, _⟩ := (Way.step h1 h2 h3 h4 h5 h6 h7 h8 hw).edges _ (List.mem_cons_self ..)
    rcases endpoint k3 g3 with e | e
    · exact h7 _ hq e.symm
    · rcases g4 with g4 | ⟨q', g5, g6⟩
      · exact h8 (by simp only at e g4; rw [e, g4])
      · exact h7 q' g5 (by simp only at e g6; rw [g6, e])

theorem changeW_other {n : Net4} {d : Int} {p : List (Nat × Int)} {f : List Int} {j : Nat} (hj : j < f.length) (h : j ∉ p.map (·.1)) : nth (changeW n d p f) j = nth f j := by
  unfold changeW
  induction p generalizing f with
  | nil => rfl
  | cons q p ih =>
    rw [List.map_cons, List.mem_cons] at h
    rw [List.foldl_cons, ih (by unfold changeR; rw [List.length_set]; exact hj) (fun e => h (.inr e))]
    unfold changeR
    by_cases hq : q.1 < f.length
    · rw [nth_set hq hj, if_neg (fun e => h (.inl e.symm))]
    · rw [List.set_eq_of_length_le (by omega)]

theorem changeW_mem {n : Net4} {d : Int} {p : List (Nat × Int)} {f : List Int} {i : Nat} {w : Int} (hi : i < f.length) (hnd : (p.map (·.1)).Nodup) (hm : (i, w) ∈ p) :
    nth (changeW n d p f) i = if (nth n.edges i).b = w then nth f i + d else nth f i - d := by
  induction p generalizing f with
  | nil => simp at hm
  | cons q p ih =>
    obtain ⟨h1, h2⟩ := List.nodup_cons.1 hnd
    have hlen : (changeR n f q.1 q.2 d).length = f.length := by unfold changeR; rw [List.length_set]
    rcases List.mem_cons.1 hm with rfl | hm
    · show nth (changeW n d p (changeR n f i w d)) i = _
      rw [changeW_other (by rw [hlen]; exact hi) h1]
      unfold changeR
      rw [nth_set hi hi, if_pos rfl]
    · show nth (changeW n d p (changeR n f q.1 q.2 d)) i = _
      rw [ih (by rw [hlen]; exact hi) h2 hm]
      have hne : q.1 ≠ i := fun e => h1 (List.mem_map.2 ⟨(i, w), hm, e.symm⟩)
      have : nth (changeR n f q.1 q.2 d) i = nth f i := by
        unfold changeR
        by_cases hq : q.1 < f.length
        · rw [nth_set hq hi, if_neg hne]
        · rw [List.set_eq_of_length_le (by omega)]
      rw [this]

theorem restOn_eq {n : Net4} (hn : Sound n) {f : List Int} {i : Nat} {w : Int} (hi : i < n.edges.length) (hw : (nth n.edges i).a = w ∨ (nth n.edges i).b = w) :
    restOn n f (i, w) = if (nth n.edges i).b = w then (nth n.edges i).cap - nth f i else (nth n.edges i).back + nth f i := by
  have he := hn.at hi
  unfold restOn restR otherR
  simp only
  by_cases hb : (nth n.edges i).b = w
  · have ha : ¬ (nth n.edges i).a = w := by omega
    rw [if_pos hb, if_neg ha, if_pos rfl]
  · have ha : (nth n.edges i).a = w := by omega
    rw [if_neg hb, if_pos ha, if_neg (by omega), if_pos rfl]

theorem Flow.change {n : Net4} (hn : Sound n) {f l : List Int} (hf : Flow n f) {v d : Int} {p : List (Nat × Int)} (h : Way n f l v p) (hd : 0 ≤ d) (hle : ∀ q ∈ p, d ≤ restOn n f q) : Flow n (changeW n d p f) := by
  refine ⟨by rw [changeW_length]; exact hf.len, fun i hi => ?_⟩
  have hc := hf.cap i hi
  have hil : i < f.length := by rw [hf.len]; exact hi
  by_cases hm : i ∈ p.map (·.1)
  · obtain ⟨⟨i', w⟩, hq, e⟩ := List.mem_map.1 hm
    simp only at e
    subst e
    rw [changeW_mem hil h.nodup hq]
    have h1 := hle _ hq
    rw [restOn_eq hn hi (h.edges _ hq).2.2.1] at h1
    split at h1
    · rename_i hb; rw [if_pos hb]; omega
    · rename_i hb; rw [if_neg hb]; omega
  · rw [changeW_other hil hm]; exact hc

end Go.Proofs.Ytjmklialkjncaaa.Eng

set_option linter.unusedVariables false
set_option linter.unusedSimpArgs false
namespace Go.Proofs.Ytjmklialkjncaaa.Eng

def sumTo (g : Nat → Int) : Nat → Int
  | 0 => 0
  | m + 1 => sumTo g m + g m

/-- What an edge adds to what leaves a node. -/
def leaves (n : Net4) (v : Int) (i : Nat) (x : Int) : Int := (if (nth n.edges i).a = v then x else 0) - (if (nth n.edges i).b = v then x else 0)
def netOut (n : Net4) (f : List Int) (v : Int) : Int := sumTo (fun i => leaves n v i (nth f i)) n.edges.length

theorem sumTo_congr {g h : Nat → Int} : ∀ {m : Nat}, (∀ i, i < m → g i = h i) → sumTo g m = sumTo h m
  | 0, _ => rfl
  | m + 1, he => by
    show sumTo g m + g m = sumTo h m + h m
    rw [sumTo_congr fun i hi => he i (Nat.lt_succ_of_lt hi), he m (Nat.lt_succ_self m)]

theorem sumTo_one {g h : Nat → Int} {k : Nat} {d : Int} : ∀ {m : Nat}, k < m → (∀ i, i < m → i ≠ k → g i = h i) → g k = h k + d → sumTo g m = sumTo h m + d
  | 0, hk, _, _ => by omega
  | m + 1, hk, he, hd => by
    show sumTo g m + g m = sumTo h m + h m + d
    rcases Nat.lt_or_ge k m with q | q
    · rw [sumTo_one q (fun i hi => he i (Nat.lt_succ_of_lt hi)) hd, he m (Nat.lt_succ_self m) (by omega)]
      omega
    · have e : k = m := by omega
      subst e
      rw [sumTo_congr fun i hi => he i (Nat.lt_succ_of_lt hi) (by omega), hd]
      omega

theorem sumTo_le {g : Nat → Int} {b : Int} : ∀ {m : Nat}, (∀ i, i < m → g i ≤ b) → sumTo g m ≤ m * b
  | 0, _ => by simp [sumTo]
  | m + 1, he => by
    have h1 := sumTo_le (m := m) fun i hi => he i (Nat.lt_succ_of_lt hi)
    have h2 := he m (Nat.lt_succ_self m)
    show sumTo g m + g m ≤ _
    have : ((m + 1 : Nat) : Int) * b = m * b + b := by rw [Int.natCast_succ, Int.add_mul, Int.one_mul]
    omega

/-- One edge is changed. -/
theorem netOut_change {n : Net4} (hn : Sound n) {f : List Int} (hl : f.length = n.edges.length) {i : Nat} {w d x : Int} (hi : i < n.edges.length) (hw : (nth n.edges i).a = w ∨ (nth n.edges i).b = w) :
    netOut n (changeR n f i w d) x = netOut n f x + ((if otherR (nth n.edges i) w = x then d else 0) - (if w = x then d else 0)) := by
  have he := hn.at hi
  refine sumTo_one hi (fun j hj hne => ?_) ?_
  · unfold changeR
    rw [nth_set (by omega) (by omega), if_neg (fun e => hne e.symm)]
  · unfold changeR leaves otherR
    rw [nth_set (by omega) (by omega), if_pos rfl]
    by_cases hb : (nth n.edges i).b = w
    · have ha : ¬ (nth n.edges i).a = w := by omega
      simp only [if_pos hb, if_neg ha, hb]
      by_cases q1 : (nth n.edges i).a = x <;> by_cases q2 : w = x <;> simp only [if_pos, if_neg, q1, q2, not_false_eq_true, if_true, if_false] <;> omega
    · have ha : (nth n.edges i).a = w := by omega
      simp only [if_neg hb, if_pos ha, ha]
      by_cases q1 : (nth n.edges i).b = x <;> by_cases q2 : w = x <;> simp only [if_pos, if_neg, q1, q2, not_false_eq_true, if_true, if_false] <;> omega

/-- Along a way the source sends more, the way's node gets more, all others keep their balance. -/
theorem Way.netOut {n : Net4} (hn : Sound n) {f0 l : List Int} {v d : Int} {p : List (Nat × Int)} (h : Way n f0 l v p) (x : Int) : ∀ f : List Int, f.length = n.edges.length →
    Eng.netOut n (changeW n d p f) x = Eng.netOut n f x + ((if n.source = x then d else 0) - (if v = x then d else 0)) := by
  induction h with
  | root => intro f _; show Eng.netOut n f x = _; omega
  | @step v i p h1 h2 h3 h4 h5 h6 h7 h8 hw ih =>
    intro f hf
    have k3 := ((Way.step h1 h2 h3 h4 h5 h6 h7 h8 hw).edges _ (List.mem_cons_self ..)).2.2.1
    show Eng.netOut n (changeW n d p (changeR n f i v d)) x = _
    rw [ih (changeR n f i v d) (by unfold changeR; rw [List.length_set]; exact hf), netOut_change hn hf h4 k3]
    generalize (if otherR (nth n.edges i) v = x then d else 0) = A1
    generalize (if v = x then d else 0) = A2
    generalize (if n.source = x then d else 0) = A3
    omega

theorem netOut_bound {n : Net4} (hn : Sound n) {f : List Int} (hf : Flow n f) (v : Int) : netOut n f v ≤ n.edges.length * 1099511627776 := by
  refine sumTo_le fun i hi => ?_
  have he := hn.at hi
  have hc := hf.cap i hi
  unfold leaves
  split <;> split <;> omega

end Go.Proofs.Ytjmklialkjncaaa.Eng

set_option linter.unusedVariables false
set_option linter.unusedSimpArgs false
namespace Go.Proofs.Ytjmklialkjncaaa.Eng

/-- The least rest on a way. -/
def minW (n : Net4) (f : List Int) : List (Nat × Int) → Int
  | [] => 0
  | q :: p => leastW n f (restOn n f q) (q :: p)

inductive MaxTo (n : Net4) : List Int → Int → Int × List Int → Prop
  | done {f : List Int} {v : Int} : nth (searchR n f true) n.sink.toNat = -2 → MaxTo n f v (v, f)
  | more {f : List Int} {v : Int} {p : List (Nat × Int)} {r : Int × List Int} : Way n f (searchR n f true) n.sink p → MaxTo n (changeW n (minW n f p) p f) (v + minW n f p) r → MaxTo n f v r

theorem Way.uniq {n : Net4} {f l : List Int} {v : Int} {p : List (Nat × Int)} (h : Way n f l v p) : ∀ {p' : List (Nat × Int)}, Way n f l v p' → p = p' := by
  induction h with
  | root =>
    intro p' h'
    generalize hs : n.source = s at h'
    cases h' with
    | root => rfl
    | step _ _ _ _ _ _ _ h8 _ => exact absurd hs.symm h8
  | @step v i p h1 h2 h3 h4 h5 h6 h7 h8 hw ih =>
    intro p' h'
    cases h' with
    | root => exact absurd rfl h8
    | @step _ i' p2 g1 g2 g3 g4 g5 g6 g7 g8 gw =>
      have e : i = i' := by rw [h3] at g3; omega
      subst e
      rw [ih gw]

theorem MaxTo.uniq {n : Net4} (hn : Sound n) {f : List Int} {v : Int} {r : Int × List Int} (h : MaxTo n f v r) : ∀ {r' : Int × List Int}, MaxTo n f v r' → r = r' := by
  have no : ∀ {f : List Int} {p : List (Nat × Int)}, nth (searchR n f true) n.sink.toNat = -2 → Way n f (searchR n f true) n.sink p → False := by
    intro f p h1 h2
    generalize hs : n.sink = s at h1 h2
    cases h2 with
    | root => exact hn.ne hs.symm
    | step _ _ h3 _ _ _ _ _ _ => rw [h3] at h1; omega
  induction h with
  | done h1 =>
    intro r' h'
    cases h' with
    | done _ => rfl
    | more g1 _ => exact (no h1 g1).elim
  | more h1 _ ih =>
    intro r' h'
    cases h' with
    | done g1 => exact (no g1 h1).elim
    | more g1 g2 =>
      have e := h1.uniq g1
      subst e
      exact ih g2

theorem leastW_le {n : Net4} {f : List Int} : ∀ (p : List (Nat × Int)) (x : Int), leastW n f x p ≤ x ∧ ∀ q ∈ p, leastW n f x p ≤ restOn n f q
  | [], x => ⟨Int.le_refl _, fun q hq => by simp at hq⟩
  | q :: p, x => by
    obtain ⟨h1, h2⟩ := leastW_le (n := n) (f := f) p (min x (restOn n f q))
    have e : leastW n f x (q :: p) = leastW n f (min x (restOn n f q)) p := rfl
    rw [e]
    refine ⟨by omega, fun q' hq => ?_⟩
    rcases List.mem_cons.1 hq with rfl | hq
    · omega
    · exact h2 q' hq

theorem leastW_pos {n : Net4} {f : List Int} : ∀ (p : List (Nat × Int)) (x : Int), 0 < x → (∀ q ∈ p, 0 < restOn n f q) → 0 < leastW n f x p
  | [], x, hx, _ => hx
  | q :: p, x, hx, h => leastW_pos p (min x (restOn n f q)) (by have := h q (List.mem_cons_self ..); omega) fun q' hq => h q' (List.mem_cons_of_mem _ hq)

theorem Way.min {n : Net4} (hn : Sound n) {f l : List Int} {p : List (Nat × Int)} (h : Way n f l n.sink p) : 0 < minW n f p ∧ ∀ q ∈ p, minW n f p ≤ restOn n f q := by
  have he := h.edges
  cases p with
  | nil =>
    exfalso
    generalize hs : n.sink = s at h
    cases h with
    | root => exact hn.ne hs.symm
  | cons q p =>
    exact ⟨leastW_pos _ _ (he q (List.mem_cons_self ..)).2.1 fun q' hq => (he q' hq).2.1, (leastW_le (q :: p) _).2⟩

end Go.Proofs.Ytjmklialkjncaaa.Eng

set_option linter.unusedVariables false
set_option linter.unusedSimpArgs false
namespace Go.Proofs.Ytjmklialkjncaaa.Eng

structure MaxIn (n : Net4) (f : List Int) (v : Int) : Prop where
  flow : Flow n f
  val : v = netOut n f n.source
  pos : 0 ≤ v
  goal : ∀ r, MaxTo n f v r → MaxTo n (List.replicate n.edges.length 0) 0 r

theorem nth_replicate {α : Type} [Inhabited α] {m i : Nat} {a : α} (h : i < m) : nth (List.replicate m a) i = a := by
  rw [nth_get (by simpa using h)]; simp

theorem sumTo_zero {g : Nat → Int} : ∀ {m : Nat}, (∀ i, i < m → g i = 0) → sumTo g m = 0
  | 0, _ => rfl
  | m + 1, h => by
    show sumTo g m + g m = 0
    rw [sumTo_zero fun i hi => h i (Nat.lt_succ_of_lt hi), h m (Nat.lt_succ_self m)]; rfl

theorem MaxIn.start {n : Net4} (hn : Sound n) : MaxIn n (List.replicate n.edges.length 0) 0 := by
  refine ⟨⟨by simp, fun i hi => ?_⟩, ?_, Int.le_refl _, fun r h => h⟩
  · have := hn.at hi
    rw [nth_replicate hi]
    omega
  · unfold netOut
    rw [sumTo_zero]
    intro i hi
    unfold leaves
    rw [nth_replicate hi]
    split <;> split <;> rfl

theorem MaxIn.step {n : Net4} (hn : Sound n) {f : List Int} {v : Int} {p : List (Nat × Int)} (h : MaxIn n f v) (hw : Way n f (searchR n f true) n.sink p) : MaxIn n (changeW n (minW n f p) p f) (v + minW n f p) := by
  obtain ⟨m1, m2⟩ := hw.min hn
  refine ⟨h.flow.change hn hw (by omega) m2, ?_, by have := h.pos; omega, fun r hr => h.goal r (.more hw hr)⟩
  rw [hw.netOut hn n.source f h.flow.len, if_pos rfl, if_neg (fun e => hn.ne e.symm), h.val]
  omega

theorem MaxIn.bound {n : Net4} (hn : Sound n) {f : List Int} {v : Int} (h : MaxIn n f v) : v ≤ 9007199254740992 := by
  have h1 := netOut_bound hn h.flow n.source
  have := hn.len
  rw [h.val]
  omega

theorem search_way {n : Net4} (hn : Sound n) {f : List Int} (h : nth (searchR n f true) n.sink.toNat ≠ -2) : ∃ p, Way n f (searchR n f true) n.sink p := by
  obtain ⟨S, e, hS⟩ := search_ways hn f true
  rw [e] at h ⊢
  exact hS.way _ (hS.seen _ hn.sink.1 hn.sink.2 h)

theorem search_len {n : Net4} (hn : Sound n) (f : List Int) (stop : Bool) : (searchR n f stop).length = n.nodes.toNat := by
  obtain ⟨S, e, hS⟩ := search_ways hn f stop
  have := hS.good.len
  rw [e]
  omega

theorem Way.uncons {n : Net4} {f l : List Int} {v : Int} {p : List (Nat × Int)} (h : Way n f l v p) (hv : v ≠ n.source) :
    ∃ (i : Nat) (p' : List (Nat × Int)), p = (i, v) :: p' ∧ nth l v.toNat = i ∧ i < n.edges.length ∧ Way n f l (otherR (nth n.edges i) v) p' := by
  cases h with
  | root => exact absurd rfl hv
  | step h1 h2 h3 h4 h5 h6 h7 h8 hw => exact ⟨_, _, rfl, h3, h4, hw⟩

theorem Way.nil_of {n : Net4} {f l : List Int} {v : Int} {p : List (Nat × Int)} (h : Way n f l v p) (hv : v = n.source) : p = [] := by
  cases h with
  | root => rfl
  | step h1 h2 h3 h4 h5 h6 h7 h8 hw => exact absurd hv h8

/-- The reference's least so far, and the rest of the way. -/
def lrW (n : Net4) (f : List Int) (x : Int) (p : List (Nat × Int)) : Int := if x < 0 then minW n f p else leastW n f x p

theorem leastW_cons {n : Net4} {f : List Int} {x : Int} {q : Nat × Int} {p : List (Nat × Int)} : leastW n f x (q :: p) = leastW n f (min x (restOn n f q)) p := rfl

theorem lr_step1 {n : Net4} {f : List Int} {x : Int} {q : Nat × Int} {p : List (Nat × Int)} (hr : 0 < restOn n f q) (h : x < 0 ∨ restOn n f q < x) : lrW n f x (q :: p) = lrW n f (restOn n f q) p := by
  unfold lrW
  rw [if_neg (show ¬ restOn n f q < 0 by omega)]
  by_cases hx : x < 0
  · rw [if_pos hx]
    show leastW n f (restOn n f q) (q :: p) = _
    rw [leastW_cons, Int.min_self]
  · rw [if_neg hx, leastW_cons, show min x (restOn n f q) = restOn n f q by omega]

theorem lr_step2 {n : Net4} {f : List Int} {x : Int} {q : Nat × Int} {p : List (Nat × Int)} (h1 : ¬ x < 0) (h2 : ¬ restOn n f q < x) : lrW n f x (q :: p) = lrW n f x p := by
  unfold lrW
  rw [if_neg h1, if_neg h1, leastW_cons, show min x (restOn n f q) = x by omega]

theorem lr_end {n : Net4} {f : List Int} {x d : Int} (h : lrW n f x [] = d) (hd : 0 < d) : x = d := by
  unfold lrW at h
  split at h
  · have : minW n f [] = 0 := rfl
    omega
  · exact h

theorem changeR_length (n : Net4) (f : List Int) (i : Nat) (to d : Int) : (changeR n f i to d).length = f.length := by unfold changeR; rw [List.length_set]

/-- How far the changes along a way have come. -/
structure Chg (n : Net4) (f : List Int) (d : Int) (p0 : List (Nat × Int)) (v : Int) (p : List (Nat × Int)) (f' : List Int) : Prop where
  way : Way n f (searchR n f true) v p
  len : f'.length = f.length
  goal : changeW n d p f' = changeW n d p0 f
  same : ∀ q ∈ p, nth f' q.1 = nth f q.1
  le : ∀ q ∈ p, d ≤ restOn n f q

theorem Chg.start {n : Net4} {f : List Int} {p : List (Nat × Int)} (hn : Sound n) (h : Way n f (searchR n f true) n.sink p) : Chg n f (minW n f p) p n.sink p f :=
  ⟨h, rfl, rfl, fun _ _ => rfl, (h.min hn).2⟩

theorem Chg.next {n : Net4} {f f' : List Int} {d v : Int} {p0 p : List (Nat × Int)} {i : Nat} (hf : f.length = n.edges.length) (h : Chg n f d p0 v ((i, v) :: p) f') (hw : Way n f (searchR n f true) (otherR (nth n.edges i) v) p) :
    Chg n f d p0 (otherR (nth n.edges i) v) p (changeR n f' i v d) := by
  have hnd := h.way.nodup
  rw [List.map_cons, List.nodup_cons] at hnd
  refine ⟨hw, by rw [changeR_length, h.len], h.goal, fun q hq => ?_, fun q hq => h.le q (List.mem_cons_of_mem _ hq)⟩
  rw [← h.same q (List.mem_cons_of_mem _ hq)]
  have hq1 := (hw.edges q hq).1
  have hi := (h.way.edges _ (List.mem_cons_self ..)).1
  unfold changeR
  rw [nth_set (by have := h.len; simp only at hi; omega) (by have := h.len; omega), if_neg]
  intro e
  exact hnd.1 (List.mem_map.2 ⟨q, hq, e.symm⟩)

theorem Chg.in64 {n : Net4} (hn : Sound n) {f f' : List Int} (hf : Flow n f) {d v : Int} {p0 p : List (Nat × Int)} {i : Nat} (hd : 0 < d) (h : Chg n f d p0 v ((i, v) :: p) f') :
    ((nth n.edges i).b = v → In64 (nth f' i + d)) ∧ ((nth n.edges i).b ≠ v → In64 (nth f' i - d)) ∧ d ≤ 4398046511104 := by
  obtain ⟨e1, e2, e3, _⟩ := h.way.edges _ (List.mem_cons_self ..)
  have e4 := h.same _ (List.mem_cons_self ..)
  have e5 := h.le _ (List.mem_cons_self ..)
  have hc := hf.cap i e1
  have he := hn.at (i := i) e1
  rw [restOn_eq hn e1 e3] at e5
  simp only at e4 e5
  rw [e4]
  unfold In64
  split at e5
  · rename_i hb
    exact ⟨fun _ => by omega, fun q => absurd hb q, by omega⟩
  · rename_i hb
    exact ⟨fun q => absurd q hb, fun _ => by omega, by omega⟩

theorem Chg.last {n : Net4} {f f' : List Int} {d v : Int} {p0 : List (Nat × Int)} (h : Chg n f d p0 v [] f') : f' = changeW n d p0 f := h.goal

theorem minW_le {n : Net4} (hn : Sound n) {f : List Int} (hf : Flow n f) {p : List (Nat × Int)} (h : Way n f (searchR n f true) n.sink p) : 0 < minW n f p ∧ minW n f p ≤ 4398046511104 := by
  obtain ⟨m1, m2⟩ := h.min hn
  refine ⟨m1, ?_⟩
  obtain ⟨i, p', rfl, _⟩ := h.uncons (fun e => hn.ne e.symm)
  exact (Chg.in64 hn hf m1 (Chg.start hn h)).2.2

theorem Sat.back {h : AHeap} {G A R : Objs} (hs : Sat h (A ++ (G ++ R))) : Sat h (G ++ (A ++ R)) := Sat.swap (G := A) (A := G) hs

def zeros (n : Net4) : List Int := List.replicate n.edges.length 0

theorem refMax_ok (O : Objs) (n : Net4) (a : Option Addr) (c : Nat) (hn : Sound n) (hl : Edges O n a c) :
    Spec Try.prog false 17 #[netV n a c] O fun v O' => ∃ r a' c' G, MaxTo n (zeros n) 0 r ∧ MaxIn n r.2 r.1 ∧ v = .tuple #[I r.1, .slice a' r.2.length c'] ∧ Grow 1 a' r.2.length c' (r.2.map I) G ∧ O' = G ++ O := by
  have hnn := hn.nodes
  have hns := hn.source
  have hnk := hn.sink
  have hlen := hn.len
  refine Spec.enter (args := [_]) (m := 118) Try.func17 rfl rfl (by decide +kernel) fun h0 => ?_
  refine WX.seq ?_
  refine WX.region rfl ?_
  refine WXL.box (c := [_, _, _, _]) Met.none rfl rfl rfl (fun b1 => ?_)
  refine WXL.assign Met.none rfl ?_
  refine WXL.assign Met.none rfl ?_
  refine WXL.nil ?_
  refine Fin.then_normal ?_
  refine WX.seq ?_
  refine WX.region rfl ?_
  refine WXL.assign Met.none rfl ?_
  refine WXL.nil ?_
  refine Fin.then_normal ?_
  refine WX.seq ?_
  refine WX.seq ?_
  refine WX.region rfl ?_
  refine WXL.assign Met.none rfl ?_
  refine WXL.nil ?_
  refine Fin.then_normal ?_
  refine WX.block ?_
  refine WX.loop (fun q : Nat × Option Addr × Nat × Objs => [(1, Ptr b1 0), (4, .slice q.2.1 q.1 q.2.2.1), (5, I (q.1 : Int))]) (fun q => (b1, ⟨0, false, [I n.nodes, I n.source, I n.sink, .slice a n.edges.length c]⟩) :: (q.2.2.2 ++ O)) (fun q => q.1 ≤ n.edges.length ∧ Grow 1 q.2.1 q.1 q.2.2.1 ((List.replicate q.1 0).map I) q.2.2.2) (fun q => n.edges.length - q.1) (0, none, 0, []) ⟨by omega, .nil⟩ (fun s hs => hs.tl [0] 1) (fun q hq => ?_)
  obtain ⟨k, ga, gc, G⟩ := q
  obtain ⟨hk1, hG⟩ := hq
  simp only at hk1 hG
  dsimp only
  refine WX.seq ?_
  refine WX.seq ?_
  refine WX.region rfl ?_
  refine WXL.move Met.none rfl ?_
  refine WXL.fieldAddr (off' := 3) Met.none rfl Try.underlying25 rfl sz23 rfl ?_
  first | refine WXL.ld Met.none rfl agg23 ?_ | refine WXL.ldS Met.none rfl agg23 ?_
  refine WXL.len Met.none rfl Try.underlying23 ?_
  refine WXL.bin Met.none rfl rfl rfl ?_
  refine WXL.nil ?_
  refine Fin.then_normal ?_
  refine WX.cond rfl (fun hc0 => ?_) (fun hc0 => ?_)
  · try simp only [cnd] at hc0
    refine WX.skip ?_
    refine Fin.then_normal ?_
    refine WX.seq ?_
    refine WX.block ?_
    refine WX.region rfl ?_
    refine WXL.move Met.none rfl ?_
    refine WXL.buildSlice (c := [_]) Met.none rfl elem22 sz3 zero3 (by decide) (by decide) rfl rfl rfl rfl (fun b21 => ?_)
    refine WXL.apG [_, _] Met.none rfl rfl isrow22 elem22 sz3 by3 zero3 (Src.lit (cs := [_])) (fun a22 c22 G22 hG22 => ?_)
    refine WXL.assign Met.none rfl ?_
    refine WXL.nil ?_
    refine Fin.block_normal ?_
    refine Fin.then_normal ?_
    refine WX.region rfl ?_
    refine WXL.move Met.none rfl ?_
    refine WXL.bin Met.none rfl rfl bvA ?_
    refine WXL.assign Met.none rfl ?_
    refine WXL.nil ?_
    refine Fin.loop_next (k + 1, a22, c22, G22) ⟨by simp only; omega, ?_⟩ (by simp only; omega) (fun s hs => hs.tl [1] 2)
    rw [replicate_succ_map]
    exact hG22
  · try simp only [cnd] at hc0
    refine WX.exit ?_
    refine Fin.then_exit ?_
    refine Fin.loop_exit ?_
    refine Fin.block_hit rfl ?_
    refine Fin.then_normal ?_
    refine WX.seq ?_
    have hk : k = n.edges.length := by omega
    subst hk
    have hst := MaxIn.start hn
    generalize hz : List.replicate n.edges.length (0 : Int) = z at hG hst
    have hzl : z.length = n.edges.length := by rw [← hz]; simp
    rw [← hzl] at hG
    refine WX.of (L' := [(1, Ptr b1 0), (4, .slice ga z.length gc)]) (fun s hs => hs.told ⟨eq_, (by rw [hzl]; exact rfl), trivial⟩ [0] 1 (by decide) (by decide) rfl) ?_
    refine WX.region rfl ?_
    refine WXL.assign Met.none rfl ?_
    refine WXL.nil ?_
    refine Fin.then_normal ?_
    refine WX.seq ?_
    refine WX.region rfl ?_
    refine WXL.ldN (vs := [_, _, _, _]) Met.none rfl agg25 sz25 ?_
    refine WXL.move Met.none rfl ?_
    refine WXL.cl (O1 := _) Met.none rfl (fnOk_of Try.func40 (by decide +kernel)) rfl (fun _ h => h) (refSearch_ok _ n z true a ga c gc hn hst.flow src_ src_) (fun v O' hp => ?_)
    obtain ⟨b25, c25, rfl, hsl0, rfl⟩ := hp
    refine WXL.assign Met.none rfl ?_
    refine WXL.nil ?_
    refine Fin.then_normal ?_
    refine WX.seq ?_
    refine WX.block ?_
    refine WX.loop (fun q : List Int × Int × Option Addr × Nat × Objs × Nat × Nat => [(1, Ptr b1 0), (4, .slice q.2.2.1 q.1.length q.2.2.2.1), (6, I q.2.1), (7, Row q.2.2.2.2.2.1 0 n.nodes.toNat q.2.2.2.2.2.2)]) (fun q => (q.2.2.2.2.2.1, ⟨1, false, (searchR n q.1 true).map I⟩) :: (b1, ⟨0, false, [I n.nodes, I n.source, I n.sink, .slice a n.edges.length c]⟩) :: (q.2.2.2.2.1 ++ O)) (fun q => MaxIn n q.1 q.2.1 ∧ Grow 1 q.2.2.1 q.1.length q.2.2.2.1 (q.1.map I) q.2.2.2.2.1) (fun q => (9007199254740993 - q.2.1).toNat) (z, 0, ga, gc, G, b25, c25) ⟨hst, hG⟩ (fun s hs => hs.tl [0, 1] 2) (fun q hq => ?_)
    obtain ⟨f, v, fa, fc, F, bq, cq⟩ := q
    obtain ⟨hin, hF⟩ := hq
    simp only at hin hF
    dsimp only
    have hsl := search_len hn f true
    have hfl := hin.flow
    have hfe := hfl.len
    have hv0 := hin.pos
    have hvb := hin.bound hn
    refine WX.seq ?_
    refine WX.seq ?_
    refine WX.region rfl ?_
    refine WXL.move Met.none rfl ?_
    refine WXL.fieldAddr (off' := 2) Met.none rfl Try.underlying25 rfl sz3 rfl ?_
    first | refine WXL.ld Met.none rfl agg3 ?_ | refine WXL.ldS Met.none rfl agg3 ?_
    first | refine WXL.ix Met.none rfl rfl elem22 sz3 ?_ | refine WXL.ixS Met.none rfl rfl elem22 sz3 ?_
    first | refine WXL.ld Met.none rfl agg3 ?_ | refine WXL.ldS Met.none rfl agg3 ?_
    refine WXL.bin Met.none rfl rfl rfl ?_
    refine WXL.nil ?_
    refine Fin.then_normal ?_
    refine WX.cond rfl (fun hc1 => ?_) (fun hc1 => ?_)
    · try simp only [cnd] at hc1
      refine WX.skip ?_
      refine Fin.then_normal ?_
      refine WX.block ?_
      refine WX.seq ?_
      obtain ⟨p0, hW0⟩ := search_way hn hc1
      have hm := minW_le hn hfl hW0
      have hstep := hin.step hn hW0
      refine WX.region rfl ?_
      refine WXL.assign Met.none rfl ?_
      refine WXL.nil ?_
      refine Fin.then_normal ?_
      refine WX.seq ?_
      refine WX.seq ?_
      refine WX.region rfl ?_
      refine WXL.fieldAddr (off' := 2) Met.none rfl Try.underlying25 rfl sz3 rfl ?_
      first | refine WXL.ld Met.none rfl agg3 ?_ | refine WXL.ldS Met.none rfl agg3 ?_
      refine WXL.assign Met.none rfl ?_
      refine WXL.nil ?_
      refine Fin.then_normal ?_
      refine WX.block ?_
      refine WX.loop (fun q : List (Nat × Int) × Int × Int => [(1, Ptr b1 0), (4, .slice fa f.length fc), (6, I v), (7, Row bq 0 n.nodes.toNat cq), (8, I q.2.1), (9, I q.2.2)]) (fun q => (bq, ⟨1, false, (searchR n f true).map I⟩) :: (b1, ⟨0, false, [I n.nodes, I n.source, I n.sink, .slice a n.edges.length c]⟩) :: (F ++ O)) (fun q => Way n f (searchR n f true) q.2.2 q.1 ∧ lrW n f q.2.1 q.1 = minW n f p0) (fun q => q.1.length) (p0, -1, n.sink) ⟨hW0, rfl⟩ (fun s hs => hs.tl [0, 1] 2) (fun q hq => ?_)
      obtain ⟨p, x, w⟩ := q
      obtain ⟨hW, hlr⟩ := hq
      simp only at hW hlr
      dsimp only
      have hwi := hW.inside hn
      have hwl : w.toNat < (searchR n f true).length := by omega
      refine WX.seq ?_
      refine WX.seq ?_
      refine WX.region rfl ?_
      refine WXL.move Met.none rfl ?_
      refine WXL.fieldAddr (off' := 1) Met.none rfl Try.underlying25 rfl sz3 rfl ?_
      first | refine WXL.ld Met.none rfl agg3 ?_ | refine WXL.ldS Met.none rfl agg3 ?_
      refine WXL.bin Met.none rfl rfl rfl ?_
      refine WXL.nil ?_
      refine Fin.then_normal ?_
      refine WX.cond rfl (fun hc2 => ?_) (fun hc2 => ?_)
      · try simp only [cnd] at hc2
        refine WX.skip ?_
        refine Fin.then_normal ?_
        refine WX.seq ?_
        refine WX.block ?_
        refine WX.seq ?_
        obtain ⟨i, p', rfl, hi, hie, hW'⟩ := hW.uncons hc2
        have hin64 := hfl.in64 hn hie
        have hed := hW.edges _ (List.mem_cons_self ..)
        have hif : i < f.length := by rw [hfe]; exact hie
        refine WX.draw rfl ?_
        refine WXL.fieldAddr (off' := 3) Met.none rfl Try.underlying25 rfl sz23 rfl ?_
        first | refine WXL.ld Met.none rfl agg23 ?_ | refine WXL.ldS Met.none rfl agg23 ?_
        refine WXL.move Met.none rfl ?_
        refine WXL.move Met.none rfl ?_
        first | refine WXL.ix Met.none rfl rfl elem22 sz3 ?_ | refine WXL.ixS Met.none rfl rfl elem22 sz3 ?_
        first | refine WXL.ld Met.none rfl agg3 ?_ | refine WXL.ldS Met.none rfl agg3 ?_
        rw [hi]
        first | refine WXL.ix Met.none rfl rfl elem23 sz63 ?_ | refine WXL.ixS Met.none rfl rfl elem23 sz63 ?_
        first | refine WXL.ldN Met.none rfl agg63 sz63 ?_ | refine WXL.ldNS Met.none rfl agg63 sz63 ?_
        refine WXL.move Met.none rfl ?_
        refine WXL.move Met.none rfl ?_
        refine WXL.move Met.none rfl ?_
        first | refine WXL.ix Met.none rfl rfl elem22 sz3 ?_ | refine WXL.ixS Met.none rfl rfl elem22 sz3 ?_
        first | refine WXL.ld Met.none rfl agg3 ?_ | refine WXL.ldS Met.none rfl agg3 ?_
        rw [hi]
        first | refine WXL.ix Met.none rfl rfl elem22 sz3 ?_ | refine WXL.ixS Met.none rfl rfl elem22 sz3 ?_
        first | refine WXL.ld Met.none rfl agg3 ?_ | refine WXL.ldS Met.none rfl agg3 ?_
        refine WXL.fieldAddr (off' := 3) Met.none rfl Try.underlying25 rfl sz23 rfl ?_
        first | refine WXL.ld Met.none rfl agg23 ?_ | refine WXL.ldS Met.none rfl agg23 ?_
        refine WXL.move Met.none rfl ?_
        refine WXL.move Met.none rfl ?_
        first | refine WXL.ix Met.none rfl rfl elem22 sz3 ?_ | refine WXL.ixS Met.none rfl rfl elem22 sz3 ?_
        first | refine WXL.ld Met.none rfl agg3 ?_ | refine WXL.ldS Met.none rfl agg3 ?_
        rw [hi]
        first | refine WXL.ix Met.none rfl rfl elem23 sz63 ?_ | refine WXL.ixS Met.none rfl rfl elem23 sz63 ?_
        first | refine WXL.ldN Met.none rfl agg63 sz63 ?_ | refine WXL.ldNS Met.none rfl agg63 sz63 ?_
        refine WXL.move Met.none rfl ?_
        refine WXL.cl (O1 := _) Met.none rfl (fnOk_of Try.func41 (by decide +kernel)) rfl (fun _ h => h) (other_ok _ (nth n.edges i) w) (fun v O' hp => ?_)
        obtain ⟨rfl, hO⟩ := hp
        subst O'
        refine WXL.cl (O1 := _) Met.none rfl (fnOk_of Try.func42 (by decide +kernel)) rfl (fun _ h => h) (refRest_ok _ (nth n.edges i) (nth f i) (otherR (nth n.edges i) w) hin64.1 hin64.2) (fun v O' hp => ?_)
        obtain ⟨rfl, hO⟩ := hp
        subst O'
        refine WXL.move Met.none rfl ?_
        refine WXL.extract Met.none rfl rfl ?_
        refine WXL.extract Met.none rfl rfl ?_
        refine WXL.assign Met.none rfl ?_
        refine WXL.assign Met.none rfl ?_
        refine WXL.nil ?_
        refine Fin.then_normal ?_
        refine WX.seq ?_
        refine WX.region rfl ?_
        refine WXL.move Met.none rfl ?_
        refine WXL.bin Met.none rfl rfl rfl ?_
        refine WXL.move Met.none rfl ?_
        refine WXL.split (d := 79) rfl (fun hg79 => ?_) (fun hg79 => ?_)
        · try simp only [cnd] at hg79
          refine WXL.miss (j := 2) (d := 79) rfl rfl rfl ?_
          refine WXL.miss (j := 2) (d := 79) rfl rfl rfl ?_
          refine WXL.miss (j := 2) (d := 79) rfl rfl rfl ?_
          refine WXL.pick_t Met.none rfl rfl ?_
          refine WXL.nil ?_
          refine Fin.then_normal ?_
          refine WX.cond rfl (fun hc3 => ?_) (fun hc3 => nomatch hc3)
          refine WX.region rfl ?_
          refine WXL.move Met.none rfl ?_
          refine WXL.assign Met.none rfl ?_
          refine WXL.nil ?_
          refine Fin.block_normal ?_
          refine Fin.then_normal ?_
          refine WX.draw rfl ?_
          refine WXL.fieldAddr (off' := 3) Met.none rfl Try.underlying25 rfl sz23 rfl ?_
          first | refine WXL.ld Met.none rfl agg23 ?_ | refine WXL.ldS Met.none rfl agg23 ?_
          refine WXL.move Met.none rfl ?_
          refine WXL.move Met.none rfl ?_
          first | refine WXL.ix Met.none rfl rfl elem22 sz3 ?_ | refine WXL.ixS Met.none rfl rfl elem22 sz3 ?_
          first | refine WXL.ld Met.none rfl agg3 ?_ | refine WXL.ldS Met.none rfl agg3 ?_
          rw [hi]
          first | refine WXL.ix Met.none rfl rfl elem23 sz63 ?_ | refine WXL.ixS Met.none rfl rfl elem23 sz63 ?_
          first | refine WXL.ldN Met.none rfl agg63 sz63 ?_ | refine WXL.ldNS Met.none rfl agg63 sz63 ?_
          refine WXL.move Met.none rfl ?_
          refine WXL.cl (O1 := _) Met.none rfl (fnOk_of Try.func41 (by decide +kernel)) rfl (fun _ h => h) (other_ok _ (nth n.edges i) w) (fun v O' hp => ?_)
          obtain ⟨rfl, hO⟩ := hp
          subst O'
          refine WXL.assign Met.none rfl ?_
          refine WXL.nil ?_
          first
          | exact Fin.loop_next (p', restOn n f (i, w), otherR (nth n.edges i) w) ⟨hW', (lr_step1 (q := (i, w)) hed.2.1 (.inl hg79)).symm.trans hlr⟩ (by simp) (fun s hs => hs.tl [0, 1] 2)
          | exact Fin.loop_next (p', restOn n f (i, w), otherR (nth n.edges i) w) ⟨hW', (lr_step1 (q := (i, w)) hed.2.1 (.inr hc3)).symm.trans hlr⟩ (by simp) (fun s hs => hs.tl [0, 1] 2)
          | exact Fin.loop_next (p', x, otherR (nth n.edges i) w) ⟨hW', (lr_step2 (n := n) (f := f) (q := (i, w)) (Int.not_lt.2 hg79) (Int.not_lt.2 hc3)).symm.trans hlr⟩ (by simp) (fun s hs => hs.tl [0, 1] 2)
        · try simp only [cnd] at hg79
          refine WXL.move (Met.some rfl rfl rfl) rfl ?_
          refine WXL.move (Met.some rfl rfl rfl) rfl ?_
          refine WXL.bin (Met.some rfl rfl rfl) rfl rfl rfl ?_
          refine WXL.pick_f Met.none rfl rfl ?_
          refine WXL.nil ?_
          refine Fin.then_normal ?_
          refine WX.cond rfl (fun hc3 => ?_) (fun hc3 => ?_)
          · try simp only [cnd] at hc3
            refine WX.region rfl ?_
            refine WXL.move Met.none rfl ?_
            refine WXL.assign Met.none rfl ?_
            refine WXL.nil ?_
            refine Fin.block_normal ?_
            refine Fin.then_normal ?_
            refine WX.draw rfl ?_
            refine WXL.fieldAddr (off' := 3) Met.none rfl Try.underlying25 rfl sz23 rfl ?_
            first | refine WXL.ld Met.none rfl agg23 ?_ | refine WXL.ldS Met.none rfl agg23 ?_
            refine WXL.move Met.none rfl ?_
            refine WXL.move Met.none rfl ?_
            first | refine WXL.ix Met.none rfl rfl elem22 sz3 ?_ | refine WXL.ixS Met.none rfl rfl elem22 sz3 ?_
            first | refine WXL.ld Met.none rfl agg3 ?_ | refine WXL.ldS Met.none rfl agg3 ?_
            rw [hi]
            first | refine WXL.ix Met.none rfl rfl elem23 sz63 ?_ | refine WXL.ixS Met.none rfl rfl elem23 sz63 ?_
            first | refine WXL.ldN Met.none rfl agg63 sz63 ?_ | refine WXL.ldNS Met.none rfl agg63 sz63 ?_
            refine WXL.move Met.none rfl ?_
            refine WXL.cl (O1 := _) Met.none rfl (fnOk_of Try.func41 (by decide +kernel)) rfl (fun _ h => h) (other_ok _ (nth n.edges i) w) (fun v O' hp => ?_)
            obtain ⟨rfl, hO⟩ := hp
            subst O'
            refine WXL.assign Met.none rfl ?_
            refine WXL.nil ?_
            first
            | exact Fin.loop_next (p', restOn n f (i, w), otherR (nth n.edges i) w) ⟨hW', (lr_step1 (q := (i, w)) hed.2.1 (.inl hg79)).symm.trans hlr⟩ (by simp) (fun s hs => hs.tl [0, 1] 2)
            | exact Fin.loop_next (p', restOn n f (i, w), otherR (nth n.edges i) w) ⟨hW', (lr_step1 (q := (i, w)) hed.2.1 (.inr hc3)).symm.trans hlr⟩ (by simp) (fun s hs => hs.tl [0, 1] 2)
            | exact Fin.loop_next (p', x, otherR (nth n.edges i) w) ⟨hW', (lr_step2 (n := n) (f := f) (q := (i, w)) (Int.not_lt.2 hg79) (Int.not_lt.2 hc3)).symm.trans hlr⟩ (by simp) (fun s hs => hs.tl [0, 1] 2)
          · try simp only [cnd] at hc3
            refine WX.skip ?_
            refine Fin.block_normal ?_
            refine Fin.then_normal ?_
            refine WX.draw rfl ?_
            refine WXL.fieldAddr (off' := 3) Met.none rfl Try.underlying25 rfl sz23 rfl ?_
            first | refine WXL.ld Met.none rfl agg23 ?_ | refine WXL.ldS Met.none rfl agg23 ?_
            refine WXL.move Met.none rfl ?_
            refine WXL.move Met.none rfl ?_
            first | refine WXL.ix Met.none rfl rfl elem22 sz3 ?_ | refine WXL.ixS Met.none rfl rfl elem22 sz3 ?_
            first | refine WXL.ld Met.none rfl agg3 ?_ | refine WXL.ldS Met.none rfl agg3 ?_
            rw [hi]
            first | refine WXL.ix Met.none rfl rfl elem23 sz63 ?_ | refine WXL.ixS Met.none rfl rfl elem23 sz63 ?_
            first | refine WXL.ldN Met.none rfl agg63 sz63 ?_ | refine WXL.ldNS Met.none rfl agg63 sz63 ?_
            refine WXL.move Met.none rfl ?_
            refine WXL.cl (O1 := _) Met.none rfl (fnOk_of Try.func41 (by decide +kernel)) rfl (fun _ h => h) (other_ok _ (nth n.edges i) w) (fun v O' hp => ?_)
            obtain ⟨rfl, hO⟩ := hp
            subst O'
            refine WXL.assign Met.none rfl ?_
            refine WXL.nil ?_
            first
            | exact Fin.loop_next (p', restOn n f (i, w), otherR (nth n.edges i) w) ⟨hW', (lr_step1 (q := (i, w)) hed.2.1 (.inl hg79)).symm.trans hlr⟩ (by simp) (fun s hs => hs.tl [0, 1] 2)
            | exact Fin.loop_next (p', restOn n f (i, w), otherR (nth n.edges i) w) ⟨hW', (lr_step1 (q := (i, w)) hed.2.1 (.inr hc3)).symm.trans hlr⟩ (by simp) (fun s hs => hs.tl [0, 1] 2)
            | exact Fin.loop_next (p', x, otherR (nth n.edges i) w) ⟨hW', (lr_step2 (n := n) (f := f) (q := (i, w)) (Int.not_lt.2 hg79) (Int.not_lt.2 hc3)).symm.trans hlr⟩ (by simp) (fun s hs => hs.tl [0, 1] 2)
      · try simp only [cnd] at hc2
        refine WX.exit ?_
        refine Fin.then_exit ?_
        refine Fin.loop_exit ?_
        refine Fin.block_hit rfl ?_
        refine Fin.then_normal ?_
        refine WX.seq ?_
        refine WX.seq ?_
        have hpn := hW.nil_of hc2
        subst hpn
        have hx := lr_end hlr hm.1
        subst hx
        refine WX.region rfl ?_
        refine WXL.fieldAddr (off' := 2) Met.none rfl Try.underlying25 rfl sz3 rfl ?_
        first | refine WXL.ld Met.none rfl agg3 ?_ | refine WXL.ldS Met.none rfl agg3 ?_
        refine WXL.assign Met.none rfl ?_
        refine WXL.nil ?_
        refine Fin.then_normal ?_
        refine WX.block ?_
        refine WX.loop (fun q : List (Nat × Int) × List Int × Int × Objs => [(1, Ptr b1 0), (4, .slice fa q.2.1.length fc), (6, I v), (7, Row bq 0 n.nodes.toNat cq), (8, I (minW n f p0)), (12, I q.2.2.1)]) (fun q => (bq, ⟨1, false, (searchR n f true).map I⟩) :: (b1, ⟨0, false, [I n.nodes, I n.source, I n.sink, .slice a n.edges.length c]⟩) :: (q.2.2.2 ++ O)) (fun q => Chg n f (minW n f p0) p0 q.2.2.1 q.1 q.2.1 ∧ Grow 1 fa q.2.1.length fc (q.2.1.map I) q.2.2.2) (fun q => q.1.length) (p0, f, n.sink, F) ⟨Chg.start hn hW0, hF⟩ (fun s hs => hs.tl [0, 1] 2) (fun q hq => ?_)
        obtain ⟨p, f', w2, F2⟩ := q
        obtain ⟨hC, hF2⟩ := hq
        simp only at hC hF2
        dsimp only
        have hwi2 := hC.way.inside hn
        have hcl := hC.len
        have hwl2 : w2.toNat < (searchR n f true).length := by omega
        refine WX.seq ?_
        refine WX.seq ?_
        refine WX.region rfl ?_
        refine WXL.move Met.none rfl ?_
        refine WXL.fieldAddr (off' := 1) Met.none rfl Try.underlying25 rfl sz3 rfl ?_
        first | refine WXL.ld Met.none rfl agg3 ?_ | refine WXL.ldS Met.none rfl agg3 ?_
        refine WXL.bin Met.none rfl rfl rfl ?_
        refine WXL.nil ?_
        refine Fin.then_normal ?_
        refine WX.cond rfl (fun hc4 => ?_) (fun hc4 => ?_)
        · try simp only [cnd] at hc4
          refine WX.skip ?_
          refine Fin.then_normal ?_
          refine WX.seq ?_
          refine WX.block ?_
          obtain ⟨i, p', rfl, hi, hie, hW'⟩ := hC.way.uncons hc4
          have hin64 := hC.in64 hn hfl hm.1
          refine WX.draw rfl ?_
          refine WXL.ldN (vs := [_, _, _, _]) Met.none rfl agg25 sz25 ?_
          refine WXL.move Met.none rfl ?_
          refine WXL.move Met.none rfl ?_
          refine WXL.move Met.none rfl ?_
          first | refine WXL.ix Met.none rfl rfl elem22 sz3 ?_ | refine WXL.ixS Met.none rfl rfl elem22 sz3 ?_
          first | refine WXL.ld Met.none rfl agg3 ?_ | refine WXL.ldS Met.none rfl agg3 ?_
          rw [hi]
          refine WXL.move Met.none rfl ?_
          refine WXL.move Met.none rfl ?_
          refine WXL.cl (O1 := _) Met.none rfl (fnOk_of Try.func43 (by decide +kernel)) rfl (fun _ h => Sat.back (A := [_, _]) (G := F2) h) (change_ok _ F2 n f' i w2 (minW n f p0) a fa c fc src_ hF2 (by omega) (by omega) hin64.1 hin64.2.1) (fun v O' hp => ?_)
          obtain ⟨F3, hF3, rfl⟩ := hp
          refine WXL.of (fun s hs => St.swap (G := F3) [_, _] hs) ?_
          refine WXL.nil ?_
          refine Fin.block_normal ?_
          refine Fin.then_normal ?_
          refine WX.draw rfl ?_
          refine WXL.fieldAddr (off' := 3) Met.none rfl Try.underlying25 rfl sz23 rfl ?_
          first | refine WXL.ld Met.none rfl agg23 ?_ | refine WXL.ldS Met.none rfl agg23 ?_
          refine WXL.move Met.none rfl ?_
          refine WXL.move Met.none rfl ?_
          first | refine WXL.ix Met.none rfl rfl elem22 sz3 ?_ | refine WXL.ixS Met.none rfl rfl elem22 sz3 ?_
          first | refine WXL.ld Met.none rfl agg3 ?_ | refine WXL.ldS Met.none rfl agg3 ?_
          rw [hi]
          first | refine WXL.ix Met.none rfl rfl elem23 sz63 ?_ | refine WXL.ixS Met.none rfl rfl elem23 sz63 ?_
          first | refine WXL.ldN Met.none rfl agg63 sz63 ?_ | refine WXL.ldNS Met.none rfl agg63 sz63 ?_
          refine WXL.move Met.none rfl ?_
          refine WXL.cl (O1 := _) Met.none rfl (fnOk_of Try.func41 (by decide +kernel)) rfl (fun _ h => h) (other_ok _ (nth n.edges i) w2) (fun v O' hp => ?_)
          obtain ⟨rfl, hO⟩ := hp
          subst O'
          refine WXL.assign Met.none rfl ?_
          refine WXL.nil ?_
          exact Fin.loop_next (p', changeR n f' i w2 (minW n f p0), otherR (nth n.edges i) w2, F3) ⟨hC.next hfe hW', by simp only; rw [changeR_length]; exact hF3⟩ (by simp) (by simp only [changeR_length]; exact (fun s hs => hs.tl [0, 1] 2))
        · try simp only [cnd] at hc4
          refine WX.exit ?_
          refine Fin.then_exit ?_
          refine Fin.loop_exit ?_
          refine Fin.block_hit rfl ?_
          refine Fin.then_normal ?_
          refine WX.seq ?_
          have hpn := hC.way.nil_of hc4
          subst hpn
          have hlast := hC.last
          subst hlast
          have hsb := hstep.bound hn
          refine WX.region rfl ?_
          refine WXL.move Met.none rfl ?_
          refine WXL.move Met.none rfl ?_
          refine WXL.bin Met.none rfl rfl bvA ?_
          refine WXL.assign Met.none rfl ?_
          refine WXL.nil ?_
          refine Fin.then_normal ?_
          refine WX.region rfl ?_
          refine WXL.ldN (vs := [_, _, _, _]) Met.none rfl agg25 sz25 ?_
          refine WXL.move Met.none rfl ?_
          refine WXL.cl (O1 := _) Met.none rfl (fnOk_of Try.func40 (by decide +kernel)) rfl (fun _ h => h) (refSearch_ok _ n _ true a fa c fc hn hstep.flow src_ src_) (fun v O' hp => ?_)
          obtain ⟨b115, c115, rfl, hsl1, rfl⟩ := hp
          refine WXL.assign Met.none rfl ?_
          refine WXL.nil ?_
          refine Fin.block_normal ?_
          exact Fin.loop_next (_, v + minW n f p0, fa, fc, F2, b115, c115) ⟨hstep, hF2⟩ (by simp only; omega) (fun s hs => hs.tl [0, 2] 3)
    · try simp only [cnd] at hc1
      refine WX.exit ?_
      refine Fin.then_exit ?_
      refine Fin.loop_exit ?_
      refine Fin.block_hit rfl ?_
      refine Fin.then_normal ?_
      refine WX.seq ?_
      refine WX.region rfl ?_
      refine WXL.move Met.none rfl ?_
      refine WXL.move Met.none rfl ?_
      refine WXL.assign Met.none rfl ?_
      refine WXL.assign Met.none rfl ?_
      refine WXL.nil ?_
      refine Fin.then_normal ?_
      refine WX.ret ?_
      exact Fin.result (O' := F ++ O) (.inr rfl) rfl rfl (fun _ => Sat.told [] 2 (by decide) (by decide) rfl) ⟨(v, f), fa, fc, F, hin.goal _ (.done hc1), hin, rfl, hF, rfl⟩

end Go.Proofs.Ytjmklialkjncaaa.Eng

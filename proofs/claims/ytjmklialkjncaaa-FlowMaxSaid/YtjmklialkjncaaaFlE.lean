/- The program's check of a network. Own work; no condition. -/
import Derived.Test.YtjmklialkjncaaaFlD
set_option linter.unusedVariables false
set_option linter.unusedSimpArgs false
namespace Go.Proofs.Ytjmklialkjncaaa.Eng

theorem node_ok (O : Objs) (n : Net4) (a : Option Addr) (c : Nat) (i : Int) : Spec Try.prog true 56 #[netV n a c, I i] O fun v O' => v = .bool (decide (0 ≤ i ∧ i < n.nodes)) ∧ O' = O := by
  refine Spec.enter (args := [_, _]) (m := 13) Try.func56 rfl rfl (by decide +kernel) fun h0 => ?_
  refine WX.seq ?_
  refine WX.region rfl ?_
  refine WXL.box (c := [_, _, _, _]) Met.none rfl rfl rfl (fun b2 => ?_)
  refine WXL.assign Met.none rfl ?_
  refine WXL.nil ?_
  refine Fin.then_normal ?_
  refine WX.seq ?_
  refine WX.region rfl ?_
  refine WXL.move Met.none rfl ?_
  refine WXL.bin Met.none rfl rfl rfl ?_
  refine WXL.move Met.none rfl ?_
  refine WXL.split (d := 7) rfl (fun hg7 => ?_) (fun hg7 => ?_)
  · try simp only [cnd] at hg7
    refine WXL.move (Met.some rfl rfl rfl) rfl ?_
    refine WXL.fieldAddr (off' := 0) (Met.some rfl rfl rfl) rfl Try.underlying36 rfl sz3 rfl ?_
    first | refine WXL.ld (Met.some rfl rfl rfl) rfl agg3 ?_ | refine WXL.ldS (Met.some rfl rfl rfl) rfl agg3 ?_
    refine WXL.bin (Met.some rfl rfl rfl) rfl rfl rfl ?_
    refine WXL.pick_t Met.none rfl rfl ?_
    refine WXL.assign Met.none rfl ?_
    refine WXL.nil ?_
    refine Fin.then_normal ?_
    refine WX.ret ?_
    refine Fin.result (O' := O) (.inr rfl) rfl rfl drop_ ⟨?_, rfl⟩
    exact bl_
  · try simp only [cnd] at hg7
    refine WXL.miss (j := 2) (d := 7) rfl rfl rfl ?_
    refine WXL.miss (j := 2) (d := 7) rfl rfl rfl ?_
    refine WXL.miss (j := 2) (d := 7) rfl rfl rfl ?_
    refine WXL.miss (j := 2) (d := 7) rfl rfl rfl ?_
    refine WXL.pick_f Met.none rfl rfl ?_
    refine WXL.assign Met.none rfl ?_
    refine WXL.nil ?_
    refine Fin.then_normal ?_
    refine WX.ret ?_
    refine Fin.result (O' := O) (.inr rfl) rfl rfl drop_ ⟨?_, rfl⟩
    exact bl_

theorem amount_ok (O : Objs) (i : Int) : Spec Try.prog true 55 #[I i] O fun v O' => v = .bool (decide (0 ≤ i ∧ i ≤ 1099511627776)) ∧ O' = O := by
  refine Spec.enter (args := [_]) (m := 9) Try.func55 rfl rfl (by decide +kernel) fun h0 => ?_
  refine WX.seq ?_
  refine WX.region rfl ?_
  refine WXL.assign Met.none rfl ?_
  refine WXL.nil ?_
  refine Fin.then_normal ?_
  refine WX.seq ?_
  refine WX.region rfl ?_
  refine WXL.move Met.none rfl ?_
  refine WXL.bin Met.none rfl rfl rfl ?_
  refine WXL.move Met.none rfl ?_
  refine WXL.split (d := 5) rfl (fun hg5 => ?_) (fun hg5 => ?_)
  · try simp only [cnd] at hg5
    refine WXL.move (Met.some rfl rfl rfl) rfl ?_
    refine WXL.bin (Met.some rfl rfl rfl) rfl rfl rfl ?_
    refine WXL.pick_t Met.none rfl rfl ?_
    refine WXL.assign Met.none rfl ?_
    refine WXL.nil ?_
    refine Fin.then_normal ?_
    refine WX.ret ?_
    refine Fin.result (O' := O) (.inr rfl) rfl rfl drop_ ⟨?_, rfl⟩
    exact bl_
  · try simp only [cnd] at hg5
    refine WXL.miss (j := 2) (d := 5) rfl rfl rfl ?_
    refine WXL.miss (j := 2) (d := 5) rfl rfl rfl ?_
    refine WXL.pick_f Met.none rfl rfl ?_
    refine WXL.assign Met.none rfl ?_
    refine WXL.nil ?_
    refine Fin.then_normal ?_
    refine WX.ret ?_
    refine Fin.result (O' := O) (.inr rfl) rfl rfl drop_ ⟨?_, rfl⟩
    exact bl_

instance (n : Net4) (e : E4) : Decidable (BadEdge n e) := by unfold BadEdge; infer_instance

theorem bad_ok (O : Objs) (n : Net4) (a : Option Addr) (c : Nat) (e : E4) (p1 p3 : Nat) (h1 : Knows O p1 ⟨0, false, [I n.nodes, I n.source, I n.sink, .slice a n.edges.length c]⟩) (h3 : Knows O p3 ⟨0, false, [.func (.func 55) #[] #[]]⟩) :
    Spec Try.prog true 58 #[.agg (encE e).toArray, Ptr p1 0, Ptr p3 0] O fun v O' => v = .bool (decide (BadEdge n e)) ∧ O' = O := by
  refine Spec.enter (args := [_, _, _]) (m := 38) Try.func58 rfl rfl (by decide +kernel) fun h0 => ?_
  refine WX.seq ?_
  refine WX.region rfl ?_
  refine WXL.box (c := [_, _, _, _]) Met.none rfl rfl rfl (fun b3 => ?_)
  refine WXL.assign Met.none rfl ?_
  refine WXL.nil ?_
  refine Fin.then_normal ?_
  refine WX.seq ?_
  refine WX.region rfl ?_
  first | refine WXL.ldN Met.none rfl agg36 sz36 ?_ | refine WXL.ldNS Met.none rfl agg36 sz36 ?_
  refine WXL.fieldAddr (off' := 0) Met.none rfl Try.underlying44 rfl sz3 rfl ?_
  first | refine WXL.ld Met.none rfl agg3 ?_ | refine WXL.ldS Met.none rfl agg3 ?_
  refine WXL.cl (O1 := _) Met.none rfl (fnOk_of Try.func56 (by decide +kernel)) rfl (fun _ h => h) (node_ok _ n a c _) (fun v O' hp => ?_)
  obtain ⟨rfl, hO⟩ := hp
  subst O'
  refine WXL.not Met.none rfl ?_
  refine WXL.move Met.none rfl ?_
  refine WXL.split (d := 10) rfl (fun hg10 => ?_) (fun hg10 => ?_)
  · try simp only [cnd] at hg10
    refine WXL.miss (j := 5) (d := 10) rfl rfl rfl ?_
    refine WXL.miss (j := 5) (d := 10) rfl rfl rfl ?_
    refine WXL.miss (j := 5) (d := 10) rfl rfl rfl ?_
    refine WXL.miss (j := 5) (d := 10) rfl rfl rfl ?_
    refine WXL.miss (j := 5) (d := 10) rfl rfl rfl ?_
    refine WXL.pick_t Met.none rfl rfl ?_
    refine WXL.move Met.none rfl ?_
    refine WXL.miss (j := 12) (d := 17) rfl rfl rfl ?_
    refine WXL.miss (j := 12) (d := 17) rfl rfl rfl ?_
    refine WXL.miss (j := 12) (d := 17) rfl rfl rfl ?_
    refine WXL.miss (j := 12) (d := 17) rfl rfl rfl ?_
    refine WXL.miss (j := 12) (d := 17) rfl rfl rfl ?_
    refine WXL.pick_t Met.none rfl rfl ?_
    refine WXL.move Met.none rfl ?_
    refine WXL.miss (j := 19) (d := 24) rfl rfl rfl ?_
    refine WXL.miss (j := 19) (d := 24) rfl rfl rfl ?_
    refine WXL.miss (j := 19) (d := 24) rfl rfl rfl ?_
    refine WXL.miss (j := 19) (d := 24) rfl rfl rfl ?_
    refine WXL.miss (j := 19) (d := 24) rfl rfl rfl ?_
    refine WXL.pick_t Met.none rfl rfl ?_
    refine WXL.move Met.none rfl ?_
    refine WXL.miss (j := 26) (d := 31) rfl rfl rfl ?_
    refine WXL.miss (j := 26) (d := 31) rfl rfl rfl ?_
    refine WXL.miss (j := 26) (d := 31) rfl rfl rfl ?_
    refine WXL.miss (j := 26) (d := 31) rfl rfl rfl ?_
    refine WXL.miss (j := 26) (d := 31) rfl rfl rfl ?_
    refine WXL.pick_t Met.none rfl rfl ?_
    refine WXL.assign Met.none rfl ?_
    refine WXL.nil ?_
    refine Fin.then_normal ?_
    refine WX.ret ?_
    refine Fin.result (O' := O) (.inr rfl) rfl rfl drop_ ⟨?_, rfl⟩
    first
    | exact bool_true (by unfold BadEdge; omega)
    | exact bool_false (by unfold BadEdge; omega)
    | exact congrArg Value.bool (Bool.eq_iff_iff.2 (by simp only [Bool.not_eq_true', decide_eq_false_iff_not, decide_eq_true_eq]; unfold BadEdge; omega))
  · try simp only [cnd] at hg10
    first | refine WXL.ldN (Met.some rfl rfl rfl) rfl agg36 sz36 ?_ | refine WXL.ldNS (Met.some rfl rfl rfl) rfl agg36 sz36 ?_
    refine WXL.fieldAddr (off' := 1) (Met.some rfl rfl rfl) rfl Try.underlying44 rfl sz3 rfl ?_
    first | refine WXL.ld (Met.some rfl rfl rfl) rfl agg3 ?_ | refine WXL.ldS (Met.some rfl rfl rfl) rfl agg3 ?_
    refine WXL.cl (O1 := _) (Met.some rfl rfl rfl) rfl (fnOk_of Try.func56 (by decide +kernel)) rfl (fun _ h => h) (node_ok _ n a c _) (fun v O' hp => ?_)
    obtain ⟨rfl, hO⟩ := hp
    subst O'
    refine WXL.not (Met.some rfl rfl rfl) rfl ?_
    refine WXL.pick_f Met.none rfl rfl ?_
    refine WXL.move Met.none rfl ?_
    refine WXL.split (d := 17) rfl (fun hg17 => ?_) (fun hg17 => ?_)
    · try simp only [cnd] at hg17
      refine WXL.miss (j := 12) (d := 17) rfl rfl rfl ?_
      refine WXL.miss (j := 12) (d := 17) rfl rfl rfl ?_
      refine WXL.miss (j := 12) (d := 17) rfl rfl rfl ?_
      refine WXL.miss (j := 12) (d := 17) rfl rfl rfl ?_
      refine WXL.miss (j := 12) (d := 17) rfl rfl rfl ?_
      refine WXL.pick_t Met.none rfl rfl ?_
      refine WXL.move Met.none rfl ?_
      refine WXL.miss (j := 19) (d := 24) rfl rfl rfl ?_
      refine WXL.miss (j := 19) (d := 24) rfl rfl rfl ?_
      refine WXL.miss (j := 19) (d := 24) rfl rfl rfl ?_
      refine WXL.miss (j := 19) (d := 24) rfl rfl rfl ?_
      refine WXL.miss (j := 19) (d := 24) rfl rfl rfl ?_
      refine WXL.pick_t Met.none rfl rfl ?_
      refine WXL.move Met.none rfl ?_
      refine WXL.miss (j := 26) (d := 31) rfl rfl rfl ?_
      refine WXL.miss (j := 26) (d := 31) rfl rfl rfl ?_
      refine WXL.miss (j := 26) (d := 31) rfl rfl rfl ?_
      refine WXL.miss (j := 26) (d := 31) rfl rfl rfl ?_
      refine WXL.miss (j := 26) (d := 31) rfl rfl rfl ?_
      refine WXL.pick_t Met.none rfl rfl ?_
      refine WXL.assign Met.none rfl ?_
      refine WXL.nil ?_
      refine Fin.then_normal ?_
      refine WX.ret ?_
      refine Fin.result (O' := O) (.inr rfl) rfl rfl drop_ ⟨?_, rfl⟩
      first
      | exact bool_true (by unfold BadEdge; omega)
      | exact bool_false (by unfold BadEdge; omega)
      | exact congrArg Value.bool (Bool.eq_iff_iff.2 (by simp only [Bool.not_eq_true', decide_eq_false_iff_not, decide_eq_true_eq]; unfold BadEdge; omega))
    · try simp only [cnd] at hg17
      refine WXL.fieldAddr (off' := 0) (Met.some rfl rfl rfl) rfl Try.underlying44 rfl sz3 rfl ?_
      first | refine WXL.ld (Met.some rfl rfl rfl) rfl agg3 ?_ | refine WXL.ldS (Met.some rfl rfl rfl) rfl agg3 ?_
      refine WXL.fieldAddr (off' := 1) (Met.some rfl rfl rfl) rfl Try.underlying44 rfl sz3 rfl ?_
      first | refine WXL.ld (Met.some rfl rfl rfl) rfl agg3 ?_ | refine WXL.ldS (Met.some rfl rfl rfl) rfl agg3 ?_
      refine WXL.bin (Met.some rfl rfl rfl) rfl rfl rfl ?_
      refine WXL.pick_f Met.none rfl rfl ?_
      refine WXL.move Met.none rfl ?_
      refine WXL.split (d := 24) rfl (fun hg24 => ?_) (fun hg24 => ?_)
      · try simp only [cnd] at hg24
        refine WXL.miss (j := 19) (d := 24) rfl rfl rfl ?_
        refine WXL.miss (j := 19) (d := 24) rfl rfl rfl ?_
        refine WXL.miss (j := 19) (d := 24) rfl rfl rfl ?_
        refine WXL.miss (j := 19) (d := 24) rfl rfl rfl ?_
        refine WXL.miss (j := 19) (d := 24) rfl rfl rfl ?_
        refine WXL.pick_t Met.none rfl rfl ?_
        refine WXL.move Met.none rfl ?_
        refine WXL.miss (j := 26) (d := 31) rfl rfl rfl ?_
        refine WXL.miss (j := 26) (d := 31) rfl rfl rfl ?_
        refine WXL.miss (j := 26) (d := 31) rfl rfl rfl ?_
        refine WXL.miss (j := 26) (d := 31) rfl rfl rfl ?_
        refine WXL.miss (j := 26) (d := 31) rfl rfl rfl ?_
        refine WXL.pick_t Met.none rfl rfl ?_
        refine WXL.assign Met.none rfl ?_
        refine WXL.nil ?_
        refine Fin.then_normal ?_
        refine WX.ret ?_
        refine Fin.result (O' := O) (.inr rfl) rfl rfl drop_ ⟨?_, rfl⟩
        first
        | exact bool_true (by unfold BadEdge; omega)
        | exact bool_false (by unfold BadEdge; omega)
        | exact congrArg Value.bool (Bool.eq_iff_iff.2 (by simp only [Bool.not_eq_true', decide_eq_false_iff_not, decide_eq_true_eq]; unfold BadEdge; omega))
      · try simp only [cnd] at hg24
        first | refine WXL.ld (Met.some rfl rfl rfl) rfl agg95 ?_ | refine WXL.ldS (Met.some rfl rfl rfl) rfl agg95 ?_
        refine WXL.fieldAddr (off' := 2) (Met.some rfl rfl rfl) rfl Try.underlying44 rfl sz3 rfl ?_
        first | refine WXL.ld (Met.some rfl rfl rfl) rfl agg3 ?_ | refine WXL.ldS (Met.some rfl rfl rfl) rfl agg3 ?_
        refine WXL.cl (O1 := _) (Met.some rfl rfl rfl) rfl (fnOk_of Try.func55 (by decide +kernel)) rfl (fun _ h => h) (amount_ok _ _) (fun v O' hp => ?_)
        obtain ⟨rfl, hO⟩ := hp
        subst O'
        refine WXL.not (Met.some rfl rfl rfl) rfl ?_
        refine WXL.pick_f Met.none rfl rfl ?_
        refine WXL.move Met.none rfl ?_
        refine WXL.split (d := 31) rfl (fun hg31 => ?_) (fun hg31 => ?_)
        · try simp only [cnd] at hg31
          refine WXL.miss (j := 26) (d := 31) rfl rfl rfl ?_
          refine WXL.miss (j := 26) (d := 31) rfl rfl rfl ?_
          refine WXL.miss (j := 26) (d := 31) rfl rfl rfl ?_
          refine WXL.miss (j := 26) (d := 31) rfl rfl rfl ?_
          refine WXL.miss (j := 26) (d := 31) rfl rfl rfl ?_
          refine WXL.pick_t Met.none rfl rfl ?_
          refine WXL.assign Met.none rfl ?_
          refine WXL.nil ?_
          refine Fin.then_normal ?_
          refine WX.ret ?_
          refine Fin.result (O' := O) (.inr rfl) rfl rfl drop_ ⟨?_, rfl⟩
          first
          | exact bool_true (by unfold BadEdge; omega)
          | exact bool_false (by unfold BadEdge; omega)
          | exact congrArg Value.bool (Bool.eq_iff_iff.2 (by simp only [Bool.not_eq_true', decide_eq_false_iff_not, decide_eq_true_eq]; unfold BadEdge; omega))
        · try simp only [cnd] at hg31
          first | refine WXL.ld (Met.some rfl rfl rfl) rfl agg95 ?_ | refine WXL.ldS (Met.some rfl rfl rfl) rfl agg95 ?_
          refine WXL.fieldAddr (off' := 3) (Met.some rfl rfl rfl) rfl Try.underlying44 rfl sz3 rfl ?_
          first | refine WXL.ld (Met.some rfl rfl rfl) rfl agg3 ?_ | refine WXL.ldS (Met.some rfl rfl rfl) rfl agg3 ?_
          refine WXL.cl (O1 := _) (Met.some rfl rfl rfl) rfl (fnOk_of Try.func55 (by decide +kernel)) rfl (fun _ h => h) (amount_ok _ _) (fun v O' hp => ?_)
          obtain ⟨rfl, hO⟩ := hp
          subst O'
          refine WXL.not (Met.some rfl rfl rfl) rfl ?_
          refine WXL.pick_f Met.none rfl rfl ?_
          refine WXL.assign Met.none rfl ?_
          refine WXL.nil ?_
          refine Fin.then_normal ?_
          refine WX.ret ?_
          refine Fin.result (O' := O) (.inr rfl) rfl rfl drop_ ⟨?_, rfl⟩
          first
          | exact bool_true (by unfold BadEdge; omega)
          | exact bool_false (by unfold BadEdge; omega)
          | exact congrArg Value.bool (Bool.eq_iff_iff.2 (by simp only [Bool.not_eq_true', decide_eq_false_iff_not, decide_eq_true_eq]; unfold BadEdge; omega))

/-- What a function value does to each element of a row. -/
def Tells {α : Type} (P : Program) (O : Objs) (f : FuncId) (first cap : List Value) (V : α → Value) (p : α → Bool) (l : List α) : Prop :=
  ∀ N e, e ∈ l → Spec P true f (first ++ [V e] ++ cap).toArray (N ++ O) fun v O' => v = .bool (p e) ∧ O' = N ++ O

def aggE (e : E4) : Value := .agg (encE e).toArray

theorem findIdx_found {α : Type} [Inhabited α] {p : α → Bool} {l : List α} {k : Nat} (hk : k < l.length) (h : ∀ j, j < k → p (nth l j) = false) (hp : p (nth l k) = true) : l.findIdx p = k := by
  rw [List.findIdx_eq hk]
  refine ⟨by rw [← nth_get hk]; exact hp, fun j hj => ?_⟩
  have := h j hj
  rw [nth_get (by omega)] at this
  exact this

theorem indexE_ok (O : Objs) (l : List E4) (a : Option Addr) (c : Nat) (f : FuncId) (first cap : Array Value) (p : E4 → Bool) (hl : Src O 4 (.slice a l.length c) l.length (flat encE l)) (hlen : l.length ≤ 1000000) (hf : fnOk Try.prog f = true) (ht : Tells Try.prog O f first.toList cap.toList aggE p l) :
    Spec Try.prog true 59 #[.slice a l.length c, .func (.func f) first cap] O fun v O' => v = I (if l.findIdx p < l.length then (l.findIdx p : Int) else -1) ∧ O' = O := by
  refine Spec.enter (args := [_, _]) (m := 19) Try.func59 rfl rfl (by decide +kernel) fun h0 => ?_
  refine WX.seq ?_
  refine WX.region rfl ?_
  refine WXL.assign Met.none rfl ?_
  refine WXL.nil ?_
  refine Fin.then_normal ?_
  refine WX.seq ?_
  refine WX.seq ?_
  refine WX.region rfl ?_
  refine WXL.move Met.none rfl ?_
  refine WXL.len Met.none rfl Try.underlying34 ?_
  refine WXL.move Met.none rfl ?_
  refine WXL.nil ?_
  refine Fin.then_normal ?_
  refine WX.block ?_
  refine WX.loop (fun k : Nat => [(0, .slice a l.length c), (1, .func (.func f) first cap), (7, I (l.length : Int)), (8, I (k : Int))]) (fun _ => O) (fun k => k ≤ l.length ∧ ∀ j, j < k → p (nth l j) = false) (fun k => l.length - k) 0 ⟨Nat.zero_le _, fun j hj => absurd hj (Nat.not_lt_zero _)⟩ (fun s hs => hs.tl [] 0) (fun k hk => ?_)
  refine WX.seq ?_
  refine WX.region rfl ?_
  refine WXL.bin Met.none rfl rfl rfl ?_
  refine WXL.nil ?_
  refine Fin.then_normal ?_
  refine WX.seq ?_
  refine WX.cond rfl (fun hc0 => ?_) (fun hc0 => ?_)
  · try simp only [cnd] at hc0
    refine WX.skip ?_
    refine Fin.then_normal ?_
    refine WX.seq ?_
    refine WX.block ?_
    refine WX.seq ?_
    refine WX.region rfl ?_
    refine WXL.move Met.none rfl ?_
    refine WXL.assign Met.none rfl ?_
    refine WXL.nil ?_
    refine Fin.then_normal ?_
    refine WX.seq ?_
    refine WX.region rfl ?_
    refine WXL.move Met.none rfl ?_
    refine WXL.move Met.none rfl ?_
    refine WXL.move Met.none rfl ?_
    first | refine WXL.ix Met.none rfl rfl elem34 sz44 ?_ | refine WXL.ixS Met.none rfl rfl elem34 sz44 ?_
    first | refine WXL.ldN Met.none rfl agg44 sz44 ?_ (hv := (cellsAt_flat encE_len _ _ (by omega))) | refine WXL.ldNS Met.none rfl agg44 sz44 ?_ (hv := (cellsAt_flat encE_len _ _ (by omega)))
    refine WXL.cl (O1 := _) Met.none rfl hf rfl (fun _ h => h) (ht [] (nth l k) (nth_mem (by omega))) (fun v O' hp => ?_)
    obtain ⟨rfl, hO⟩ := hp
    subst O'
    refine WXL.nil ?_
    refine Fin.then_normal ?_
    refine WX.cond rfl (fun hc1 => ?_) (fun hc1 => ?_)
    · try simp only [cnd] at hc1
      refine WX.seq ?_
      refine WX.region rfl ?_
      refine WXL.move Met.none rfl ?_
      refine WXL.assign Met.none rfl ?_
      refine WXL.nil ?_
      refine Fin.then_normal ?_
      refine WX.ret ?_
      refine Fin.block_ret ?_
      refine Fin.then_ret ?_
      refine Fin.loop_ret ?_
      refine Fin.block_ret ?_
      refine Fin.then_ret ?_
      refine Fin.result (O' := O) (.inr rfl) rfl rfl drop_ ⟨?_, rfl⟩
      first
      | exact congrArg I (by rw [findIdx_found (by omega) hk.2 hc1, if_pos (by omega)])
      | exact congrArg I (by
          have e1 : l.findIdx p = l.length := by
            rw [List.findIdx_eq_length]
            intro x hx
            obtain ⟨j, hj, rfl⟩ := List.mem_iff_getElem.1 hx
            rw [← nth_get hj]
            exact hk.2 j (by omega)
          rw [e1, if_neg (by omega)])
    · try simp only [cnd] at hc1
      refine WX.skip ?_
      refine Fin.block_normal ?_
      refine Fin.then_normal ?_
      refine WX.region rfl ?_
      refine WXL.bin Met.none rfl rfl bvA ?_
      refine WXL.move Met.none rfl ?_
      refine WXL.nil ?_
      refine Fin.loop_next (k + 1) ⟨by omega, fun j hj => ?_⟩ (by omega) (fun s hs => hs.tl [] 0)
      rcases Nat.lt_or_ge j k with q | q
      · exact hk.2 j q
      · have e : j = k := by omega
        subst e
        exact hc1
  · try simp only [cnd] at hc0
    refine WX.exit ?_
    refine Fin.then_exit ?_
    refine Fin.loop_exit ?_
    refine Fin.block_hit rfl ?_
    refine Fin.then_normal ?_
    refine WX.seq ?_
    refine WX.region rfl ?_
    refine WXL.assign Met.none rfl ?_
    refine WXL.nil ?_
    refine Fin.then_normal ?_
    refine WX.ret ?_
    refine Fin.result (O' := O) (.inr rfl) rfl rfl drop_ ⟨?_, rfl⟩
    first
    | exact congrArg I (by rw [findIdx_found (by omega) hk.2 hc1, if_pos (by omega)])
    | exact congrArg I (by
        have e1 : l.findIdx p = l.length := by
          rw [List.findIdx_eq_length]
          intro x hx
          obtain ⟨j, hj, rfl⟩ := List.mem_iff_getElem.1 hx
          rw [← nth_get hj]
          exact hk.2 j (by omega)
        rw [e1, if_neg (by omega)])

theorem containsE_ok (O : Objs) (l : List E4) (a : Option Addr) (c : Nat) (f : FuncId) (first cap : Array Value) (p : E4 → Bool) (hl : Src O 4 (.slice a l.length c) l.length (flat encE l)) (hlen : l.length ≤ 1000000) (hf : fnOk Try.prog f = true) (ht : Tells Try.prog O f first.toList cap.toList aggE p l) :
    Spec Try.prog true 57 #[.slice a l.length c, .func (.func f) first cap] O fun v O' => v = .bool (l.any p) ∧ O' = O := by
  refine Spec.enter (args := [_, _]) (m := 9) Try.func57 rfl rfl (by decide +kernel) fun h0 => ?_
  refine WX.seq ?_
  refine WX.region rfl ?_
  refine WXL.assign Met.none rfl ?_
  refine WXL.nil ?_
  refine Fin.then_normal ?_
  refine WX.seq ?_
  refine WX.region rfl ?_
  refine WXL.move Met.none rfl ?_
  refine WXL.move Met.none rfl ?_
  refine WXL.cl (O1 := _) Met.none rfl (fnOk_of Try.func59 (by decide +kernel)) rfl (fun _ h => h) (indexE_ok _ l a c f first cap p hl hlen hf ht) (fun v O' hp => ?_)
  obtain ⟨rfl, hO⟩ := hp
  subst O'
  refine WXL.bin Met.none rfl rfl rfl ?_
  refine WXL.assign Met.none rfl ?_
  refine WXL.nil ?_
  refine Fin.then_normal ?_
  refine WX.ret ?_
  refine Fin.result (O' := O) (.inr rfl) rfl rfl drop_ ⟨congrArg Value.bool ?_, rfl⟩
  rw [Bool.eq_iff_iff]
  simp only [decide_eq_true_eq, List.any_eq_true]
  constructor
  · intro h
    split at h
    · rename_i hlt
      exact ⟨l[l.findIdx p], List.getElem_mem hlt, List.findIdx_getElem⟩
    · omega
  · rintro ⟨x, hx, hp⟩
    have := List.findIdx_lt_length_of_exists (p := p) (xs := l) ⟨x, hx, hp⟩
    rw [if_pos this]
    omega

theorem bad5_any (n : Net4) : n.edges.any (fun e => decide (BadEdge n e)) = true ↔ Bad5 n := by
  rw [List.any_eq_true]
  unfold Bad5
  constructor
  · rintro ⟨e, he, hb⟩
    obtain ⟨k, hk, rfl⟩ := List.mem_iff_getElem.1 he
    exact ⟨k, hk, by rw [nth_get hk]; exact of_decide_eq_true hb⟩
  · rintro ⟨k, hk, hb⟩
    exact ⟨_, nth_mem hk, decide_eq_true hb⟩

theorem valid_ok (O : Objs) (n : Net4) (a : Option Addr) (c : Nat) (hl : Edges O n a c) (hlen : n.edges.length ≤ 1000000) :
    Spec Try.prog false 34 #[netV n a c] O fun v O' => ∃ k, v = I k ∧ Wrong n k ∧ O' = O := by
  refine Spec.enter (args := [_]) (m := 44) Try.func34 rfl rfl (by decide +kernel) fun h0 => ?_
  refine WX.seq ?_
  refine WX.region rfl ?_
  refine WXL.box (c := [_, _, _, _]) Met.none rfl rfl rfl (fun b1 => ?_)
  refine WXL.assign Met.none rfl ?_
  refine WXL.nil ?_
  refine Fin.then_normal ?_
  refine WX.seq ?_
  refine WX.region rfl ?_
  refine WXL.alloc (c := [_]) Met.none zero95 rfl (fun b3 => ?_)
  refine WXL.st (vs := [_]) (c' := [_]) Met.none rfl rfl rfl sz95 ?_
  refine WXL.nil ?_
  refine Fin.then_normal ?_
  refine WX.seq ?_
  refine WX.block ?_
  refine WX.seq ?_
  refine WX.region rfl ?_
  refine WXL.fieldAddr (off' := 0) Met.none rfl Try.underlying36 rfl sz3 rfl ?_
  first | refine WXL.ld Met.none rfl agg3 ?_ | refine WXL.ldS Met.none rfl agg3 ?_
  refine WXL.bin Met.none rfl rfl rfl ?_
  refine WXL.move Met.none rfl ?_
  refine WXL.split (d := 8) rfl (fun hg8 => ?_) (fun hg8 => ?_)
  · try simp only [cnd] at hg8
    refine WXL.miss (j := 3) (d := 8) rfl rfl rfl ?_
    refine WXL.miss (j := 3) (d := 8) rfl rfl rfl ?_
    refine WXL.miss (j := 3) (d := 8) rfl rfl rfl ?_
    refine WXL.miss (j := 3) (d := 8) rfl rfl rfl ?_
    refine WXL.pick_t Met.none rfl rfl ?_
    refine WXL.assign Met.none rfl ?_
    refine WXL.nil ?_
    refine Fin.then_normal ?_
    refine WX.cond rfl (fun hc0 => ?_) (fun hc0 => nomatch hc0)
    refine WX.seq ?_
    refine WX.region rfl ?_
    refine WXL.assign Met.none rfl ?_
    refine WXL.nil ?_
    refine Fin.then_normal ?_
    refine WX.ret ?_
    refine Fin.block_ret ?_
    refine Fin.then_ret ?_
    refine Fin.result (O' := O) (.inr rfl) rfl rfl drop_ ⟨_, rfl, ?_, rfl⟩
    first
    | exact .inl ⟨by unfold Bad4; omega, rfl⟩
    | exact .inr (.inl ⟨by unfold Bad4; omega, by unfold Bad1; omega, rfl⟩)
    | exact .inr (.inr (.inl ⟨by unfold Bad4; omega, by unfold Bad1; omega, (bad5_any n).1 hc2, rfl⟩))
    | exact .inr (.inr (.inr ⟨by unfold Bad4; omega, by unfold Bad1; omega, fun h => (by rw [(bad5_any n).2 h] at hc2; cases hc2), rfl⟩))
  · try simp only [cnd] at hg8
    refine WXL.fieldAddr (off' := 3) (Met.some rfl rfl rfl) rfl Try.underlying36 rfl sz34 rfl ?_
    first | refine WXL.ld (Met.some rfl rfl rfl) rfl agg34 ?_ | refine WXL.ldS (Met.some rfl rfl rfl) rfl agg34 ?_
    refine WXL.len (Met.some rfl rfl rfl) rfl Try.underlying34 ?_
    refine WXL.bin (Met.some rfl rfl rfl) rfl rfl rfl ?_
    refine WXL.pick_f Met.none rfl rfl ?_
    refine WXL.assign Met.none rfl ?_
    refine WXL.nil ?_
    refine Fin.then_normal ?_
    refine WX.cond rfl (fun hc0 => ?_) (fun hc0 => ?_)
    · try simp only [cnd] at hc0
      refine WX.seq ?_
      refine WX.region rfl ?_
      refine WXL.assign Met.none rfl ?_
      refine WXL.nil ?_
      refine Fin.then_normal ?_
      refine WX.ret ?_
      refine Fin.block_ret ?_
      refine Fin.then_ret ?_
      refine Fin.result (O' := O) (.inr rfl) rfl rfl drop_ ⟨_, rfl, ?_, rfl⟩
      first
      | exact .inl ⟨by unfold Bad4; omega, rfl⟩
      | exact .inr (.inl ⟨by unfold Bad4; omega, by unfold Bad1; omega, rfl⟩)
      | exact .inr (.inr (.inl ⟨by unfold Bad4; omega, by unfold Bad1; omega, (bad5_any n).1 hc2, rfl⟩))
      | exact .inr (.inr (.inr ⟨by unfold Bad4; omega, by unfold Bad1; omega, fun h => (by rw [(bad5_any n).2 h] at hc2; cases hc2), rfl⟩))
    · try simp only [cnd] at hc0
      refine WX.seq ?_
      refine WX.region rfl ?_
      refine WXL.fieldAddr (off' := 0) Met.none rfl Try.underlying36 rfl sz3 rfl ?_
      first | refine WXL.ld Met.none rfl agg3 ?_ | refine WXL.ldS Met.none rfl agg3 ?_
      refine WXL.bin Met.none rfl rfl rfl ?_
      refine WXL.move Met.none rfl ?_
      refine WXL.split (d := 18) rfl (fun hg18 => ?_) (fun hg18 => ?_)
      · try simp only [cnd] at hg18
        refine WXL.miss (j := 3) (d := 18) rfl rfl rfl ?_
        refine WXL.miss (j := 3) (d := 18) rfl rfl rfl ?_
        refine WXL.miss (j := 3) (d := 18) rfl rfl rfl ?_
        refine WXL.miss (j := 3) (d := 18) rfl rfl rfl ?_
        refine WXL.miss (j := 3) (d := 18) rfl rfl rfl ?_
        refine WXL.pick_t Met.none rfl rfl ?_
        refine WXL.move Met.none rfl ?_
        refine WXL.miss (j := 10) (d := 25) rfl rfl rfl ?_
        refine WXL.miss (j := 10) (d := 25) rfl rfl rfl ?_
        refine WXL.miss (j := 10) (d := 25) rfl rfl rfl ?_
        refine WXL.miss (j := 10) (d := 25) rfl rfl rfl ?_
        refine WXL.miss (j := 10) (d := 25) rfl rfl rfl ?_
        refine WXL.pick_t Met.none rfl rfl ?_
        refine WXL.move Met.none rfl ?_
        refine WXL.miss (j := 17) (d := 32) rfl rfl rfl ?_
        refine WXL.miss (j := 17) (d := 32) rfl rfl rfl ?_
        refine WXL.miss (j := 17) (d := 32) rfl rfl rfl ?_
        refine WXL.miss (j := 17) (d := 32) rfl rfl rfl ?_
        refine WXL.miss (j := 17) (d := 32) rfl rfl rfl ?_
        refine WXL.pick_t Met.none rfl rfl ?_
        refine WXL.assign Met.none rfl ?_
        refine WXL.nil ?_
        refine Fin.then_normal ?_
        refine WX.cond rfl (fun hc1 => ?_) (fun hc1 => nomatch hc1)
        refine WX.seq ?_
        refine WX.region rfl ?_
        refine WXL.assign Met.none rfl ?_
        refine WXL.nil ?_
        refine Fin.then_normal ?_
        refine WX.ret ?_
        refine Fin.block_ret ?_
        refine Fin.then_ret ?_
        refine Fin.result (O' := O) (.inr rfl) rfl rfl drop_ ⟨_, rfl, ?_, rfl⟩
        first
        | exact .inl ⟨by unfold Bad4; omega, rfl⟩
        | exact .inr (.inl ⟨by unfold Bad4; omega, by unfold Bad1; omega, rfl⟩)
        | exact .inr (.inr (.inl ⟨by unfold Bad4; omega, by unfold Bad1; omega, (bad5_any n).1 hc2, rfl⟩))
        | exact .inr (.inr (.inr ⟨by unfold Bad4; omega, by unfold Bad1; omega, fun h => (by rw [(bad5_any n).2 h] at hc2; cases hc2), rfl⟩))
      · try simp only [cnd] at hg18
        refine WXL.ldN (vs := [_, _, _, _]) (Met.some rfl rfl rfl) rfl agg36 sz36 ?_
        refine WXL.fieldAddr (off' := 1) (Met.some rfl rfl rfl) rfl Try.underlying36 rfl sz3 rfl ?_
        first | refine WXL.ld (Met.some rfl rfl rfl) rfl agg3 ?_ | refine WXL.ldS (Met.some rfl rfl rfl) rfl agg3 ?_
        refine WXL.cl (O1 := _) (Met.some rfl rfl rfl) rfl (fnOk_of Try.func56 (by decide +kernel)) rfl (fun _ h => h) (node_ok _ n a c _) (fun v O' hp => ?_)
        obtain ⟨rfl, hO⟩ := hp
        subst O'
        refine WXL.not (Met.some rfl rfl rfl) rfl ?_
        refine WXL.pick_f Met.none rfl rfl ?_
        refine WXL.move Met.none rfl ?_
        refine WXL.split (d := 25) rfl (fun hg25 => ?_) (fun hg25 => ?_)
        · try simp only [cnd] at hg25
          refine WXL.miss (j := 10) (d := 25) rfl rfl rfl ?_
          refine WXL.miss (j := 10) (d := 25) rfl rfl rfl ?_
          refine WXL.miss (j := 10) (d := 25) rfl rfl rfl ?_
          refine WXL.miss (j := 10) (d := 25) rfl rfl rfl ?_
          refine WXL.miss (j := 10) (d := 25) rfl rfl rfl ?_
          refine WXL.pick_t Met.none rfl rfl ?_
          refine WXL.move Met.none rfl ?_
          refine WXL.miss (j := 17) (d := 32) rfl rfl rfl ?_
          refine WXL.miss (j := 17) (d := 32) rfl rfl rfl ?_
          refine WXL.miss (j := 17) (d := 32) rfl rfl rfl ?_
          refine WXL.miss (j := 17) (d := 32) rfl rfl rfl ?_
          refine WXL.miss (j := 17) (d := 32) rfl rfl rfl ?_
          refine WXL.pick_t Met.none rfl rfl ?_
          refine WXL.assign Met.none rfl ?_
          refine WXL.nil ?_
          refine Fin.then_normal ?_
          refine WX.cond rfl (fun hc1 => ?_) (fun hc1 => nomatch hc1)
          refine WX.seq ?_
          refine WX.region rfl ?_
          refine WXL.assign Met.none rfl ?_
          refine WXL.nil ?_
          refine Fin.then_normal ?_
          refine WX.ret ?_
          refine Fin.block_ret ?_
          refine Fin.then_ret ?_
          refine Fin.result (O' := O) (.inr rfl) rfl rfl drop_ ⟨_, rfl, ?_, rfl⟩
          first
          | exact .inl ⟨by unfold Bad4; omega, rfl⟩
          | exact .inr (.inl ⟨by unfold Bad4; omega, by unfold Bad1; omega, rfl⟩)
          | exact .inr (.inr (.inl ⟨by unfold Bad4; omega, by unfold Bad1; omega, (bad5_any n).1 hc2, rfl⟩))
          | exact .inr (.inr (.inr ⟨by unfold Bad4; omega, by unfold Bad1; omega, fun h => (by rw [(bad5_any n).2 h] at hc2; cases hc2), rfl⟩))
        · try simp only [cnd] at hg25
          refine WXL.ldN (vs := [_, _, _, _]) (Met.some rfl rfl rfl) rfl agg36 sz36 ?_
          refine WXL.fieldAddr (off' := 2) (Met.some rfl rfl rfl) rfl Try.underlying36 rfl sz3 rfl ?_
          first | refine WXL.ld (Met.some rfl rfl rfl) rfl agg3 ?_ | refine WXL.ldS (Met.some rfl rfl rfl) rfl agg3 ?_
          refine WXL.cl (O1 := _) (Met.some rfl rfl rfl) rfl (fnOk_of Try.func56 (by decide +kernel)) rfl (fun _ h => h) (node_ok _ n a c _) (fun v O' hp => ?_)
          obtain ⟨rfl, hO⟩ := hp
          subst O'
          refine WXL.not (Met.some rfl rfl rfl) rfl ?_
          refine WXL.pick_f Met.none rfl rfl ?_
          refine WXL.move Met.none rfl ?_
          refine WXL.split (d := 32) rfl (fun hg32 => ?_) (fun hg32 => ?_)
          · try simp only [cnd] at hg32
            refine WXL.miss (j := 17) (d := 32) rfl rfl rfl ?_
            refine WXL.miss (j := 17) (d := 32) rfl rfl rfl ?_
            refine WXL.miss (j := 17) (d := 32) rfl rfl rfl ?_
            refine WXL.miss (j := 17) (d := 32) rfl rfl rfl ?_
            refine WXL.miss (j := 17) (d := 32) rfl rfl rfl ?_
            refine WXL.pick_t Met.none rfl rfl ?_
            refine WXL.assign Met.none rfl ?_
            refine WXL.nil ?_
            refine Fin.then_normal ?_
            refine WX.cond rfl (fun hc1 => ?_) (fun hc1 => nomatch hc1)
            refine WX.seq ?_
            refine WX.region rfl ?_
            refine WXL.assign Met.none rfl ?_
            refine WXL.nil ?_
            refine Fin.then_normal ?_
            refine WX.ret ?_
            refine Fin.block_ret ?_
            refine Fin.then_ret ?_
            refine Fin.result (O' := O) (.inr rfl) rfl rfl drop_ ⟨_, rfl, ?_, rfl⟩
            first
            | exact .inl ⟨by unfold Bad4; omega, rfl⟩
            | exact .inr (.inl ⟨by unfold Bad4; omega, by unfold Bad1; omega, rfl⟩)
            | exact .inr (.inr (.inl ⟨by unfold Bad4; omega, by unfold Bad1; omega, (bad5_any n).1 hc2, rfl⟩))
            | exact .inr (.inr (.inr ⟨by unfold Bad4; omega, by unfold Bad1; omega, fun h => (by rw [(bad5_any n).2 h] at hc2; cases hc2), rfl⟩))
          · try simp only [cnd] at hg32
            refine WXL.fieldAddr (off' := 1) (Met.some rfl rfl rfl) rfl Try.underlying36 rfl sz3 rfl ?_
            first | refine WXL.ld (Met.some rfl rfl rfl) rfl agg3 ?_ | refine WXL.ldS (Met.some rfl rfl rfl) rfl agg3 ?_
            refine WXL.fieldAddr (off' := 2) (Met.some rfl rfl rfl) rfl Try.underlying36 rfl sz3 rfl ?_
            first | refine WXL.ld (Met.some rfl rfl rfl) rfl agg3 ?_ | refine WXL.ldS (Met.some rfl rfl rfl) rfl agg3 ?_
            refine WXL.bin (Met.some rfl rfl rfl) rfl rfl rfl ?_
            refine WXL.pick_f Met.none rfl rfl ?_
            refine WXL.assign Met.none rfl ?_
            refine WXL.nil ?_
            refine Fin.then_normal ?_
            refine WX.cond rfl (fun hc1 => ?_) (fun hc1 => ?_)
            · try simp only [cnd] at hc1
              refine WX.seq ?_
              refine WX.region rfl ?_
              refine WXL.assign Met.none rfl ?_
              refine WXL.nil ?_
              refine Fin.then_normal ?_
              refine WX.ret ?_
              refine Fin.block_ret ?_
              refine Fin.then_ret ?_
              refine Fin.result (O' := O) (.inr rfl) rfl rfl drop_ ⟨_, rfl, ?_, rfl⟩
              first
              | exact .inl ⟨by unfold Bad4; omega, rfl⟩
              | exact .inr (.inl ⟨by unfold Bad4; omega, by unfold Bad1; omega, rfl⟩)
              | exact .inr (.inr (.inl ⟨by unfold Bad4; omega, by unfold Bad1; omega, (bad5_any n).1 hc2, rfl⟩))
              | exact .inr (.inr (.inr ⟨by unfold Bad4; omega, by unfold Bad1; omega, fun h => (by rw [(bad5_any n).2 h] at hc2; cases hc2), rfl⟩))
            · try simp only [cnd] at hc1
              refine WX.seq ?_
              refine WX.region rfl ?_
              refine WXL.fieldAddr (off' := 3) Met.none rfl Try.underlying36 rfl sz34 rfl ?_
              first | refine WXL.ld Met.none rfl agg34 ?_ | refine WXL.ldS Met.none rfl agg34 ?_
              refine WXL.makeFunc Met.none rfl rfl ?_
              refine WXL.cl (O1 := _) Met.none rfl (fnOk_of Try.func57 (by decide +kernel)) rfl (fun _ h => h) (containsE_ok _ n.edges a c 58 #[] _ (fun e => decide (BadEdge n e)) src_ hlen (fnOk_of Try.func58 (by decide +kernel)) (fun N e _ => bad_ok (N ++ _) n a c e b1 b3 (Knows.app at_) (Knows.app at_))) (fun v O' hp => ?_)
              obtain ⟨rfl, hO⟩ := hp
              subst O'
              refine WXL.assign Met.none rfl ?_
              refine WXL.nil ?_
              refine Fin.then_normal ?_
              refine WX.cond rfl (fun hc2 => ?_) (fun hc2 => ?_)
              · try simp only [cnd] at hc2
                refine WX.seq ?_
                refine WX.region rfl ?_
                refine WXL.assign Met.none rfl ?_
                refine WXL.nil ?_
                refine Fin.then_normal ?_
                refine WX.ret ?_
                refine Fin.block_ret ?_
                refine Fin.then_ret ?_
                refine Fin.result (O' := O) (.inr rfl) rfl rfl drop_ ⟨_, rfl, ?_, rfl⟩
                first
                | exact .inl ⟨by unfold Bad4; omega, rfl⟩
                | exact .inr (.inl ⟨by unfold Bad4; omega, by unfold Bad1; omega, rfl⟩)
                | exact .inr (.inr (.inl ⟨by unfold Bad4; omega, by unfold Bad1; omega, (bad5_any n).1 hc2, rfl⟩))
                | exact .inr (.inr (.inr ⟨by unfold Bad4; omega, by unfold Bad1; omega, fun h => (by rw [(bad5_any n).2 h] at hc2; cases hc2), rfl⟩))
              · try simp only [cnd] at hc2
                refine WX.skip ?_
                refine Fin.block_normal ?_
                refine Fin.then_normal ?_
                refine WX.seq ?_
                refine WX.region rfl ?_
                refine WXL.assign Met.none rfl ?_
                refine WXL.nil ?_
                refine Fin.then_normal ?_
                refine WX.ret ?_
                refine Fin.result (O' := O) (.inr rfl) rfl rfl drop_ ⟨_, rfl, ?_, rfl⟩
                first
                | exact .inl ⟨by unfold Bad4; omega, rfl⟩
                | exact .inr (.inl ⟨by unfold Bad4; omega, by unfold Bad1; omega, rfl⟩)
                | exact .inr (.inr (.inl ⟨by unfold Bad4; omega, by unfold Bad1; omega, (bad5_any n).1 hc2, rfl⟩))
                | exact .inr (.inr (.inr ⟨by unfold Bad4; omega, by unfold Bad1; omega, fun h => (by rw [(bad5_any n).2 h] at hc2; cases hc2), rfl⟩))

end Go.Proofs.Ytjmklialkjncaaa.Eng

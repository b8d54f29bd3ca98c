/- What crosses a set; checks; the reference's cut; flows made from numbers: walked. Own work; no condition. | Contracts of calls whose order is open. Own work; no condition. | The law FlowCuts, walked. Own work; no condition. | Flows and cuts: duality, in plain lists. Own work; no condition. | The law FlowMore, walked. Own work; no condition. | The law FlowProofs, walked. Own work; no condition. | What leaves a node; the small functions of the paths, walked. Own work; no condition. -/
import Derived.Test.YtjmklialkjncaaaFlowWaysM1
import Derived.Test.YtjmklialkjncaaaFlowWaysM2
import Derived.Test.YtjmklialkjncaaaFlowWaysM3
import Derived.Test.YtjmklialkjncaaaFlowWaysM4
set_option linter.unusedVariables false
set_option linter.unusedSimpArgs false
namespace Go.Proofs.Ytjmklialkjncaaa.Eng

/-- What an edge lets cross a set. -/
def crosses (n : Net4) (s : List Bool) (i : Nat) : Int :=
  if nth s (nth n.edges i).a.toNat = true ∧ nth s (nth n.edges i).b.toNat = false then (nth n.edges i).cap
  else if nth s (nth n.edges i).b.toNat = true ∧ nth s (nth n.edges i).a.toNat = false then (nth n.edges i).back else 0

def acrossTo (n : Net4) (s : List Bool) (k : Nat) : Int := sumTo (crosses n s) k
def across (n : Net4) (s : List Bool) : Int := acrossTo n s n.edges.length

theorem acrossTo_succ (n : Net4) (s : List Bool) (k : Nat) : acrossTo n s (k + 1) = acrossTo n s k + crosses n s k := rfl

theorem crosses_in {n : Net4} (hn : Sound n) (s : List Bool) {i : Nat} (hi : i < n.edges.length) : 0 ≤ crosses n s i ∧ crosses n s i ≤ 1099511627776 := by
  have := hn.at hi
  unfold crosses
  split
  · omega
  · split <;> omega

theorem acrossTo_in {n : Net4} (hn : Sound n) (s : List Bool) : ∀ {k : Nat}, k ≤ n.edges.length → 0 ≤ acrossTo n s k ∧ acrossTo n s k ≤ k * 1099511627776
  | 0, _ => ⟨Int.le_refl _, by show (0 : Int) ≤ _; omega⟩
  | k + 1, h => by
    have h1 := acrossTo_in hn s (k := k) (by omega)
    have h2 := crosses_in hn s (i := k) (by omega)
    rw [acrossTo_succ]
    omega

theorem crosses1 {n : Net4} {s : List Bool} {i : Nat} (h1 : nth s (nth n.edges i).a.toNat = true) (h2 : nth s (nth n.edges i).b.toNat = false) : crosses n s i = (nth n.edges i).cap := if_pos ⟨h1, h2⟩
theorem crosses2 {n : Net4} {s : List Bool} {i : Nat} (h1 : nth s (nth n.edges i).b.toNat = true) (h2 : nth s (nth n.edges i).a.toNat = false) : crosses n s i = (nth n.edges i).back := by
  unfold crosses
  rw [if_neg (fun q => by rw [q.1] at h2; cases h2), if_pos ⟨h1, h2⟩]
theorem crosses0 {n : Net4} {s : List Bool} {i : Nat} (h : nth s (nth n.edges i).a.toNat = nth s (nth n.edges i).b.toNat) : crosses n s i = 0 := by
  unfold crosses
  rw [if_neg (fun q => by rw [q.1, q.2] at h; cases h), if_neg (fun q => by rw [q.1, q.2] at h; cases h)]

theorem refAcross_ok (O : Objs) (n : Net4) (s : List Bool) (a sa : Option Addr) (c cs : Nat) (hn : Sound n) (hl : Edges O n a c) (hs : Src O 1 (.slice sa s.length cs) s.length (s.map Bl)) (hsl : (s.length : Int) = n.nodes) :
    Spec Try.prog false 29 #[netV n a c, .slice sa s.length cs] O fun u O' => u = I (across n s) ∧ O' = O := by
  have hlen := hn.len
  refine Spec.enter (args := [_, _]) (m := 55) Try.func29 rfl rfl (by decide +kernel) fun h0 => ?_
  refine WX.seq ?_
  refine WX.region rfl ?_
  refine WXL.box (c := [_, _, _, _]) Met.none rfl rfl rfl (fun b2 => ?_)
  refine WXL.assign Met.none rfl ?_
  refine WXL.nil ?_
  refine Fin.then_normal ?_
  refine WX.seq ?_
  refine WX.region rfl ?_
  refine WXL.assign Met.none rfl ?_
  refine WXL.nil ?_
  refine Fin.then_normal ?_
  refine WX.seq ?_
  refine WX.seq ?_
  refine WX.region rfl ?_
  refine WXL.assign Met.none rfl ?_
  refine WXL.nil ?_
  refine Fin.then_normal ?_
  refine WX.block ?_
  refine WX.loop (fun k : Nat => [(1, .slice sa s.length cs), (2, Ptr b2 0), (5, I (acrossTo n s k)), (6, I (k : Int))]) (fun _ => (b2, ⟨0, false, [I n.nodes, I n.source, I n.sink, .slice a n.edges.length c]⟩) :: O) (fun k => k ≤ n.edges.length) (fun k => n.edges.length - k) 0 (Nat.zero_le _) (fun s hs => hs.tl [0] 1) (fun k hk => ?_)
  have hb := acrossTo_in hn s hk
  refine WX.seq ?_
  refine WX.seq ?_
  refine WX.region rfl ?_
  refine WXL.move Met.none rfl ?_
  refine WXL.fieldAddr (off' := 3) Met.none rfl Try.underlying25 rfl sz23 rfl ?_
  first | refine WXL.ld Met.none rfl agg23 ?_ | refine WXL.ldS Met.none rfl agg23 ?_
  refine WXL.len Met.none rfl Try.underlying23 ?_
  refine WXL.bin Met.none rfl rfl rfl ?_
  refine WXL.nil ?_
  refine Fin.then_normal ?_
  refine WX.cond rfl (fun hc0 => ?_) (fun hc0 => ?_)
  · try simp only [cnd] at hc0
    refine WX.skip ?_
    refine Fin.then_normal ?_
    refine WX.seq ?_
    refine WX.block ?_
    refine WX.seq ?_
    have he := hn.at (i := k) (by omega)
    have hb2 := acrossTo_in hn s (k := k + 1) (by omega)
    have hla : (nth n.edges k).a.toNat < s.length := by omega
    have hlb : (nth n.edges k).b.toNat < s.length := by omega
    refine WX.region rfl ?_
    refine WXL.fieldAddr (off' := 3) Met.none rfl Try.underlying25 rfl sz23 rfl ?_
    first | refine WXL.ld Met.none rfl agg23 ?_ | refine WXL.ldS Met.none rfl agg23 ?_
    refine WXL.move Met.none rfl ?_
    first | refine WXL.ix Met.none rfl rfl elem23 sz63 ?_ | refine WXL.ixS Met.none rfl rfl elem23 sz63 ?_
    first | refine WXL.ldN Met.none rfl agg63 sz63 ?_ | refine WXL.ldNS Met.none rfl agg63 sz63 ?_
    refine WXL.alloc (c := [_, _, _, _]) Met.none zero63 rfl (fun b7 => ?_)
    refine WXL.st (vs := [_, _, _, _]) (c' := [_, _, _, _]) Met.none rfl rfl rfl sz63 ?_
    refine WXL.nil ?_
    refine Fin.then_normal ?_
    refine WX.seq ?_
    refine WX.seq ?_
    refine WX.region rfl ?_
    refine WXL.move Met.none rfl ?_
    refine WXL.fieldAddr (off' := 0) Met.none rfl Try.underlying63 rfl sz3 rfl ?_
    first | refine WXL.ld Met.none rfl agg3 ?_ | refine WXL.ldS Met.none rfl agg3 ?_
    first | refine WXL.ix Met.none rfl rfl elem46 sz4 ?_ | refine WXL.ixS Met.none rfl rfl elem46 sz4 ?_
    first | refine WXL.ld Met.none rfl agg4 ?_ (hv := (cell_map Bl s (nth n.edges k).a.toNat hla)) | refine WXL.ldS Met.none rfl agg4 ?_ (hv := (cell_map Bl s (nth n.edges k).a.toNat hla))
    refine WXL.move Met.none rfl ?_
    refine WXL.split (d := 25) rfl (fun hg25 => ?_) (fun hg25 => ?_)
    · try simp only [cnd] at hg25
      refine WXL.move (Met.some rfl rfl rfl) rfl ?_
      refine WXL.fieldAddr (off' := 1) (Met.some rfl rfl rfl) rfl Try.underlying63 rfl sz3 rfl ?_
      first | refine WXL.ld (Met.some rfl rfl rfl) rfl agg3 ?_ | refine WXL.ldS (Met.some rfl rfl rfl) rfl agg3 ?_
      first | refine WXL.ix (Met.some rfl rfl rfl) rfl rfl elem46 sz4 ?_ | refine WXL.ixS (Met.some rfl rfl rfl) rfl rfl elem46 sz4 ?_
      first | refine WXL.ld (Met.some rfl rfl rfl) rfl agg4 ?_ (hv := (cell_map Bl s (nth n.edges k).b.toNat hlb)) | refine WXL.ldS (Met.some rfl rfl rfl) rfl agg4 ?_ (hv := (cell_map Bl s (nth n.edges k).b.toNat hlb))
      refine WXL.not (Met.some rfl rfl rfl) rfl ?_
      refine WXL.pick_t Met.none rfl rfl ?_
      refine WXL.nil ?_
      refine Fin.then_normal ?_
      refine WX.cond rfl (fun hc1 => ?_) (fun hc1 => ?_)
      · try simp only [cnd] at hc1
        refine WX.region rfl ?_
        refine WXL.move Met.none rfl ?_
        refine WXL.fieldAddr (off' := 2) Met.none rfl Try.underlying63 rfl sz3 rfl ?_
        first | refine WXL.ld Met.none rfl agg3 ?_ | refine WXL.ldS Met.none rfl agg3 ?_
        refine WXL.bin Met.none rfl rfl bvA ?_
        refine WXL.assign Met.none rfl ?_
        refine WXL.nil ?_
        refine Fin.then_normal ?_
        refine WX.seq ?_
        refine WX.region rfl ?_
        refine WXL.move Met.none rfl ?_
        refine WXL.fieldAddr (off' := 1) Met.none rfl Try.underlying63 rfl sz3 rfl ?_
        first | refine WXL.ld Met.none rfl agg3 ?_ | refine WXL.ldS Met.none rfl agg3 ?_
        first | refine WXL.ix Met.none rfl rfl elem46 sz4 ?_ | refine WXL.ixS Met.none rfl rfl elem46 sz4 ?_
        first | refine WXL.ld Met.none rfl agg4 ?_ (hv := (cell_map Bl s (nth n.edges k).b.toNat hlb)) | refine WXL.ldS Met.none rfl agg4 ?_ (hv := (cell_map Bl s (nth n.edges k).b.toNat hlb))
        refine WXL.move Met.none rfl ?_
        refine WXL.split (d := 42) rfl (fun hg42 => ?_) (fun hg42 => ?_)
        · try simp only [cnd] at hg42
          refine WXL.move (Met.some rfl rfl rfl) rfl ?_
          refine WXL.fieldAddr (off' := 0) (Met.some rfl rfl rfl) rfl Try.underlying63 rfl sz3 rfl ?_
          first | refine WXL.ld (Met.some rfl rfl rfl) rfl agg3 ?_ | refine WXL.ldS (Met.some rfl rfl rfl) rfl agg3 ?_
          first | refine WXL.ix (Met.some rfl rfl rfl) rfl rfl elem46 sz4 ?_ | refine WXL.ixS (Met.some rfl rfl rfl) rfl rfl elem46 sz4 ?_
          first | refine WXL.ld (Met.some rfl rfl rfl) rfl agg4 ?_ (hv := (cell_map Bl s (nth n.edges k).a.toNat hla)) | refine WXL.ldS (Met.some rfl rfl rfl) rfl agg4 ?_ (hv := (cell_map Bl s (nth n.edges k).a.toNat hla))
          refine WXL.not (Met.some rfl rfl rfl) rfl ?_
          refine WXL.pick_t Met.none rfl rfl ?_
          refine WXL.nil ?_
          refine Fin.then_normal ?_
          refine WX.cond rfl (fun hc2 => ?_) (fun hc2 => ?_)
          · try simp only [cnd] at hc2
            first | exact absurd (hg42.symm.trans (by assumption)) (by decide) | skip
            refine WX.region rfl ?_
            refine WXL.move Met.none rfl ?_
            refine WXL.fieldAddr (off' := 3) Met.none rfl Try.underlying63 rfl sz3 rfl ?_
            first | refine WXL.ld Met.none rfl agg3 ?_ | refine WXL.ldS Met.none rfl agg3 ?_
            refine WXL.bin Met.none rfl rfl bvA ?_
            refine WXL.assign Met.none rfl ?_
            refine WXL.nil ?_
            refine Fin.block_normal ?_
            refine Fin.then_normal ?_
            refine WX.region rfl ?_
            refine WXL.move Met.none rfl ?_
            refine WXL.bin Met.none rfl rfl bvA ?_
            refine WXL.assign Met.none rfl ?_
            refine WXL.nil ?_
            refine Fin.loop_next (k + 1) (by omega) (by omega) ?_
            rw [acrossTo_succ]
            first
            | exact absurd (Eq.trans (Eq.symm (show nth s (nth n.edges k).a.toNat = true from by assumption)) (show nth s (nth n.edges k).a.toNat = false from by assumption)) (by decide)
            | exact absurd (Eq.trans (Eq.symm (show nth s (nth n.edges k).b.toNat = true from by assumption)) (show nth s (nth n.edges k).b.toNat = false from by assumption)) (by decide)
            | (rw [crosses1 (by assumption) (by assumption)]; exact (fun s hs => hs.tl [1] 2))
            | (rw [crosses2 (by assumption) (by assumption)]; exact (fun s hs => hs.tl [1] 2))
            | (rw [crosses0 (Eq.trans (b := true) (by assumption) (Eq.symm (by assumption))), Int.add_zero]; exact (fun s hs => hs.tl [1] 2))
            | (rw [crosses0 (Eq.trans (b := false) (by assumption) (Eq.symm (by assumption))), Int.add_zero]; exact (fun s hs => hs.tl [1] 2))
            | (exfalso; simp_all)
          · try simp only [cnd] at hc2
            refine WX.skip ?_
            refine Fin.block_normal ?_
            refine Fin.then_normal ?_
            refine WX.region rfl ?_
            refine WXL.move Met.none rfl ?_
            refine WXL.bin Met.none rfl rfl bvA ?_
            refine WXL.assign Met.none rfl ?_
            refine WXL.nil ?_
            refine Fin.loop_next (k + 1) (by omega) (by omega) ?_
            rw [acrossTo_succ]
            first
            | exact absurd (Eq.trans (Eq.symm (show nth s (nth n.edges k).a.toNat = true from by assumption)) (show nth s (nth n.edges k).a.toNat = false from by assumption)) (by decide)
            | exact absurd (Eq.trans (Eq.symm (show nth s (nth n.edges k).b.toNat = true from by assumption)) (show nth s (nth n.edges k).b.toNat = false from by assumption)) (by decide)
            | (rw [crosses1 (by assumption) (by assumption)]; exact (fun s hs => hs.tl [1] 2))
            | (rw [crosses2 (by assumption) (by assumption)]; exact (fun s hs => hs.tl [1] 2))
            | (rw [crosses0 (Eq.trans (b := true) (by assumption) (Eq.symm (by assumption))), Int.add_zero]; exact (fun s hs => hs.tl [1] 2))
            | (rw [crosses0 (Eq.trans (b := false) (by assumption) (Eq.symm (by assumption))), Int.add_zero]; exact (fun s hs => hs.tl [1] 2))
            | (exfalso; simp_all)
        · try simp only [cnd] at hg42
          refine WXL.miss (j := 5) (d := 42) rfl rfl rfl ?_
          refine WXL.miss (j := 5) (d := 42) rfl rfl rfl ?_
          refine WXL.miss (j := 5) (d := 42) rfl rfl rfl ?_
          refine WXL.miss (j := 5) (d := 42) rfl rfl rfl ?_
          refine WXL.miss (j := 5) (d := 42) rfl rfl rfl ?_
          refine WXL.miss (j := 5) (d := 42) rfl rfl rfl ?_
          refine WXL.pick_f Met.none rfl rfl ?_
          refine WXL.nil ?_
          refine Fin.then_normal ?_
          refine WX.cond rfl (fun hc2 => nomatch hc2) (fun hc2 => ?_)
          refine WX.skip ?_
          refine Fin.block_normal ?_
          refine Fin.then_normal ?_
          refine WX.region rfl ?_
          refine WXL.move Met.none rfl ?_
          refine WXL.bin Met.none rfl rfl bvA ?_
          refine WXL.assign Met.none rfl ?_
          refine WXL.nil ?_
          refine Fin.loop_next (k + 1) (by omega) (by omega) ?_
          rw [acrossTo_succ]
          first
          | exact absurd (Eq.trans (Eq.symm (show nth s (nth n.edges k).a.toNat = true from by assumption)) (show nth s (nth n.edges k).a.toNat = false from by assumption)) (by decide)
          | exact absurd (Eq.trans (Eq.symm (show nth s (nth n.edges k).b.toNat = true from by assumption)) (show nth s (nth n.edges k).b.toNat = false from by assumption)) (by decide)
          | (rw [crosses1 (by assumption) (by assumption)]; exact (fun s hs => hs.tl [1] 2))
          | (rw [crosses2 (by assumption) (by assumption)]; exact (fun s hs => hs.tl [1] 2))
          | (rw [crosses0 (Eq.trans (b := true) (by assumption) (Eq.symm (by assumption))), Int.add_zero]; exact (fun s hs => hs.tl [1] 2))
          | (rw [crosses0 (Eq.trans (b := false) (by assumption) (Eq.symm (by assumption))), Int.add_zero]; exact (fun s hs => hs.tl [1] 2))
          | (exfalso; simp_all)
      · try simp only [cnd] at hc1
        refine WX.skip ?_
        refine Fin.then_normal ?_
        refine WX.seq ?_
        refine WX.region rfl ?_
        refine WXL.move Met.none rfl ?_
        refine WXL.fieldAddr (off' := 1) Met.none rfl Try.underlying63 rfl sz3 rfl ?_
        first | refine WXL.ld Met.none rfl agg3 ?_ | refine WXL.ldS Met.none rfl agg3 ?_
        first | refine WXL.ix Met.none rfl rfl elem46 sz4 ?_ | refine WXL.ixS Met.none rfl rfl elem46 sz4 ?_
        first | refine WXL.ld Met.none rfl agg4 ?_ (hv := (cell_map Bl s (nth n.edges k).b.toNat hlb)) | refine WXL.ldS Met.none rfl agg4 ?_ (hv := (cell_map Bl s (nth n.edges k).b.toNat hlb))
        refine WXL.move Met.none rfl ?_
        refine WXL.split (d := 42) rfl (fun hg42 => ?_) (fun hg42 => ?_)
        · try simp only [cnd] at hg42
          refine WXL.move (Met.some rfl rfl rfl) rfl ?_
          refine WXL.fieldAddr (off' := 0) (Met.some rfl rfl rfl) rfl Try.underlying63 rfl sz3 rfl ?_
          first | refine WXL.ld (Met.some rfl rfl rfl) rfl agg3 ?_ | refine WXL.ldS (Met.some rfl rfl rfl) rfl agg3 ?_
          first | refine WXL.ix (Met.some rfl rfl rfl) rfl rfl elem46 sz4 ?_ | refine WXL.ixS (Met.some rfl rfl rfl) rfl rfl elem46 sz4 ?_
          first | refine WXL.ld (Met.some rfl rfl rfl) rfl agg4 ?_ (hv := (cell_map Bl s (nth n.edges k).a.toNat hla)) | refine WXL.ldS (Met.some rfl rfl rfl) rfl agg4 ?_ (hv := (cell_map Bl s (nth n.edges k).a.toNat hla))
          refine WXL.not (Met.some rfl rfl rfl) rfl ?_
          refine WXL.pick_t Met.none rfl rfl ?_
          refine WXL.nil ?_
          refine Fin.then_normal ?_
          refine WX.cond rfl (fun hc2 => ?_) (fun hc2 => ?_)
          · try simp only [cnd] at hc2
            first | exact absurd (hg42.symm.trans (by assumption)) (by decide) | skip
            refine WX.region rfl ?_
            refine WXL.move Met.none rfl ?_
            refine WXL.fieldAddr (off' := 3) Met.none rfl Try.underlying63 rfl sz3 rfl ?_
            first | refine WXL.ld Met.none rfl agg3 ?_ | refine WXL.ldS Met.none rfl agg3 ?_
            refine WXL.bin Met.none rfl rfl bvA ?_
            refine WXL.assign Met.none rfl ?_
            refine WXL.nil ?_
            refine Fin.block_normal ?_
            refine Fin.then_normal ?_
            refine WX.region rfl ?_
            refine WXL.move Met.none rfl ?_
            refine WXL.bin Met.none rfl rfl bvA ?_
            refine WXL.assign Met.none rfl ?_
            refine WXL.nil ?_
            refine Fin.loop_next (k + 1) (by omega) (by omega) ?_
            rw [acrossTo_succ]
            first
            | exact absurd (Eq.trans (Eq.symm (show nth s (nth n.edges k).a.toNat = true from by assumption)) (show nth s (nth n.edges k).a.toNat = false from by assumption)) (by decide)
            | exact absurd (Eq.trans (Eq.symm (show nth s (nth n.edges k).b.toNat = true from by assumption)) (show nth s (nth n.edges k).b.toNat = false from by assumption)) (by decide)
            | (rw [crosses1 (by assumption) (by assumption)]; exact (fun s hs => hs.tl [1] 2))
            | (rw [crosses2 (by assumption) (by assumption)]; exact (fun s hs => hs.tl [1] 2))
            | (rw [crosses0 (Eq.trans (b := true) (by assumption) (Eq.symm (by assumption))), Int.add_zero]; exact (fun s hs => hs.tl [1] 2))
            | (rw [crosses0 (Eq.trans (b := false) (by assumption) (Eq.symm (by assumption))), Int.add_zero]; exact (fun s hs => hs.tl [1] 2))
            | (exfalso; simp_all)
          · try simp only [cnd] at hc2
            refine WX.skip ?_
            refine Fin.block_normal ?_
            refine Fin.then_normal ?_
            refine WX.region rfl ?_
            refine WXL.move Met.none rfl ?_
            refine WXL.bin Met.none rfl rfl bvA ?_
            refine WXL.assign Met.none rfl ?_
            refine WXL.nil ?_
            refine Fin.loop_next (k + 1) (by omega) (by omega) ?_
            rw [acrossTo_succ]
            first
            | exact absurd (Eq.trans (Eq.symm (show nth s (nth n.edges k).a.toNat = true from by assumption)) (show nth s (nth n.edges k).a.toNat = false from by assumption)) (by decide)
            | exact absurd (Eq.trans (Eq.symm (show nth s (nth n.edges k).b.toNat = true from by assumption)) (show nth s (nth n.edges k).b.toNat = false from by assumption)) (by decide)
            | (rw [crosses1 (by assumption) (by assumption)]; exact (fun s hs => hs.tl [1] 2))
            | (rw [crosses2 (by assumption) (by assumption)]; exact (fun s hs => hs.tl [1] 2))
            | (rw [crosses0 (Eq.trans (b := true) (by assumption) (Eq.symm (by assumption))), Int.add_zero]; exact (fun s hs => hs.tl [1] 2))
            | (rw [crosses0 (Eq.trans (b := false) (by assumption) (Eq.symm (by assumption))), Int.add_zero]; exact (fun s hs => hs.tl [1] 2))
            | (exfalso; simp_all)
        · try simp only [cnd] at hg42
          refine WXL.miss (j := 5) (d := 42) rfl rfl rfl ?_
          refine WXL.miss (j := 5) (d := 42) rfl rfl rfl ?_
          refine WXL.miss (j := 5) (d := 42) rfl rfl rfl ?_
          refine WXL.miss (j := 5) (d := 42) rfl rfl rfl ?_
          refine WXL.miss (j := 5) (d := 42) rfl rfl rfl ?_
          refine WXL.miss (j := 5) (d := 42) rfl rfl rfl ?_
          refine WXL.pick_f Met.none rfl rfl ?_
          refine WXL.nil ?_
          refine Fin.then_normal ?_
          refine WX.cond rfl (fun hc2 => nomatch hc2) (fun hc2 => ?_)
          refine WX.skip ?_
          refine Fin.block_normal ?_
          refine Fin.then_normal ?_
          refine WX.region rfl ?_
          refine WXL.move Met.none rfl ?_
          refine WXL.bin Met.none rfl rfl bvA ?_
          refine WXL.assign Met.none rfl ?_
          refine WXL.nil ?_
          refine Fin.loop_next (k + 1) (by omega) (by omega) ?_
          rw [acrossTo_succ]
          first
          | exact absurd (Eq.trans (Eq.symm (show nth s (nth n.edges k).a.toNat = true from by assumption)) (show nth s (nth n.edges k).a.toNat = false from by assumption)) (by decide)
          | exact absurd (Eq.trans (Eq.symm (show nth s (nth n.edges k).b.toNat = true from by assumption)) (show nth s (nth n.edges k).b.toNat = false from by assumption)) (by decide)
          | (rw [crosses1 (by assumption) (by assumption)]; exact (fun s hs => hs.tl [1] 2))
          | (rw [crosses2 (by assumption) (by assumption)]; exact (fun s hs => hs.tl [1] 2))
          | (rw [crosses0 (Eq.trans (b := true) (by assumption) (Eq.symm (by assumption))), Int.add_zero]; exact (fun s hs => hs.tl [1] 2))
          | (rw [crosses0 (Eq.trans (b := false) (by assumption) (Eq.symm (by assumption))), Int.add_zero]; exact (fun s hs => hs.tl [1] 2))
          | (exfalso; simp_all)
    · try simp only [cnd] at hg25
      refine WXL.miss (j := 5) (d := 25) rfl rfl rfl ?_
      refine WXL.miss (j := 5) (d := 25) rfl rfl rfl ?_
      refine WXL.miss (j := 5) (d := 25) rfl rfl rfl ?_
      refine WXL.miss (j := 5) (d := 25) rfl rfl rfl ?_
      refine WXL.miss (j := 5) (d := 25) rfl rfl rfl ?_
      refine WXL.miss (j := 5) (d := 25) rfl rfl rfl ?_
      refine WXL.pick_f Met.none rfl rfl ?_
      refine WXL.nil ?_
      refine Fin.then_normal ?_
      refine WX.cond rfl (fun hc1 => nomatch hc1) (fun hc1 => ?_)
      refine WX.skip ?_
      refine Fin.then_normal ?_
      refine WX.seq ?_
      refine WX.region rfl ?_
      refine WXL.move Met.none rfl ?_
      refine WXL.fieldAddr (off' := 1) Met.none rfl Try.underlying63 rfl sz3 rfl ?_
      first | refine WXL.ld Met.none rfl agg3 ?_ | refine WXL.ldS Met.none rfl agg3 ?_
      first | refine WXL.ix Met.none rfl rfl elem46 sz4 ?_ | refine WXL.ixS Met.none rfl rfl elem46 sz4 ?_
      first | refine WXL.ld Met.none rfl agg4 ?_ (hv := (cell_map Bl s (nth n.edges k).b.toNat hlb)) | refine WXL.ldS Met.none rfl agg4 ?_ (hv := (cell_map Bl s (nth n.edges k).b.toNat hlb))
      refine WXL.move Met.none rfl ?_
      refine WXL.split (d := 42) rfl (fun hg42 => ?_) (fun hg42 => ?_)
      · try simp only [cnd] at hg42
        refine WXL.move (Met.some rfl rfl rfl) rfl ?_
        refine WXL.fieldAddr (off' := 0) (Met.some rfl rfl rfl) rfl Try.underlying63 rfl sz3 rfl ?_
        first | refine WXL.ld (Met.some rfl rfl rfl) rfl agg3 ?_ | refine WXL.ldS (Met.some rfl rfl rfl) rfl agg3 ?_
        first | refine WXL.ix (Met.some rfl rfl rfl) rfl rfl elem46 sz4 ?_ | refine WXL.ixS (Met.some rfl rfl rfl) rfl rfl elem46 sz4 ?_
        first | refine WXL.ld (Met.some rfl rfl rfl) rfl agg4 ?_ (hv := (cell_map Bl s (nth n.edges k).a.toNat hla)) | refine WXL.ldS (Met.some rfl rfl rfl) rfl agg4 ?_ (hv := (cell_map Bl s (nth n.edges k).a.toNat hla))
        refine WXL.not (Met.some rfl rfl rfl) rfl ?_
        refine WXL.pick_t Met.none rfl rfl ?_
        refine WXL.nil ?_
        refine Fin.then_normal ?_
        refine WX.cond rfl (fun hc2 => ?_) (fun hc2 => ?_)
        · try simp only [cnd] at hc2
          first | exact absurd (hg42.symm.trans (by assumption)) (by decide) | skip
          refine WX.region rfl ?_
          refine WXL.move Met.none rfl ?_
          refine WXL.fieldAddr (off' := 3) Met.none rfl Try.underlying63 rfl sz3 rfl ?_
          first | refine WXL.ld Met.none rfl agg3 ?_ | refine WXL.ldS Met.none rfl agg3 ?_
          refine WXL.bin Met.none rfl rfl bvA ?_
          refine WXL.assign Met.none rfl ?_
          refine WXL.nil ?_
          refine Fin.block_normal ?_
          refine Fin.then_normal ?_
          refine WX.region rfl ?_
          refine WXL.move Met.none rfl ?_
          refine WXL.bin Met.none rfl rfl bvA ?_
          refine WXL.assign Met.none rfl ?_
          refine WXL.nil ?_
          refine Fin.loop_next (k + 1) (by omega) (by omega) ?_
          rw [acrossTo_succ]
          first
          | exact absurd (Eq.trans (Eq.symm (show nth s (nth n.edges k).a.toNat = true from by assumption)) (show nth s (nth n.edges k).a.toNat = false from by assumption)) (by decide)
          | exact absurd (Eq.trans (Eq.symm (show nth s (nth n.edges k).b.toNat = true from by assumption)) (show nth s (nth n.edges k).b.toNat = false from by assumption)) (by decide)
          | (rw [crosses1 (by assumption) (by assumption)]; exact (fun s hs => hs.tl [1] 2))
          | (rw [crosses2 (by assumption) (by assumption)]; exact (fun s hs => hs.tl [1] 2))
          | (rw [crosses0 (Eq.trans (b := true) (by assumption) (Eq.symm (by assumption))), Int.add_zero]; exact (fun s hs => hs.tl [1] 2))
          | (rw [crosses0 (Eq.trans (b := false) (by assumption) (Eq.symm (by assumption))), Int.add_zero]; exact (fun s hs => hs.tl [1] 2))
          | (exfalso; simp_all)
        · try simp only [cnd] at hc2
          refine WX.skip ?_
          refine Fin.block_normal ?_
          refine Fin.then_normal ?_
          refine WX.region rfl ?_
          refine WXL.move Met.none rfl ?_
          refine WXL.bin Met.none rfl rfl bvA ?_
          refine WXL.assign Met.none rfl ?_
          refine WXL.nil ?_
          refine Fin.loop_next (k + 1) (by omega) (by omega) ?_
          rw [acrossTo_succ]
          first
          | exact absurd (Eq.trans (Eq.symm (show nth s (nth n.edges k).a.toNat = true from by assumption)) (show nth s (nth n.edges k).a.toNat = false from by assumption)) (by decide)
          | exact absurd (Eq.trans (Eq.symm (show nth s (nth n.edges k).b.toNat = true from by assumption)) (show nth s (nth n.edges k).b.toNat = false from by assumption)) (by decide)
          | (rw [crosses1 (by assumption) (by assumption)]; exact (fun s hs => hs.tl [1] 2))
          | (rw [crosses2 (by assumption) (by assumption)]; exact (fun s hs => hs.tl [1] 2))
          | (rw [crosses0 (Eq.trans (b := true) (by assumption) (Eq.symm (by assumption))), Int.add_zero]; exact (fun s hs => hs.tl [1] 2))
          | (rw [crosses0 (Eq.trans (b := false) (by assumption) (Eq.symm (by assumption))), Int.add_zero]; exact (fun s hs => hs.tl [1] 2))
          | (exfalso; simp_all)
      · try simp only [cnd] at hg42
        refine WXL.miss (j := 5) (d := 42) rfl rfl rfl ?_
        refine WXL.miss (j := 5) (d := 42) rfl rfl rfl ?_
        refine WXL.miss (j := 5) (d := 42) rfl rfl rfl ?_
        refine WXL.miss (j := 5) (d := 42) rfl rfl rfl ?_
        refine WXL.miss (j := 5) (d := 42) rfl rfl rfl ?_
        refine WXL.miss (j := 5) (d := 42) rfl rfl rfl ?_
        refine WXL.pick_f Met.none rfl rfl ?_
        refine WXL.nil ?_
        refine Fin.then_normal ?_
        refine WX.cond rfl (fun hc2 => nomatch hc2) (fun hc2 => ?_)
        refine WX.skip ?_
        refine Fin.block_normal ?_
        refine Fin.then_normal ?_
        refine WX.region rfl ?_
        refine WXL.move Met.none rfl ?_
        refine WXL.bin Met.none rfl rfl bvA ?_
        refine WXL.assign Met.none rfl ?_
        refine WXL.nil ?_
        refine Fin.loop_next (k + 1) (by omega) (by omega) ?_
        rw [acrossTo_succ]
        first
        | exact absurd (Eq.trans (Eq.symm (show nth s (nth n.edges k).a.toNat = true from by assumption)) (show nth s (nth n.edges k).a.toNat = false from by assumption)) (by decide)
        | exact absurd (Eq.trans (Eq.symm (show nth s (nth n.edges k).b.toNat = true from by assumption)) (show nth s (nth n.edges k).b.toNat = false from by assumption)) (by decide)
        | (rw [crosses1 (by assumption) (by assumption)]; exact (fun s hs => hs.tl [1] 2))
        | (rw [crosses2 (by assumption) (by assumption)]; exact (fun s hs => hs.tl [1] 2))
        | (rw [crosses0 (Eq.trans (b := true) (by assumption) (Eq.symm (by assumption))), Int.add_zero]; exact (fun s hs => hs.tl [1] 2))
        | (rw [crosses0 (Eq.trans (b := false) (by assumption) (Eq.symm (by assumption))), Int.add_zero]; exact (fun s hs => hs.tl [1] 2))
        | (exfalso; simp_all)
  · try simp only [cnd] at hc0
    refine WX.exit ?_
    refine Fin.then_exit ?_
    refine Fin.loop_exit ?_
    refine Fin.block_hit rfl ?_
    refine Fin.then_normal ?_
    refine WX.seq ?_
    refine WX.region rfl ?_
    refine WXL.move Met.none rfl ?_
    refine WXL.assign Met.none rfl ?_
    refine WXL.nil ?_
    refine Fin.then_normal ?_
    refine WX.ret ?_
    have hk2 : k = n.edges.length := by omega
    subst hk2
    exact Fin.result (O' := O) (.inr rfl) rfl rfl drop_ ⟨rfl, rfl⟩

def AcrR (n : Net4) (s : List Bool) (x e : Int) : Prop := ∃ k, Wrong n k ∧ (k ≠ 0 → x = 0 ∧ e = k) ∧ (k = 0 → (s.length : Int) ≠ n.nodes → x = 0 ∧ e = 1) ∧ (k = 0 → (s.length : Int) = n.nodes → x = across n s ∧ e = 0)

theorem across_ok (O : Objs) (n : Net4) (s : List Bool) (a sa : Option Addr) (c cs : Nat) (hlen : n.edges.length ≤ 1000000) (hl : Edges O n a c) (hs : Src O 1 (.slice sa s.length cs) s.length (s.map Bl)) :
    Spec Try.prog false 28 #[netV n a c, .slice sa s.length cs] O fun u O' => ∃ x e, u = .tuple #[I x, I e] ∧ AcrR n s x e ∧ O' = O := by
  refine Spec.enter (args := [_, _]) (m := 65) Try.func28 rfl rfl (by decide +kernel) fun h0 => ?_
  refine WX.seq ?_
  refine WX.region rfl ?_
  refine WXL.box (c := [_, _, _, _]) Met.none rfl rfl rfl (fun b2 => ?_)
  refine WXL.assign Met.none rfl ?_
  refine WXL.assign Met.none rfl ?_
  refine WXL.nil ?_
  refine Fin.then_normal ?_
  refine WX.seq ?_
  refine WX.seq ?_
  refine WX.region rfl ?_
  refine WXL.ldN (vs := [_, _, _, _]) Met.none rfl agg36 sz36 ?_
  refine WXL.cl (O1 := _) Met.none rfl (fnOk_of Try.func34 (by decide +kernel)) rfl (fun _ h => h) (valid_ok _ n a c src_ hlen) (fun v O' hp => ?_)
  obtain ⟨k0, rfl, hw, rfl⟩ := hp
  refine WXL.assign Met.none rfl ?_
  refine WXL.nil ?_
  refine Fin.then_normal ?_
  refine WX.seq ?_
  refine WX.region rfl ?_
  refine WXL.move Met.none rfl ?_
  refine WXL.bin Met.none rfl rfl rfl ?_
  refine WXL.nil ?_
  refine Fin.then_normal ?_
  refine WX.cond rfl (fun hc0 => ?_) (fun hc0 => ?_)
  · try simp only [cnd] at hc0
    refine WX.seq ?_
    refine WX.region rfl ?_
    refine WXL.move Met.none rfl ?_
    refine WXL.assign Met.none rfl ?_
    refine WXL.assign Met.none rfl ?_
    refine WXL.nil ?_
    refine Fin.then_normal ?_
    refine WX.ret ?_
    refine Fin.then_ret ?_
    first
    | exact Fin.result (O' := O) (.inr rfl) rfl rfl drop_ ⟨_, _, rfl, ⟨k0, hw, fun _ => ⟨rfl, rfl⟩, fun q => absurd q hc0, fun q => absurd q hc0⟩, rfl⟩
    | exact Fin.result (O' := O) (.inr rfl) rfl rfl drop_ ⟨_, _, rfl, ⟨0, hw, fun q => absurd rfl q, fun _ _ => ⟨rfl, rfl⟩, fun _ q => absurd q hc1⟩, rfl⟩
    | (have hk2 : k = n.edges.length := by omega
       subst hk2
       exact Fin.result (O' := O) (.inr rfl) rfl rfl drop_ ⟨_, _, rfl, ⟨0, hw, fun q => absurd rfl q, fun _ q => absurd hc1 q, fun _ _ => ⟨rfl, rfl⟩⟩, rfl⟩)
  · try simp only [cnd] at hc0
    refine WX.skip ?_
    refine Fin.then_normal ?_
    refine WX.seq ?_
    refine WX.seq ?_
    have hk0 : k0 = 0 := by omega
    subst hk0
    have hn := hw.sound
    have hlen2 := hn.len
    refine WX.region rfl ?_
    refine WXL.move Met.none rfl ?_
    refine WXL.len Met.none rfl Try.underlying46 ?_
    refine WXL.fieldAddr (off' := 0) Met.none rfl Try.underlying36 rfl sz3 rfl ?_
    first | refine WXL.ld Met.none rfl agg3 ?_ | refine WXL.ldS Met.none rfl agg3 ?_
    refine WXL.bin Met.none rfl rfl rfl ?_
    refine WXL.nil ?_
    refine Fin.then_normal ?_
    refine WX.cond rfl (fun hc1 => ?_) (fun hc1 => ?_)
    · try simp only [cnd] at hc1
      refine WX.seq ?_
      refine WX.region rfl ?_
      refine WXL.assign Met.none rfl ?_
      refine WXL.assign Met.none rfl ?_
      refine WXL.nil ?_
      refine Fin.then_normal ?_
      refine WX.ret ?_
      refine Fin.then_ret ?_
      first
      | exact Fin.result (O' := O) (.inr rfl) rfl rfl drop_ ⟨_, _, rfl, ⟨k0, hw, fun _ => ⟨rfl, rfl⟩, fun q => absurd q hc0, fun q => absurd q hc0⟩, rfl⟩
      | exact Fin.result (O' := O) (.inr rfl) rfl rfl drop_ ⟨_, _, rfl, ⟨0, hw, fun q => absurd rfl q, fun _ _ => ⟨rfl, rfl⟩, fun _ q => absurd q hc1⟩, rfl⟩
      | (have hk2 : k = n.edges.length := by omega
         subst hk2
         exact Fin.result (O' := O) (.inr rfl) rfl rfl drop_ ⟨_, _, rfl, ⟨0, hw, fun q => absurd rfl q, fun _ q => absurd hc1 q, fun _ _ => ⟨rfl, rfl⟩⟩, rfl⟩)
    · try simp only [cnd] at hc1
      refine WX.skip ?_
      refine Fin.then_normal ?_
      refine WX.seq ?_
      refine WX.region rfl ?_
      refine WXL.assign Met.none rfl ?_
      refine WXL.nil ?_
      refine Fin.then_normal ?_
      refine WX.seq ?_
      refine WX.seq ?_
      refine WX.region rfl ?_
      refine WXL.fieldAddr (off' := 3) Met.none rfl Try.underlying36 rfl sz34 rfl ?_
      first | refine WXL.ld Met.none rfl agg34 ?_ | refine WXL.ldS Met.none rfl agg34 ?_
      refine WXL.len Met.none rfl Try.underlying34 ?_
      refine WXL.move Met.none rfl ?_
      refine WXL.nil ?_
      refine Fin.then_normal ?_
      refine WX.block ?_
      refine WX.loop (fun k : Nat => [(1, .slice sa s.length cs), (2, Ptr b2 0), (7, I (acrossTo n s k)), (21, .slice a n.edges.length c), (22, I (n.edges.length : Int)), (23, I (k : Int))]) (fun _ => (b2, ⟨0, false, [I n.nodes, I n.source, I n.sink, .slice a n.edges.length c]⟩) :: O) (fun k => k ≤ n.edges.length) (fun k => n.edges.length - k) 0 (Nat.zero_le _) (fun s hs => hs.tl [0] 1) (fun k hk => ?_)
      have hb := acrossTo_in hn s hk
      refine WX.seq ?_
      refine WX.region rfl ?_
      refine WXL.bin Met.none rfl rfl rfl ?_
      refine WXL.nil ?_
      refine Fin.then_normal ?_
      refine WX.seq ?_
      refine WX.cond rfl (fun hc2 => ?_) (fun hc2 => ?_)
      · try simp only [cnd] at hc2
        refine WX.skip ?_
        refine Fin.then_normal ?_
        refine WX.seq ?_
        refine WX.block ?_
        refine WX.seq ?_
        have he := hn.at (i := k) (by omega)
        have hb2 := acrossTo_in hn s (k := k + 1) (by omega)
        have hla : (nth n.edges k).a.toNat < s.length := by omega
        have hlb : (nth n.edges k).b.toNat < s.length := by omega
        refine WX.region rfl ?_
        first | refine WXL.ix Met.none rfl rfl elem34 sz44 ?_ | refine WXL.ixS Met.none rfl rfl elem34 sz44 ?_
        first | refine WXL.ldN Met.none rfl agg44 sz44 ?_ | refine WXL.ldNS Met.none rfl agg44 sz44 ?_
        refine WXL.alloc (c := [_, _, _, _]) Met.none zero44 rfl (fun b9 => ?_)
        refine WXL.st (vs := [_, _, _, _]) (c' := [_, _, _, _]) Met.none rfl rfl rfl sz44 ?_
        refine WXL.nil ?_
        refine Fin.then_normal ?_
        refine WX.block ?_
        refine WX.seq ?_
        refine WX.region rfl ?_
        refine WXL.move Met.none rfl ?_
        refine WXL.fieldAddr (off' := 0) Met.none rfl Try.underlying44 rfl sz3 rfl ?_
        first | refine WXL.ld Met.none rfl agg3 ?_ | refine WXL.ldS Met.none rfl agg3 ?_
        first | refine WXL.ix Met.none rfl rfl elem46 sz4 ?_ | refine WXL.ixS Met.none rfl rfl elem46 sz4 ?_
        first | refine WXL.ld Met.none rfl agg4 ?_ (hv := (cell_map Bl s (nth n.edges k).a.toNat hla)) | refine WXL.ldS Met.none rfl agg4 ?_ (hv := (cell_map Bl s (nth n.edges k).a.toNat hla))
        refine WXL.move Met.none rfl ?_
        refine WXL.split (d := 33) rfl (fun hg33 => ?_) (fun hg33 => ?_)
        · try simp only [cnd] at hg33
          refine WXL.move (Met.some rfl rfl rfl) rfl ?_
          refine WXL.fieldAddr (off' := 1) (Met.some rfl rfl rfl) rfl Try.underlying44 rfl sz3 rfl ?_
          first | refine WXL.ld (Met.some rfl rfl rfl) rfl agg3 ?_ | refine WXL.ldS (Met.some rfl rfl rfl) rfl agg3 ?_
          first | refine WXL.ix (Met.some rfl rfl rfl) rfl rfl elem46 sz4 ?_ | refine WXL.ixS (Met.some rfl rfl rfl) rfl rfl elem46 sz4 ?_
          first | refine WXL.ld (Met.some rfl rfl rfl) rfl agg4 ?_ (hv := (cell_map Bl s (nth n.edges k).b.toNat hlb)) | refine WXL.ldS (Met.some rfl rfl rfl) rfl agg4 ?_ (hv := (cell_map Bl s (nth n.edges k).b.toNat hlb))
          refine WXL.not (Met.some rfl rfl rfl) rfl ?_
          refine WXL.pick_t Met.none rfl rfl ?_
          refine WXL.assign Met.none rfl ?_
          refine WXL.nil ?_
          refine Fin.then_normal ?_
          refine WX.cond rfl (fun hc3 => ?_) (fun hc3 => ?_)
          · try simp only [cnd] at hc3
            refine WX.region rfl ?_
            refine WXL.move Met.none rfl ?_
            refine WXL.fieldAddr (off' := 2) Met.none rfl Try.underlying44 rfl sz3 rfl ?_
            first | refine WXL.ld Met.none rfl agg3 ?_ | refine WXL.ldS Met.none rfl agg3 ?_
            refine WXL.bin Met.none rfl rfl bvA ?_
            refine WXL.assign Met.none rfl ?_
            refine WXL.nil ?_
            refine Fin.block_normal ?_
            refine Fin.block_normal ?_
            refine Fin.then_normal ?_
            refine WX.region rfl ?_
            refine WXL.bin Met.none rfl rfl bvA ?_
            refine WXL.move Met.none rfl ?_
            refine WXL.nil ?_
            refine Fin.loop_next (k + 1) (by omega) (by omega) ?_
            rw [acrossTo_succ]
            first
            | exact absurd (Eq.trans (Eq.symm (show nth s (nth n.edges k).a.toNat = true from by assumption)) (show nth s (nth n.edges k).a.toNat = false from by assumption)) (by decide)
            | exact absurd (Eq.trans (Eq.symm (show nth s (nth n.edges k).b.toNat = true from by assumption)) (show nth s (nth n.edges k).b.toNat = false from by assumption)) (by decide)
            | (rw [crosses1 (by assumption) (by assumption)]; exact (fun s hs => hs.tl [1] 2))
            | (rw [crosses2 (by assumption) (by assumption)]; exact (fun s hs => hs.tl [1] 2))
            | (rw [crosses0 (Eq.trans (b := true) (by assumption) (Eq.symm (by assumption))), Int.add_zero]; exact (fun s hs => hs.tl [1] 2))
            | (rw [crosses0 (Eq.trans (b := false) (by assumption) (Eq.symm (by assumption))), Int.add_zero]; exact (fun s hs => hs.tl [1] 2))
            | (exfalso; simp_all)
          · try simp only [cnd] at hc3
            refine WX.seq ?_
            refine WX.region rfl ?_
            refine WXL.move Met.none rfl ?_
            refine WXL.fieldAddr (off' := 1) Met.none rfl Try.underlying44 rfl sz3 rfl ?_
            first | refine WXL.ld Met.none rfl agg3 ?_ | refine WXL.ldS Met.none rfl agg3 ?_
            first | refine WXL.ix Met.none rfl rfl elem46 sz4 ?_ | refine WXL.ixS Met.none rfl rfl elem46 sz4 ?_
            first | refine WXL.ld Met.none rfl agg4 ?_ (hv := (cell_map Bl s (nth n.edges k).b.toNat hlb)) | refine WXL.ldS Met.none rfl agg4 ?_ (hv := (cell_map Bl s (nth n.edges k).b.toNat hlb))
            refine WXL.move Met.none rfl ?_
            refine WXL.split (d := 51) rfl (fun hg51 => ?_) (fun hg51 => ?_)
            · try simp only [cnd] at hg51
              refine WXL.move (Met.some rfl rfl rfl) rfl ?_
              refine WXL.fieldAddr (off' := 0) (Met.some rfl rfl rfl) rfl Try.underlying44 rfl sz3 rfl ?_
              first | refine WXL.ld (Met.some rfl rfl rfl) rfl agg3 ?_ | refine WXL.ldS (Met.some rfl rfl rfl) rfl agg3 ?_
              first | refine WXL.ix (Met.some rfl rfl rfl) rfl rfl elem46 sz4 ?_ | refine WXL.ixS (Met.some rfl rfl rfl) rfl rfl elem46 sz4 ?_
              first | refine WXL.ld (Met.some rfl rfl rfl) rfl agg4 ?_ (hv := (cell_map Bl s (nth n.edges k).a.toNat hla)) | refine WXL.ldS (Met.some rfl rfl rfl) rfl agg4 ?_ (hv := (cell_map Bl s (nth n.edges k).a.toNat hla))
              refine WXL.not (Met.some rfl rfl rfl) rfl ?_
              refine WXL.pick_t Met.none rfl rfl ?_
              refine WXL.assign Met.none rfl ?_
              refine WXL.nil ?_
              refine Fin.then_normal ?_
              refine WX.cond rfl (fun hc4 => ?_) (fun hc4 => ?_)
              · try simp only [cnd] at hc4
                refine WX.region rfl ?_
                refine WXL.move Met.none rfl ?_
                refine WXL.fieldAddr (off' := 3) Met.none rfl Try.underlying44 rfl sz3 rfl ?_
                first | refine WXL.ld Met.none rfl agg3 ?_ | refine WXL.ldS Met.none rfl agg3 ?_
                refine WXL.bin Met.none rfl rfl bvA ?_
                refine WXL.assign Met.none rfl ?_
                refine WXL.nil ?_
                refine Fin.block_normal ?_
                refine Fin.block_normal ?_
                refine Fin.then_normal ?_
                refine WX.region rfl ?_
                refine WXL.bin Met.none rfl rfl bvA ?_
                refine WXL.move Met.none rfl ?_
                refine WXL.nil ?_
                refine Fin.loop_next (k + 1) (by omega) (by omega) ?_
                rw [acrossTo_succ]
                first
                | exact absurd (Eq.trans (Eq.symm (show nth s (nth n.edges k).a.toNat = true from by assumption)) (show nth s (nth n.edges k).a.toNat = false from by assumption)) (by decide)
                | exact absurd (Eq.trans (Eq.symm (show nth s (nth n.edges k).b.toNat = true from by assumption)) (show nth s (nth n.edges k).b.toNat = false from by assumption)) (by decide)
                | (rw [crosses1 (by assumption) (by assumption)]; exact (fun s hs => hs.tl [1] 2))
                | (rw [crosses2 (by assumption) (by assumption)]; exact (fun s hs => hs.tl [1] 2))
                | (rw [crosses0 (Eq.trans (b := true) (by assumption) (Eq.symm (by assumption))), Int.add_zero]; exact (fun s hs => hs.tl [1] 2))
                | (rw [crosses0 (Eq.trans (b := false) (by assumption) (Eq.symm (by assumption))), Int.add_zero]; exact (fun s hs => hs.tl [1] 2))
                | (exfalso; simp_all)
              · try simp only [cnd] at hc4
                refine WX.skip ?_
                refine Fin.block_normal ?_
                refine Fin.block_normal ?_
                refine Fin.then_normal ?_
                refine WX.region rfl ?_
                refine WXL.bin Met.none rfl rfl bvA ?_
                refine WXL.move Met.none rfl ?_
                refine WXL.nil ?_
                refine Fin.loop_next (k + 1) (by omega) (by omega) ?_
                rw [acrossTo_succ]
                first
                | exact absurd (Eq.trans (Eq.symm (show nth s (nth n.edges k).a.toNat = true from by assumption)) (show nth s (nth n.edges k).a.toNat = false from by assumption)) (by decide)
                | exact absurd (Eq.trans (Eq.symm (show nth s (nth n.edges k).b.toNat = true from by assumption)) (show nth s (nth n.edges k).b.toNat = false from by assumption)) (by decide)
                | (rw [crosses1 (by assumption) (by assumption)]; exact (fun s hs => hs.tl [1] 2))
                | (rw [crosses2 (by assumption) (by assumption)]; exact (fun s hs => hs.tl [1] 2))
                | (rw [crosses0 (Eq.trans (b := true) (by assumption) (Eq.symm (by assumption))), Int.add_zero]; exact (fun s hs => hs.tl [1] 2))
                | (rw [crosses0 (Eq.trans (b := false) (by assumption) (Eq.symm (by assumption))), Int.add_zero]; exact (fun s hs => hs.tl [1] 2))
                | (exfalso; simp_all)
            · try simp only [cnd] at hg51
              refine WXL.miss (j := 5) (d := 51) rfl rfl rfl ?_
              refine WXL.miss (j := 5) (d := 51) rfl rfl rfl ?_
              refine WXL.miss (j := 5) (d := 51) rfl rfl rfl ?_
              refine WXL.miss (j := 5) (d := 51) rfl rfl rfl ?_
              refine WXL.miss (j := 5) (d := 51) rfl rfl rfl ?_
              refine WXL.miss (j := 5) (d := 51) rfl rfl rfl ?_
              refine WXL.pick_f Met.none rfl rfl ?_
              refine WXL.assign Met.none rfl ?_
              refine WXL.nil ?_
              refine Fin.then_normal ?_
              refine WX.cond rfl (fun hc4 => nomatch hc4) (fun hc4 => ?_)
              refine WX.skip ?_
              refine Fin.block_normal ?_
              refine Fin.block_normal ?_
              refine Fin.then_normal ?_
              refine WX.region rfl ?_
              refine WXL.bin Met.none rfl rfl bvA ?_
              refine WXL.move Met.none rfl ?_
              refine WXL.nil ?_
              refine Fin.loop_next (k + 1) (by omega) (by omega) ?_
              rw [acrossTo_succ]
              first
              | exact absurd (Eq.trans (Eq.symm (show nth s (nth n.edges k).a.toNat = true from by assumption)) (show nth s (nth n.edges k).a.toNat = false from by assumption)) (by decide)
              | exact absurd (Eq.trans (Eq.symm (show nth s (nth n.edges k).b.toNat = true from by assumption)) (show nth s (nth n.edges k).b.toNat = false from by assumption)) (by decide)
              | (rw [crosses1 (by assumption) (by assumption)]; exact (fun s hs => hs.tl [1] 2))
              | (rw [crosses2 (by assumption) (by assumption)]; exact (fun s hs => hs.tl [1] 2))
              | (rw [crosses0 (Eq.trans (b := true) (by assumption) (Eq.symm (by assumption))), Int.add_zero]; exact (fun s hs => hs.tl [1] 2))
              | (rw [crosses0 (Eq.trans (b := false) (by assumption) (Eq.symm (by assumption))), Int.add_zero]; exact (fun s hs => hs.tl [1] 2))
              | (exfalso; simp_all)
        · try simp only [cnd] at hg33
          refine WXL.miss (j := 5) (d := 33) rfl rfl rfl ?_
          refine WXL.miss (j := 5) (d := 33) rfl rfl rfl ?_
          refine WXL.miss (j := 5) (d := 33) rfl rfl rfl ?_
          refine WXL.miss (j := 5) (d := 33) rfl rfl rfl ?_
          refine WXL.miss (j := 5) (d := 33) rfl rfl rfl ?_
          refine WXL.miss (j := 5) (d := 33) rfl rfl rfl ?_
          refine WXL.pick_f Met.none rfl rfl ?_
          refine WXL.assign Met.none rfl ?_
          refine WXL.nil ?_
          refine Fin.then_normal ?_
          refine WX.cond rfl (fun hc3 => nomatch hc3) (fun hc3 => ?_)
          refine WX.seq ?_
          refine WX.region rfl ?_
          refine WXL.move Met.none rfl ?_
          refine WXL.fieldAddr (off' := 1) Met.none rfl Try.underlying44 rfl sz3 rfl ?_
          first | refine WXL.ld Met.none rfl agg3 ?_ | refine WXL.ldS Met.none rfl agg3 ?_
          first | refine WXL.ix Met.none rfl rfl elem46 sz4 ?_ | refine WXL.ixS Met.none rfl rfl elem46 sz4 ?_
          first | refine WXL.ld Met.none rfl agg4 ?_ (hv := (cell_map Bl s (nth n.edges k).b.toNat hlb)) | refine WXL.ldS Met.none rfl agg4 ?_ (hv := (cell_map Bl s (nth n.edges k).b.toNat hlb))
          refine WXL.move Met.none rfl ?_
          refine WXL.split (d := 51) rfl (fun hg51 => ?_) (fun hg51 => ?_)
          · try simp only [cnd] at hg51
            refine WXL.move (Met.some rfl rfl rfl) rfl ?_
            refine WXL.fieldAddr (off' := 0) (Met.some rfl rfl rfl) rfl Try.underlying44 rfl sz3 rfl ?_
            first | refine WXL.ld (Met.some rfl rfl rfl) rfl agg3 ?_ | refine WXL.ldS (Met.some rfl rfl rfl) rfl agg3 ?_
            first | refine WXL.ix (Met.some rfl rfl rfl) rfl rfl elem46 sz4 ?_ | refine WXL.ixS (Met.some rfl rfl rfl) rfl rfl elem46 sz4 ?_
            first | refine WXL.ld (Met.some rfl rfl rfl) rfl agg4 ?_ (hv := (cell_map Bl s (nth n.edges k).a.toNat hla)) | refine WXL.ldS (Met.some rfl rfl rfl) rfl agg4 ?_ (hv := (cell_map Bl s (nth n.edges k).a.toNat hla))
            refine WXL.not (Met.some rfl rfl rfl) rfl ?_
            refine WXL.pick_t Met.none rfl rfl ?_
            refine WXL.assign Met.none rfl ?_
            refine WXL.nil ?_
            refine Fin.then_normal ?_
            refine WX.cond rfl (fun hc4 => ?_) (fun hc4 => ?_)
            · try simp only [cnd] at hc4
              refine WX.region rfl ?_
              refine WXL.move Met.none rfl ?_
              refine WXL.fieldAddr (off' := 3) Met.none rfl Try.underlying44 rfl sz3 rfl ?_
              first | refine WXL.ld Met.none rfl agg3 ?_ | refine WXL.ldS Met.none rfl agg3 ?_
              refine WXL.bin Met.none rfl rfl bvA ?_
              refine WXL.assign Met.none rfl ?_
              refine WXL.nil ?_
              refine Fin.block_normal ?_
              refine Fin.block_normal ?_
              refine Fin.then_normal ?_
              refine WX.region rfl ?_
              refine WXL.bin Met.none rfl rfl bvA ?_
              refine WXL.move Met.none rfl ?_
              refine WXL.nil ?_
              refine Fin.loop_next (k + 1) (by omega) (by omega) ?_
              rw [acrossTo_succ]
              first
              | exact absurd (Eq.trans (Eq.symm (show nth s (nth n.edges k).a.toNat = true from by assumption)) (show nth s (nth n.edges k).a.toNat = false from by assumption)) (by decide)
              | exact absurd (Eq.trans (Eq.symm (show nth s (nth n.edges k).b.toNat = true from by assumption)) (show nth s (nth n.edges k).b.toNat = false from by assumption)) (by decide)
              | (rw [crosses1 (by assumption) (by assumption)]; exact (fun s hs => hs.tl [1] 2))
              | (rw [crosses2 (by assumption) (by assumption)]; exact (fun s hs => hs.tl [1] 2))
              | (rw [crosses0 (Eq.trans (b := true) (by assumption) (Eq.symm (by assumption))), Int.add_zero]; exact (fun s hs => hs.tl [1] 2))
              | (rw [crosses0 (Eq.trans (b := false) (by assumption) (Eq.symm (by assumption))), Int.add_zero]; exact (fun s hs => hs.tl [1] 2))
              | (exfalso; simp_all)
            · try simp only [cnd] at hc4
              refine WX.skip ?_
              refine Fin.block_normal ?_
              refine Fin.block_normal ?_
              refine Fin.then_normal ?_
              refine WX.region rfl ?_
              refine WXL.bin Met.none rfl rfl bvA ?_
              refine WXL.move Met.none rfl ?_
              refine WXL.nil ?_
              refine Fin.loop_next (k + 1) (by omega) (by omega) ?_
              rw [acrossTo_succ]
              first
              | exact absurd (Eq.trans (Eq.symm (show nth s (nth n.edges k).a.toNat = true from by assumption)) (show nth s (nth n.edges k).a.toNat = false from by assumption)) (by decide)
              | exact absurd (Eq.trans (Eq.symm (show nth s (nth n.edges k).b.toNat = true from by assumption)) (show nth s (nth n.edges k).b.toNat = false from by assumption)) (by decide)
              | (rw [crosses1 (by assumption) (by assumption)]; exact (fun s hs => hs.tl [1] 2))
              | (rw [crosses2 (by assumption) (by assumption)]; exact (fun s hs => hs.tl [1] 2))
              | (rw [crosses0 (Eq.trans (b := true) (by assumption) (Eq.symm (by assumption))), Int.add_zero]; exact (fun s hs => hs.tl [1] 2))
              | (rw [crosses0 (Eq.trans (b := false) (by assumption) (Eq.symm (by assumption))), Int.add_zero]; exact (fun s hs => hs.tl [1] 2))
              | (exfalso; simp_all)
          · try simp only [cnd] at hg51
            refine WXL.miss (j := 5) (d := 51) rfl rfl rfl ?_
            refine WXL.miss (j := 5) (d := 51) rfl rfl rfl ?_
            refine WXL.miss (j := 5) (d := 51) rfl rfl rfl ?_
            refine WXL.miss (j := 5) (d := 51) rfl rfl rfl ?_
            refine WXL.miss (j := 5) (d := 51) rfl rfl rfl ?_
            refine WXL.miss (j := 5) (d := 51) rfl rfl rfl ?_
            refine WXL.pick_f Met.none rfl rfl ?_
            refine WXL.assign Met.none rfl ?_
            refine WXL.nil ?_
            refine Fin.then_normal ?_
            refine WX.cond rfl (fun hc4 => nomatch hc4) (fun hc4 => ?_)
            refine WX.skip ?_
            refine Fin.block_normal ?_
            refine Fin.block_normal ?_
            refine Fin.then_normal ?_
            refine WX.region rfl ?_
            refine WXL.bin Met.none rfl rfl bvA ?_
            refine WXL.move Met.none rfl ?_
            refine WXL.nil ?_
            refine Fin.loop_next (k + 1) (by omega) (by omega) ?_
            rw [acrossTo_succ]
            first
            | exact absurd (Eq.trans (Eq.symm (show nth s (nth n.edges k).a.toNat = true from by assumption)) (show nth s (nth n.edges k).a.toNat = false from by assumption)) (by decide)
            | exact absurd (Eq.trans (Eq.symm (show nth s (nth n.edges k).b.toNat = true from by assumption)) (show nth s (nth n.edges k).b.toNat = false from by assumption)) (by decide)
            | (rw [crosses1 (by assumption) (by assumption)]; exact (fun s hs => hs.tl [1] 2))
            | (rw [crosses2 (by assumption) (by assumption)]; exact (fun s hs => hs.tl [1] 2))
            | (rw [crosses0 (Eq.trans (b := true) (by assumption) (Eq.symm (by assumption))), Int.add_zero]; exact (fun s hs => hs.tl [1] 2))
            | (rw [crosses0 (Eq.trans (b := false) (by assumption) (Eq.symm (by assumption))), Int.add_zero]; exact (fun s hs => hs.tl [1] 2))
            | (exfalso; simp_all)
      · try simp only [cnd] at hc2
        refine WX.exit ?_
        refine Fin.then_exit ?_
        refine Fin.loop_exit ?_
        refine Fin.block_hit rfl ?_
        refine Fin.then_normal ?_
        refine WX.seq ?_
        refine WX.region rfl ?_
        refine WXL.move Met.none rfl ?_
        refine WXL.assign Met.none rfl ?_
        refine WXL.assign Met.none rfl ?_
        refine WXL.nil ?_
        refine Fin.then_normal ?_
        refine WX.ret ?_
        first
        | exact Fin.result (O' := O) (.inr rfl) rfl rfl drop_ ⟨_, _, rfl, ⟨k0, hw, fun _ => ⟨rfl, rfl⟩, fun q => absurd q hc0, fun q => absurd q hc0⟩, rfl⟩
        | exact Fin.result (O' := O) (.inr rfl) rfl rfl drop_ ⟨_, _, rfl, ⟨0, hw, fun q => absurd rfl q, fun _ _ => ⟨rfl, rfl⟩, fun _ q => absurd q hc1⟩, rfl⟩
        | (have hk2 : k = n.edges.length := by omega
           subst hk2
           exact Fin.result (O' := O) (.inr rfl) rfl rfl drop_ ⟨_, _, rfl, ⟨0, hw, fun q => absurd rfl q, fun _ q => absurd hc1 q, fun _ _ => ⟨rfl, rfl⟩⟩, rfl⟩)

/-- The error of a check. -/
def ChkR (n : Net4) (f : List Int) (s : List Bool) (e : Int) : Prop := ∃ x ev, ValR n f x ev ∧ (ev ≠ 0 → e = ev) ∧ (ev = 0 → (s.length : Int) ≠ n.nodes → e = 1) ∧
  (ev = 0 → (s.length : Int) = n.nodes → (nth s n.source.toNat = true ∧ nth s n.sink.toNat = false ∧ across n s = x → e = 0) ∧ (¬ (nth s n.source.toNat = true ∧ nth s n.sink.toNat = false ∧ across n s = x) → e = 17))

theorem ChkR.uniq {n : Net4} {f : List Int} {s : List Bool} {e e' : Int} (h : ChkR n f s e) (h' : ChkR n f s e') : e = e' := by
  obtain ⟨x, ev, h1, h2, h3, h4⟩ := h
  obtain ⟨x', ev', g1, g2, g3, g4⟩ := h'
  obtain ⟨rfl, rfl⟩ := h1.uniq g1
  by_cases hv : ev = 0
  · by_cases hs : (s.length : Int) = n.nodes
    · by_cases hp : nth s n.source.toNat = true ∧ nth s n.sink.toNat = false ∧ across n s = x
      · rw [(h4 hv hs).1 hp, (g4 hv hs).1 hp]
      · rw [(h4 hv hs).2 hp, (g4 hv hs).2 hp]
    · rw [h3 hv hs, g3 hv hs]
  · rw [h2 hv, g2 hv]

theorem ValR.ok {n : Net4} {f : List Int} {x : Int} (h : ValR n f x 0) : Sound n ∧ FlowOk n f ∧ x = netOut n f n.source := by
  obtain ⟨k, h1, h2, h3⟩ := h
  have hk : k = 0 := by
    by_cases q : k = 0
    · exact q
    · have := (h2 q).2; omega
  subst hk
  rcases h3 rfl with q | q
  · exact ⟨h1.sound, q.1, q.2.1⟩
  · have := q.2.2; omega

theorem refCheck_ok (O : Objs) (n : Net4) (f : List Int) (s : List Bool) (a af sa : Option Addr) (c cf cs : Nat) (hlen : n.edges.length ≤ 1000000) (hl : Edges O n a c) (hf : Src O 1 (.slice af f.length cf) f.length (f.map I)) (hs : Src O 1 (.slice sa s.length cs) s.length (s.map Bl)) :
    Spec Try.prog false 27 #[netV n a c, .slice af f.length cf, .slice sa s.length cs] O fun u O' => ∃ e, u = I e ∧ ChkR n f s e ∧ O' = O := by
  refine Spec.enter (args := [_, _, _]) (m := 43) Try.func27 rfl rfl (by decide +kernel) fun h0 => ?_
  refine WX.seq ?_
  refine WX.region rfl ?_
  refine WXL.box (c := [_, _, _, _]) Met.none rfl rfl rfl (fun b3 => ?_)
  refine WXL.assign Met.none rfl ?_
  refine WXL.nil ?_
  refine Fin.then_normal ?_
  refine WX.seq ?_
  refine WX.region rfl ?_
  refine WXL.ldN (vs := [_, _, _, _]) Met.none rfl agg25 sz25 ?_
  refine WXL.move Met.none rfl ?_
  refine WXL.cl (O1 := _) Met.none rfl (fnOk_of Try.func24 (by decide +kernel)) rfl (fun _ h => h) (refValue_ok _ n f a af c cf hlen src_ src_) (fun v O' hp => ?_)
  obtain ⟨x, ev, rfl, hv, rfl⟩ := hp
  refine WXL.move Met.none rfl ?_
  refine WXL.extract Met.none rfl rfl ?_
  refine WXL.extract Met.none rfl rfl ?_
  refine WXL.assign Met.none rfl ?_
  refine WXL.assign Met.none rfl ?_
  refine WXL.nil ?_
  refine Fin.then_normal ?_
  refine WX.seq ?_
  refine WX.seq ?_
  refine WX.region rfl ?_
  refine WXL.move Met.none rfl ?_
  refine WXL.bin Met.none rfl rfl rfl ?_
  refine WXL.nil ?_
  refine Fin.then_normal ?_
  refine WX.cond rfl (fun hc0 => ?_) (fun hc0 => ?_)
  · try simp only [cnd] at hc0
    refine WX.seq ?_
    refine WX.region rfl ?_
    refine WXL.move Met.none rfl ?_
    refine WXL.assign Met.none rfl ?_
    refine WXL.nil ?_
    refine Fin.then_normal ?_
    refine WX.ret ?_
    refine Fin.then_ret ?_
    refine Fin.result (O' := O) (.inr rfl) rfl rfl drop_ ⟨_, rfl, ?_, rfl⟩
    first
    | exact ⟨x, ev, hv, fun _ => rfl, fun q => absurd q hc0, fun q => absurd q hc0⟩
    | exact ⟨x, 0, hv, fun q => absurd rfl q, fun _ _ => rfl, fun _ q => absurd q hc1⟩
    | exact ⟨x, 0, hv, fun q => absurd rfl q, fun _ q => absurd hc1 q, fun _ _ => ⟨fun q => (by simp_all), fun _ => rfl⟩⟩
    | exact ⟨x, 0, hv, fun q => absurd rfl q, fun _ q => absurd hc1 q, fun _ _ => ⟨fun _ => rfl, fun q => absurd (And.intro (by assumption) (And.intro (by assumption) (by assumption))) q⟩⟩
  · try simp only [cnd] at hc0
    refine WX.skip ?_
    refine Fin.then_normal ?_
    refine WX.seq ?_
    refine WX.seq ?_
    have hk0 : ev = 0 := by omega
    subst hk0
    obtain ⟨hn, hfo, hx⟩ := hv.ok
    have hns := hn.source
    have hnk := hn.sink
    refine WX.region rfl ?_
    refine WXL.move Met.none rfl ?_
    refine WXL.len Met.none rfl Try.underlying46 ?_
    refine WXL.fieldAddr (off' := 0) Met.none rfl Try.underlying25 rfl sz3 rfl ?_
    first | refine WXL.ld Met.none rfl agg3 ?_ | refine WXL.ldS Met.none rfl agg3 ?_
    refine WXL.bin Met.none rfl rfl rfl ?_
    refine WXL.nil ?_
    refine Fin.then_normal ?_
    refine WX.cond rfl (fun hc1 => ?_) (fun hc1 => ?_)
    · try simp only [cnd] at hc1
      refine WX.seq ?_
      refine WX.region rfl ?_
      refine WXL.assign Met.none rfl ?_
      refine WXL.nil ?_
      refine Fin.then_normal ?_
      refine WX.ret ?_
      refine Fin.then_ret ?_
      refine Fin.result (O' := O) (.inr rfl) rfl rfl drop_ ⟨_, rfl, ?_, rfl⟩
      first
      | exact ⟨x, ev, hv, fun _ => rfl, fun q => absurd q hc0, fun q => absurd q hc0⟩
      | exact ⟨x, 0, hv, fun q => absurd rfl q, fun _ _ => rfl, fun _ q => absurd q hc1⟩
      | exact ⟨x, 0, hv, fun q => absurd rfl q, fun _ q => absurd hc1 q, fun _ _ => ⟨fun q => (by simp_all), fun _ => rfl⟩⟩
      | exact ⟨x, 0, hv, fun q => absurd rfl q, fun _ q => absurd hc1 q, fun _ _ => ⟨fun _ => rfl, fun q => absurd (And.intro (by assumption) (And.intro (by assumption) (by assumption))) q⟩⟩
    · try simp only [cnd] at hc1
      refine WX.skip ?_
      refine Fin.then_normal ?_
      refine WX.seq ?_
      refine WX.seq ?_
      have hla : n.source.toNat < s.length := by omega
      have hlb : n.sink.toNat < s.length := by omega
      refine WX.region rfl ?_
      refine WXL.move Met.none rfl ?_
      refine WXL.fieldAddr (off' := 1) Met.none rfl Try.underlying25 rfl sz3 rfl ?_
      first | refine WXL.ld Met.none rfl agg3 ?_ | refine WXL.ldS Met.none rfl agg3 ?_
      first | refine WXL.ix Met.none rfl rfl elem46 sz4 ?_ | refine WXL.ixS Met.none rfl rfl elem46 sz4 ?_
      first | refine WXL.ld Met.none rfl agg4 ?_ (hv := (cell_map Bl s n.source.toNat hla)) | refine WXL.ldS Met.none rfl agg4 ?_ (hv := (cell_map Bl s n.source.toNat hla))
      refine WXL.not Met.none rfl ?_
      refine WXL.move Met.none rfl ?_
      refine WXL.split (d := 29) rfl (fun hg29 => ?_) (fun hg29 => ?_)
      · try simp only [cnd] at hg29
        refine WXL.miss (j := 6) (d := 29) rfl rfl rfl ?_
        refine WXL.miss (j := 6) (d := 29) rfl rfl rfl ?_
        refine WXL.miss (j := 6) (d := 29) rfl rfl rfl ?_
        refine WXL.miss (j := 6) (d := 29) rfl rfl rfl ?_
        refine WXL.miss (j := 6) (d := 29) rfl rfl rfl ?_
        refine WXL.pick_t Met.none rfl rfl ?_
        refine WXL.move Met.none rfl ?_
        refine WXL.miss (j := 13) (d := 36) rfl rfl rfl ?_
        refine WXL.miss (j := 13) (d := 36) rfl rfl rfl ?_
        refine WXL.miss (j := 13) (d := 36) rfl rfl rfl ?_
        refine WXL.miss (j := 13) (d := 36) rfl rfl rfl ?_
        refine WXL.miss (j := 13) (d := 36) rfl rfl rfl ?_
        refine WXL.pick_t Met.none rfl rfl ?_
        refine WXL.nil ?_
        refine Fin.then_normal ?_
        refine WX.cond rfl (fun hc2 => ?_) (fun hc2 => nomatch hc2)
        refine WX.seq ?_
        refine WX.region rfl ?_
        refine WXL.assign Met.none rfl ?_
        refine WXL.nil ?_
        refine Fin.then_normal ?_
        refine WX.ret ?_
        refine Fin.then_ret ?_
        refine Fin.result (O' := O) (.inr rfl) rfl rfl drop_ ⟨_, rfl, ?_, rfl⟩
        first
        | exact ⟨x, ev, hv, fun _ => rfl, fun q => absurd q hc0, fun q => absurd q hc0⟩
        | exact ⟨x, 0, hv, fun q => absurd rfl q, fun _ _ => rfl, fun _ q => absurd q hc1⟩
        | exact ⟨x, 0, hv, fun q => absurd rfl q, fun _ q => absurd hc1 q, fun _ _ => ⟨fun q => (by simp_all), fun _ => rfl⟩⟩
        | exact ⟨x, 0, hv, fun q => absurd rfl q, fun _ q => absurd hc1 q, fun _ _ => ⟨fun _ => rfl, fun q => absurd (And.intro (by assumption) (And.intro (by assumption) (by assumption))) q⟩⟩
      · try simp only [cnd] at hg29
        refine WXL.move (Met.some rfl rfl rfl) rfl ?_
        refine WXL.fieldAddr (off' := 2) (Met.some rfl rfl rfl) rfl Try.underlying25 rfl sz3 rfl ?_
        first | refine WXL.ld (Met.some rfl rfl rfl) rfl agg3 ?_ | refine WXL.ldS (Met.some rfl rfl rfl) rfl agg3 ?_
        first | refine WXL.ix (Met.some rfl rfl rfl) rfl rfl elem46 sz4 ?_ | refine WXL.ixS (Met.some rfl rfl rfl) rfl rfl elem46 sz4 ?_
        first | refine WXL.ld (Met.some rfl rfl rfl) rfl agg4 ?_ (hv := (cell_map Bl s n.sink.toNat hlb)) | refine WXL.ldS (Met.some rfl rfl rfl) rfl agg4 ?_ (hv := (cell_map Bl s n.sink.toNat hlb))
        refine WXL.pick_f Met.none rfl rfl ?_
        refine WXL.move Met.none rfl ?_
        refine WXL.split (d := 36) rfl (fun hg36 => ?_) (fun hg36 => ?_)
        · try simp only [cnd] at hg36
          refine WXL.miss (j := 13) (d := 36) rfl rfl rfl ?_
          refine WXL.miss (j := 13) (d := 36) rfl rfl rfl ?_
          refine WXL.miss (j := 13) (d := 36) rfl rfl rfl ?_
          refine WXL.miss (j := 13) (d := 36) rfl rfl rfl ?_
          refine WXL.miss (j := 13) (d := 36) rfl rfl rfl ?_
          refine WXL.pick_t Met.none rfl rfl ?_
          refine WXL.nil ?_
          refine Fin.then_normal ?_
          refine WX.cond rfl (fun hc2 => ?_) (fun hc2 => nomatch hc2)
          refine WX.seq ?_
          refine WX.region rfl ?_
          refine WXL.assign Met.none rfl ?_
          refine WXL.nil ?_
          refine Fin.then_normal ?_
          refine WX.ret ?_
          refine Fin.then_ret ?_
          refine Fin.result (O' := O) (.inr rfl) rfl rfl drop_ ⟨_, rfl, ?_, rfl⟩
          first
          | exact ⟨x, ev, hv, fun _ => rfl, fun q => absurd q hc0, fun q => absurd q hc0⟩
          | exact ⟨x, 0, hv, fun q => absurd rfl q, fun _ _ => rfl, fun _ q => absurd q hc1⟩
          | exact ⟨x, 0, hv, fun q => absurd rfl q, fun _ q => absurd hc1 q, fun _ _ => ⟨fun q => (by simp_all), fun _ => rfl⟩⟩
          | exact ⟨x, 0, hv, fun q => absurd rfl q, fun _ q => absurd hc1 q, fun _ _ => ⟨fun _ => rfl, fun q => absurd (And.intro (by assumption) (And.intro (by assumption) (by assumption))) q⟩⟩
        · try simp only [cnd] at hg36
          refine WXL.ldN (vs := [_, _, _, _]) (Met.some rfl rfl rfl) rfl agg25 sz25 ?_
          refine WXL.move (Met.some rfl rfl rfl) rfl ?_
          refine WXL.cl (O1 := _) (Met.some rfl rfl rfl) rfl (fnOk_of Try.func29 (by decide +kernel)) rfl (fun _ h => h) (refAcross_ok _ n s a sa c cs hn src_ src_ (by omega)) (fun v O' hp => ?_)
          obtain ⟨rfl, hO⟩ := hp
          subst O'
          refine WXL.move (Met.some rfl rfl rfl) rfl ?_
          refine WXL.bin (Met.some rfl rfl rfl) rfl rfl rfl ?_
          refine WXL.pick_f Met.none rfl rfl ?_
          refine WXL.nil ?_
          refine Fin.then_normal ?_
          refine WX.cond rfl (fun hc2 => ?_) (fun hc2 => ?_)
          · try simp only [cnd] at hc2
            refine WX.seq ?_
            refine WX.region rfl ?_
            refine WXL.assign Met.none rfl ?_
            refine WXL.nil ?_
            refine Fin.then_normal ?_
            refine WX.ret ?_
            refine Fin.then_ret ?_
            refine Fin.result (O' := O) (.inr rfl) rfl rfl drop_ ⟨_, rfl, ?_, rfl⟩
            first
            | exact ⟨x, ev, hv, fun _ => rfl, fun q => absurd q hc0, fun q => absurd q hc0⟩
            | exact ⟨x, 0, hv, fun q => absurd rfl q, fun _ _ => rfl, fun _ q => absurd q hc1⟩
            | exact ⟨x, 0, hv, fun q => absurd rfl q, fun _ q => absurd hc1 q, fun _ _ => ⟨fun q => (by simp_all), fun _ => rfl⟩⟩
            | exact ⟨x, 0, hv, fun q => absurd rfl q, fun _ q => absurd hc1 q, fun _ _ => ⟨fun _ => rfl, fun q => absurd (And.intro (by assumption) (And.intro (by assumption) (by assumption))) q⟩⟩
          · try simp only [cnd] at hc2
            refine WX.skip ?_
            refine Fin.then_normal ?_
            refine WX.seq ?_
            refine WX.region rfl ?_
            refine WXL.assign Met.none rfl ?_
            refine WXL.nil ?_
            refine Fin.then_normal ?_
            refine WX.ret ?_
            refine Fin.result (O' := O) (.inr rfl) rfl rfl drop_ ⟨_, rfl, ?_, rfl⟩
            first
            | exact ⟨x, ev, hv, fun _ => rfl, fun q => absurd q hc0, fun q => absurd q hc0⟩
            | exact ⟨x, 0, hv, fun q => absurd rfl q, fun _ _ => rfl, fun _ q => absurd q hc1⟩
            | exact ⟨x, 0, hv, fun q => absurd rfl q, fun _ q => absurd hc1 q, fun _ _ => ⟨fun q => (by simp_all), fun _ => rfl⟩⟩
            | exact ⟨x, 0, hv, fun q => absurd rfl q, fun _ q => absurd hc1 q, fun _ _ => ⟨fun _ => rfl, fun q => absurd (And.intro (by assumption) (And.intro (by assumption) (by assumption))) q⟩⟩

theorem check_ok (O : Objs) (n : Net4) (f : List Int) (s : List Bool) (a af sa : Option Addr) (c cf cs : Nat) (hlen : n.edges.length ≤ 1000000) (hl : Edges O n a c) (hf : Src O 1 (.slice af f.length cf) f.length (f.map I)) (hs : Src O 1 (.slice sa s.length cs) s.length (s.map Bl)) :
    Spec Try.prog false 26 #[netV n a c, .slice af f.length cf, .slice sa s.length cs] O fun u O' => ∃ e, u = I e ∧ ChkR n f s e ∧ O' = O := by
  refine Spec.enter (args := [_, _, _]) (m := 48) Try.func26 rfl rfl (by decide +kernel) fun h0 => ?_
  refine WX.seq ?_
  refine WX.region rfl ?_
  refine WXL.box (c := [_, _, _, _]) Met.none rfl rfl rfl (fun b3 => ?_)
  refine WXL.assign Met.none rfl ?_
  refine WXL.nil ?_
  refine Fin.then_normal ?_
  refine WX.seq ?_
  refine WX.region rfl ?_
  refine WXL.ldN (vs := [_, _, _, _]) Met.none rfl agg36 sz36 ?_
  refine WXL.move Met.none rfl ?_
  refine WXL.cl (O1 := _) Met.none rfl (fnOk_of Try.func23 (by decide +kernel)) rfl (fun _ h => h) (value_ok _ n f a af c cf hlen src_ src_) (fun v O' hp => ?_)
  obtain ⟨x, ev, rfl, hv, rfl⟩ := hp
  refine WXL.move Met.none rfl ?_
  refine WXL.extract Met.none rfl rfl ?_
  refine WXL.extract Met.none rfl rfl ?_
  refine WXL.assign Met.none rfl ?_
  refine WXL.assign Met.none rfl ?_
  refine WXL.nil ?_
  refine Fin.then_normal ?_
  refine WX.seq ?_
  refine WX.seq ?_
  refine WX.region rfl ?_
  refine WXL.move Met.none rfl ?_
  refine WXL.bin Met.none rfl rfl rfl ?_
  refine WXL.nil ?_
  refine Fin.then_normal ?_
  refine WX.cond rfl (fun hc0 => ?_) (fun hc0 => ?_)
  · try simp only [cnd] at hc0
    refine WX.seq ?_
    refine WX.region rfl ?_
    refine WXL.move Met.none rfl ?_
    refine WXL.assign Met.none rfl ?_
    refine WXL.nil ?_
    refine Fin.then_normal ?_
    refine WX.ret ?_
    refine Fin.then_ret ?_
    refine Fin.result (O' := O) (.inr rfl) rfl rfl drop_ ⟨_, rfl, ?_, rfl⟩
    first
    | exact ⟨x, ev, hv, fun _ => rfl, fun q => absurd q hc0, fun q => absurd q hc0⟩
    | exact ⟨x, 0, hv, fun q => absurd rfl q, fun _ _ => (by
        by_cases q : (s.length : Int) = n.nodes
        · have := (ha3 rfl q).2; omega
        · have := (ha2 rfl q).2; omega), fun _ q => absurd (ha3 rfl q).2 hc1⟩
    | exact ⟨x, 0, hv, fun q => absurd rfl q, fun _ q => absurd hsl q, fun _ _ => ⟨fun q => (by simp_all), fun _ => rfl⟩⟩
    | exact ⟨x, 0, hv, fun q => absurd rfl q, fun _ q => absurd hsl q, fun _ _ => ⟨fun _ => rfl, fun q => absurd (And.intro (by assumption) (And.intro (by assumption) (by assumption))) q⟩⟩
  · try simp only [cnd] at hc0
    refine WX.skip ?_
    refine Fin.then_normal ?_
    refine WX.seq ?_
    have hk0 : ev = 0 := by omega
    subst hk0
    obtain ⟨hn, hfo, hx⟩ := hv.ok
    have hns := hn.source
    have hnk := hn.sink
    refine WX.region rfl ?_
    refine WXL.ldN (vs := [_, _, _, _]) Met.none rfl agg36 sz36 ?_
    refine WXL.move Met.none rfl ?_
    refine WXL.cl (O1 := _) Met.none rfl (fnOk_of Try.func28 (by decide +kernel)) rfl (fun _ h => h) (across_ok _ n s a sa c cs hlen src_ src_) (fun v O' hp => ?_)
    obtain ⟨y, ea, rfl, ha, rfl⟩ := hp
    refine WXL.move Met.none rfl ?_
    refine WXL.extract Met.none rfl rfl ?_
    refine WXL.extract Met.none rfl rfl ?_
    refine WXL.assign Met.none rfl ?_
    refine WXL.assign Met.none rfl ?_
    refine WXL.nil ?_
    refine Fin.then_normal ?_
    refine WX.seq ?_
    refine WX.block ?_
    refine WX.seq ?_
    obtain ⟨ka, hwa, ha1, ha2, ha3⟩ := ha
    have hka := hn.wrong hwa
    subst hka
    refine WX.region rfl ?_
    refine WXL.move Met.none rfl ?_
    refine WXL.bin Met.none rfl rfl rfl ?_
    refine WXL.assign Met.none rfl ?_
    refine WXL.nil ?_
    refine Fin.then_normal ?_
    refine WX.cond rfl (fun hc1 => ?_) (fun hc1 => ?_)
    · try simp only [cnd] at hc1
      refine WX.seq ?_
      refine WX.region rfl ?_
      refine WXL.move Met.none rfl ?_
      refine WXL.assign Met.none rfl ?_
      refine WXL.nil ?_
      refine Fin.then_normal ?_
      refine WX.ret ?_
      refine Fin.block_ret ?_
      refine Fin.then_ret ?_
      refine Fin.result (O' := O) (.inr rfl) rfl rfl drop_ ⟨_, rfl, ?_, rfl⟩
      first
      | exact ⟨x, ev, hv, fun _ => rfl, fun q => absurd q hc0, fun q => absurd q hc0⟩
      | exact ⟨x, 0, hv, fun q => absurd rfl q, fun _ _ => (by
          by_cases q : (s.length : Int) = n.nodes
          · have := (ha3 rfl q).2; omega
          · have := (ha2 rfl q).2; omega), fun _ q => absurd (ha3 rfl q).2 hc1⟩
      | exact ⟨x, 0, hv, fun q => absurd rfl q, fun _ q => absurd hsl q, fun _ _ => ⟨fun q => (by simp_all), fun _ => rfl⟩⟩
      | exact ⟨x, 0, hv, fun q => absurd rfl q, fun _ q => absurd hsl q, fun _ _ => ⟨fun _ => rfl, fun q => absurd (And.intro (by assumption) (And.intro (by assumption) (by assumption))) q⟩⟩
    · try simp only [cnd] at hc1
      refine WX.seq ?_
      have hsl : (s.length : Int) = n.nodes := by
        by_cases q : (s.length : Int) = n.nodes
        · exact q
        · have := (ha2 rfl q).2; omega
      obtain ⟨rfl, _⟩ := ha3 rfl hsl
      have hla : n.source.toNat < s.length := by omega
      have hlb : n.sink.toNat < s.length := by omega
      refine WX.region rfl ?_
      refine WXL.move Met.none rfl ?_
      refine WXL.fieldAddr (off' := 1) Met.none rfl Try.underlying36 rfl sz3 rfl ?_
      first | refine WXL.ld Met.none rfl agg3 ?_ | refine WXL.ldS Met.none rfl agg3 ?_
      first | refine WXL.ix Met.none rfl rfl elem46 sz4 ?_ | refine WXL.ixS Met.none rfl rfl elem46 sz4 ?_
      first | refine WXL.ld Met.none rfl agg4 ?_ (hv := (cell_map Bl s n.source.toNat hla)) | refine WXL.ldS Met.none rfl agg4 ?_ (hv := (cell_map Bl s n.source.toNat hla))
      refine WXL.not Met.none rfl ?_
      refine WXL.move Met.none rfl ?_
      refine WXL.split (d := 36) rfl (fun hg36 => ?_) (fun hg36 => ?_)
      · try simp only [cnd] at hg36
        refine WXL.miss (j := 6) (d := 36) rfl rfl rfl ?_
        refine WXL.miss (j := 6) (d := 36) rfl rfl rfl ?_
        refine WXL.miss (j := 6) (d := 36) rfl rfl rfl ?_
        refine WXL.miss (j := 6) (d := 36) rfl rfl rfl ?_
        refine WXL.miss (j := 6) (d := 36) rfl rfl rfl ?_
        refine WXL.pick_t Met.none rfl rfl ?_
        refine WXL.move Met.none rfl ?_
        refine WXL.miss (j := 13) (d := 43) rfl rfl rfl ?_
        refine WXL.miss (j := 13) (d := 43) rfl rfl rfl ?_
        refine WXL.miss (j := 13) (d := 43) rfl rfl rfl ?_
        refine WXL.pick_t Met.none rfl rfl ?_
        refine WXL.assign Met.none rfl ?_
        refine WXL.nil ?_
        refine Fin.then_normal ?_
        refine WX.cond rfl (fun hc2 => ?_) (fun hc2 => nomatch hc2)
        refine WX.seq ?_
        refine WX.region rfl ?_
        refine WXL.assign Met.none rfl ?_
        refine WXL.nil ?_
        refine Fin.then_normal ?_
        refine WX.ret ?_
        refine Fin.block_ret ?_
        refine Fin.then_ret ?_
        refine Fin.result (O' := O) (.inr rfl) rfl rfl drop_ ⟨_, rfl, ?_, rfl⟩
        first
        | exact ⟨x, ev, hv, fun _ => rfl, fun q => absurd q hc0, fun q => absurd q hc0⟩
        | exact ⟨x, 0, hv, fun q => absurd rfl q, fun _ _ => (by
            by_cases q : (s.length : Int) = n.nodes
            · have := (ha3 rfl q).2; omega
            · have := (ha2 rfl q).2; omega), fun _ q => absurd (ha3 rfl q).2 hc1⟩
        | exact ⟨x, 0, hv, fun q => absurd rfl q, fun _ q => absurd hsl q, fun _ _ => ⟨fun q => (by simp_all), fun _ => rfl⟩⟩
        | exact ⟨x, 0, hv, fun q => absurd rfl q, fun _ q => absurd hsl q, fun _ _ => ⟨fun _ => rfl, fun q => absurd (And.intro (by assumption) (And.intro (by assumption) (by assumption))) q⟩⟩
      · try simp only [cnd] at hg36
        refine WXL.move (Met.some rfl rfl rfl) rfl ?_
        refine WXL.fieldAddr (off' := 2) (Met.some rfl rfl rfl) rfl Try.underlying36 rfl sz3 rfl ?_
        first | refine WXL.ld (Met.some rfl rfl rfl) rfl agg3 ?_ | refine WXL.ldS (Met.some rfl rfl rfl) rfl agg3 ?_
        first | refine WXL.ix (Met.some rfl rfl rfl) rfl rfl elem46 sz4 ?_ | refine WXL.ixS (Met.some rfl rfl rfl) rfl rfl elem46 sz4 ?_
        first | refine WXL.ld (Met.some rfl rfl rfl) rfl agg4 ?_ (hv := (cell_map Bl s n.sink.toNat hlb)) | refine WXL.ldS (Met.some rfl rfl rfl) rfl agg4 ?_ (hv := (cell_map Bl s n.sink.toNat hlb))
        refine WXL.pick_f Met.none rfl rfl ?_
        refine WXL.move Met.none rfl ?_
        refine WXL.split (d := 43) rfl (fun hg43 => ?_) (fun hg43 => ?_)
        · try simp only [cnd] at hg43
          refine WXL.miss (j := 13) (d := 43) rfl rfl rfl ?_
          refine WXL.miss (j := 13) (d := 43) rfl rfl rfl ?_
          refine WXL.miss (j := 13) (d := 43) rfl rfl rfl ?_
          refine WXL.pick_t Met.none rfl rfl ?_
          refine WXL.assign Met.none rfl ?_
          refine WXL.nil ?_
          refine Fin.then_normal ?_
          refine WX.cond rfl (fun hc2 => ?_) (fun hc2 => nomatch hc2)
          refine WX.seq ?_
          refine WX.region rfl ?_
          refine WXL.assign Met.none rfl ?_
          refine WXL.nil ?_
          refine Fin.then_normal ?_
          refine WX.ret ?_
          refine Fin.block_ret ?_
          refine Fin.then_ret ?_
          refine Fin.result (O' := O) (.inr rfl) rfl rfl drop_ ⟨_, rfl, ?_, rfl⟩
          first
          | exact ⟨x, ev, hv, fun _ => rfl, fun q => absurd q hc0, fun q => absurd q hc0⟩
          | exact ⟨x, 0, hv, fun q => absurd rfl q, fun _ _ => (by
              by_cases q : (s.length : Int) = n.nodes
              · have := (ha3 rfl q).2; omega
              · have := (ha2 rfl q).2; omega), fun _ q => absurd (ha3 rfl q).2 hc1⟩
          | exact ⟨x, 0, hv, fun q => absurd rfl q, fun _ q => absurd hsl q, fun _ _ => ⟨fun q => (by simp_all), fun _ => rfl⟩⟩
          | exact ⟨x, 0, hv, fun q => absurd rfl q, fun _ q => absurd hsl q, fun _ _ => ⟨fun _ => rfl, fun q => absurd (And.intro (by assumption) (And.intro (by assumption) (by assumption))) q⟩⟩
        · try simp only [cnd] at hg43
          refine WXL.move (Met.some rfl rfl rfl) rfl ?_
          refine WXL.move (Met.some rfl rfl rfl) rfl ?_
          refine WXL.bin (Met.some rfl rfl rfl) rfl rfl rfl ?_
          refine WXL.pick_f Met.none rfl rfl ?_
          refine WXL.assign Met.none rfl ?_
          refine WXL.nil ?_
          refine Fin.then_normal ?_
          refine WX.cond rfl (fun hc2 => ?_) (fun hc2 => ?_)
          · try simp only [cnd] at hc2
            refine WX.seq ?_
            refine WX.region rfl ?_
            refine WXL.assign Met.none rfl ?_
            refine WXL.nil ?_
            refine Fin.then_normal ?_
            refine WX.ret ?_
            refine Fin.block_ret ?_
            refine Fin.then_ret ?_
            refine Fin.result (O' := O) (.inr rfl) rfl rfl drop_ ⟨_, rfl, ?_, rfl⟩
            first
            | exact ⟨x, ev, hv, fun _ => rfl, fun q => absurd q hc0, fun q => absurd q hc0⟩
            | exact ⟨x, 0, hv, fun q => absurd rfl q, fun _ _ => (by
                by_cases q : (s.length : Int) = n.nodes
                · have := (ha3 rfl q).2; omega
                · have := (ha2 rfl q).2; omega), fun _ q => absurd (ha3 rfl q).2 hc1⟩
            | exact ⟨x, 0, hv, fun q => absurd rfl q, fun _ q => absurd hsl q, fun _ _ => ⟨fun q => (by simp_all), fun _ => rfl⟩⟩
            | exact ⟨x, 0, hv, fun q => absurd rfl q, fun _ q => absurd hsl q, fun _ _ => ⟨fun _ => rfl, fun q => absurd (And.intro (by assumption) (And.intro (by assumption) (by assumption))) q⟩⟩
          · try simp only [cnd] at hc2
            refine WX.skip ?_
            refine Fin.block_normal ?_
            refine Fin.then_normal ?_
            refine WX.seq ?_
            refine WX.region rfl ?_
            refine WXL.assign Met.none rfl ?_
            refine WXL.nil ?_
            refine Fin.then_normal ?_
            refine WX.ret ?_
            refine Fin.result (O' := O) (.inr rfl) rfl rfl drop_ ⟨_, rfl, ?_, rfl⟩
            first
            | exact ⟨x, ev, hv, fun _ => rfl, fun q => absurd q hc0, fun q => absurd q hc0⟩
            | exact ⟨x, 0, hv, fun q => absurd rfl q, fun _ _ => (by
                by_cases q : (s.length : Int) = n.nodes
                · have := (ha3 rfl q).2; omega
                · have := (ha2 rfl q).2; omega), fun _ q => absurd (ha3 rfl q).2 hc1⟩
            | exact ⟨x, 0, hv, fun q => absurd rfl q, fun _ q => absurd hsl q, fun _ _ => ⟨fun q => (by simp_all), fun _ => rfl⟩⟩
            | exact ⟨x, 0, hv, fun q => absurd rfl q, fun _ q => absurd hsl q, fun _ _ => ⟨fun _ => rfl, fun q => absurd (And.intro (by assumption) (And.intro (by assumption) (by assumption))) q⟩⟩

theorem reach_len {n : Net4} (hn : Sound n) (f : List Int) : (reach n f).length = n.nodes.toNat := by
  unfold reach
  rw [List.length_map, search_len hn]

theorem refCut_ok (O : Objs) (n : Net4) (f : List Int) (a af : Option Addr) (c cf : Nat) (hlen : n.edges.length ≤ 1000000) (hl : Edges O n a c) (hf : Src O 1 (.slice af f.length cf) f.length (f.map I)) :
    Spec Try.prog false 21 #[netV n a c, .slice af f.length cf] O (CutOut n f O) := by
  refine Spec.enter (args := [_, _]) (m := 43) Try.func21 rfl rfl (by decide +kernel) fun h0 => ?_
  refine WX.seq ?_
  refine WX.region rfl ?_
  refine WXL.box (c := [_, _, _, _]) Met.none rfl rfl rfl (fun b2 => ?_)
  refine WXL.assign Met.none rfl ?_
  refine WXL.assign Met.none rfl ?_
  refine WXL.nil ?_
  refine Fin.then_normal ?_
  refine WX.seq ?_
  refine WX.region rfl ?_
  refine WXL.ldN (vs := [_, _, _, _]) Met.none rfl agg25 sz25 ?_
  refine WXL.cl (O1 := _) Met.none rfl (fnOk_of Try.func14 (by decide +kernel)) rfl (fun _ h => h) (refValid_ok _ n a c src_ hlen) (fun v O' hp => ?_)
  obtain ⟨k0, rfl, hw, rfl⟩ := hp
  refine WXL.assign Met.none rfl ?_
  refine WXL.nil ?_
  refine Fin.then_normal ?_
  refine WX.seq ?_
  refine WX.seq ?_
  refine WX.region rfl ?_
  refine WXL.move Met.none rfl ?_
  refine WXL.bin Met.none rfl rfl rfl ?_
  refine WXL.nil ?_
  refine Fin.then_normal ?_
  refine WX.cond rfl (fun hc0 => ?_) (fun hc0 => ?_)
  · try simp only [cnd] at hc0
    refine WX.seq ?_
    refine WX.region rfl ?_
    refine WXL.move Met.none rfl ?_
    refine WXL.assign Met.none rfl ?_
    refine WXL.assign Met.none rfl ?_
    refine WXL.nil ?_
    refine Fin.then_normal ?_
    refine WX.ret ?_
    refine Fin.then_ret ?_
    first
    | exact Fin.result (O' := [] ++ O) (.inr rfl) rfl rfl drop_ ⟨[], k0, none, 0, [], rfl, ⟨k0, hw, fun _ => ⟨rfl, rfl⟩, fun q => absurd q hc0, fun q => absurd q hc0, fun q => absurd q hc0⟩, .nil, rfl⟩
    | exact Fin.result (O' := [] ++ O) (.inr rfl) rfl rfl drop_ ⟨[], 1, none, 0, [], rfl, ⟨0, hw, fun q => absurd rfl q, fun _ _ => ⟨rfl, rfl⟩, fun _ q => absurd (ht.2 q) (by simp_all), fun _ q => absurd (ht.2 q) (by simp_all)⟩, .nil, rfl⟩
    | exact Fin.result (O' := [] ++ O) (.inr rfl) rfl rfl drop_ ⟨[], 17, none, 0, [], rfl, ⟨0, hw, fun q => absurd rfl q, fun _ q => absurd hfo q, fun _ _ _ => ⟨rfl, rfl⟩, fun _ _ q => absurd q hc2⟩, .nil, rfl⟩
    | (have hk2 : k = (reach n f).length := by rw [reach_len hn]; omega
       subst hk2
       rw [List.take_length] at hG
       exact Fin.result (O' := G ++ O) (.inr rfl) rfl rfl (fun _ => Sat.tl [] 2) ⟨reach n f, 0, ga, gc, G, rfl, ⟨0, hw, fun q => absurd rfl q, fun _ q => absurd hfo q, fun _ _ q => absurd hst q, fun _ _ _ => ⟨rfl, rfl⟩⟩, hG, rfl⟩)
  · try simp only [cnd] at hc0
    refine WX.skip ?_
    refine Fin.then_normal ?_
    refine WX.seq ?_
    refine WX.seq ?_
    have hk0 : k0 = 0 := by omega
    subst hk0
    have hn := hw.sound
    have hnn := hn.nodes
    have hnk := hn.sink
    refine WX.region rfl ?_
    refine WXL.ldN (vs := [_, _, _, _]) Met.none rfl agg25 sz25 ?_
    refine WXL.move Met.none rfl ?_
    refine WXL.cl (O1 := _) Met.none rfl (fnOk_of Try.func45 (by decide +kernel)) rfl (fun _ h => h) (flow_ok _ n f a af c cf hn src_ src_) (fun v O' hp => ?_)
    obtain ⟨t, rfl, ht, rfl⟩ := hp
    refine WXL.not Met.none rfl ?_
    refine WXL.nil ?_
    refine Fin.then_normal ?_
    refine WX.cond rfl (fun hc1 => ?_) (fun hc1 => ?_)
    · try simp only [cnd] at hc1
      refine WX.seq ?_
      refine WX.region rfl ?_
      refine WXL.assign Met.none rfl ?_
      refine WXL.assign Met.none rfl ?_
      refine WXL.nil ?_
      refine Fin.then_normal ?_
      refine WX.ret ?_
      refine Fin.then_ret ?_
      first
      | exact Fin.result (O' := [] ++ O) (.inr rfl) rfl rfl drop_ ⟨[], k0, none, 0, [], rfl, ⟨k0, hw, fun _ => ⟨rfl, rfl⟩, fun q => absurd q hc0, fun q => absurd q hc0, fun q => absurd q hc0⟩, .nil, rfl⟩
      | exact Fin.result (O' := [] ++ O) (.inr rfl) rfl rfl drop_ ⟨[], 1, none, 0, [], rfl, ⟨0, hw, fun q => absurd rfl q, fun _ _ => ⟨rfl, rfl⟩, fun _ q => absurd (ht.2 q) (by simp_all), fun _ q => absurd (ht.2 q) (by simp_all)⟩, .nil, rfl⟩
      | exact Fin.result (O' := [] ++ O) (.inr rfl) rfl rfl drop_ ⟨[], 17, none, 0, [], rfl, ⟨0, hw, fun q => absurd rfl q, fun _ q => absurd hfo q, fun _ _ _ => ⟨rfl, rfl⟩, fun _ _ q => absurd q hc2⟩, .nil, rfl⟩
      | (have hk2 : k = (reach n f).length := by rw [reach_len hn]; omega
         subst hk2
         rw [List.take_length] at hG
         exact Fin.result (O' := G ++ O) (.inr rfl) rfl rfl (fun _ => Sat.tl [] 2) ⟨reach n f, 0, ga, gc, G, rfl, ⟨0, hw, fun q => absurd rfl q, fun _ q => absurd hfo q, fun _ _ q => absurd hst q, fun _ _ _ => ⟨rfl, rfl⟩⟩, hG, rfl⟩)
    · try simp only [cnd] at hc1
      refine WX.skip ?_
      refine Fin.then_normal ?_
      refine WX.seq ?_
      have hfo := ht.1 (by first | exact hc1 | simpa using hc1)
      have hsl := search_len hn f false
      refine WX.region rfl ?_
      refine WXL.ldN (vs := [_, _, _, _]) Met.none rfl agg25 sz25 ?_
      refine WXL.move Met.none rfl ?_
      refine WXL.cl (O1 := _) Met.none rfl (fnOk_of Try.func40 (by decide +kernel)) rfl (fun _ h => h) (refSearch_ok _ n f false a af c cf hn hfo.1 src_ src_) (fun v O' hp => ?_)
      obtain ⟨bB, cB, rfl, hsl2, rfl⟩ := hp
      refine WXL.assign Met.none rfl ?_
      refine WXL.nil ?_
      refine Fin.then_normal ?_
      refine WX.seq ?_
      refine WX.seq ?_
      refine WX.region rfl ?_
      refine WXL.move Met.none rfl ?_
      refine WXL.fieldAddr (off' := 2) Met.none rfl Try.underlying25 rfl sz3 rfl ?_
      first | refine WXL.ld Met.none rfl agg3 ?_ | refine WXL.ldS Met.none rfl agg3 ?_
      first | refine WXL.ix Met.none rfl rfl elem22 sz3 ?_ | refine WXL.ixS Met.none rfl rfl elem22 sz3 ?_
      first | refine WXL.ld Met.none rfl agg3 ?_ | refine WXL.ldS Met.none rfl agg3 ?_
      refine WXL.bin Met.none rfl rfl rfl ?_
      refine WXL.nil ?_
      refine Fin.then_normal ?_
      refine WX.cond rfl (fun hc2 => ?_) (fun hc2 => ?_)
      · try simp only [cnd] at hc2
        refine WX.seq ?_
        refine WX.region rfl ?_
        refine WXL.assign Met.none rfl ?_
        refine WXL.assign Met.none rfl ?_
        refine WXL.nil ?_
        refine Fin.then_normal ?_
        refine WX.ret ?_
        refine Fin.then_ret ?_
        first
        | exact Fin.result (O' := [] ++ O) (.inr rfl) rfl rfl drop_ ⟨[], k0, none, 0, [], rfl, ⟨k0, hw, fun _ => ⟨rfl, rfl⟩, fun q => absurd q hc0, fun q => absurd q hc0, fun q => absurd q hc0⟩, .nil, rfl⟩
        | exact Fin.result (O' := [] ++ O) (.inr rfl) rfl rfl drop_ ⟨[], 1, none, 0, [], rfl, ⟨0, hw, fun q => absurd rfl q, fun _ _ => ⟨rfl, rfl⟩, fun _ q => absurd (ht.2 q) (by simp_all), fun _ q => absurd (ht.2 q) (by simp_all)⟩, .nil, rfl⟩
        | exact Fin.result (O' := [] ++ O) (.inr rfl) rfl rfl drop_ ⟨[], 17, none, 0, [], rfl, ⟨0, hw, fun q => absurd rfl q, fun _ q => absurd hfo q, fun _ _ _ => ⟨rfl, rfl⟩, fun _ _ q => absurd q hc2⟩, .nil, rfl⟩
        | (have hk2 : k = (reach n f).length := by rw [reach_len hn]; omega
           subst hk2
           rw [List.take_length] at hG
           exact Fin.result (O' := G ++ O) (.inr rfl) rfl rfl (fun _ => Sat.tl [] 2) ⟨reach n f, 0, ga, gc, G, rfl, ⟨0, hw, fun q => absurd rfl q, fun _ q => absurd hfo q, fun _ _ q => absurd hst q, fun _ _ _ => ⟨rfl, rfl⟩⟩, hG, rfl⟩)
      · try simp only [cnd] at hc2
        refine WX.skip ?_
        refine Fin.then_normal ?_
        refine WX.seq ?_
        refine WX.region rfl ?_
        refine WXL.assign Met.none rfl ?_
        refine WXL.nil ?_
        refine Fin.then_normal ?_
        refine WX.seq ?_
        refine WX.seq ?_
        refine WX.region rfl ?_
        refine WXL.assign Met.none rfl ?_
        refine WXL.nil ?_
        refine Fin.then_normal ?_
        refine WX.block ?_
        have hst : nth (searchR n f false) n.sink.toNat = -2 := by omega
        refine WX.loop (fun q : Nat × Option Addr × Nat × Objs => [(2, Ptr b2 0), (7, Row bB 0 n.nodes.toNat cB), (8, .slice q.2.1 q.1 q.2.2.1), (9, I (q.1 : Int))]) (fun q => (bB, ⟨1, false, (searchR n f false).map I⟩) :: (b2, ⟨0, false, [I n.nodes, I n.source, I n.sink, .slice a n.edges.length c]⟩) :: (q.2.2.2 ++ O)) (fun q => q.1 ≤ n.nodes.toNat ∧ Grow 1 q.2.1 q.1 q.2.2.1 (((reach n f).take q.1).map Bl) q.2.2.2) (fun q => n.nodes.toNat - q.1) (0, none, 0, []) ⟨by omega, .nil⟩ (fun s hs => hs.tl [0, 1] 2) (fun q hq => ?_)
        obtain ⟨k, ga, gc, G⟩ := q
        obtain ⟨hk1, hG⟩ := hq
        simp only at hk1 hG
        dsimp only
        refine WX.seq ?_
        refine WX.seq ?_
        refine WX.region rfl ?_
        refine WXL.move Met.none rfl ?_
        refine WXL.fieldAddr (off' := 0) Met.none rfl Try.underlying25 rfl sz3 rfl ?_
        first | refine WXL.ld Met.none rfl agg3 ?_ | refine WXL.ldS Met.none rfl agg3 ?_
        refine WXL.bin Met.none rfl rfl rfl ?_
        refine WXL.nil ?_
        refine Fin.then_normal ?_
        refine WX.cond rfl (fun hc3 => ?_) (fun hc3 => ?_)
        · try simp only [cnd] at hc3
          refine WX.skip ?_
          refine Fin.then_normal ?_
          refine WX.seq ?_
          refine WX.block ?_
          refine WX.region rfl ?_
          refine WXL.move Met.none rfl ?_
          refine WXL.move Met.none rfl ?_
          refine WXL.move Met.none rfl ?_
          first | refine WXL.ix Met.none rfl rfl elem22 sz3 ?_ | refine WXL.ixS Met.none rfl rfl elem22 sz3 ?_
          first | refine WXL.ld Met.none rfl agg3 ?_ | refine WXL.ldS Met.none rfl agg3 ?_
          refine WXL.bin Met.none rfl rfl rfl ?_
          refine WXL.buildSlice (c := [_]) Met.none rfl elem46 sz4 zero4 (by decide) (by decide) rfl rfl rfl rfl (fun b40 => ?_)
          refine WXL.apG [_, _, _] Met.none rfl rfl isrow46 elem46 sz4 by4 zero4 (Src.lit (cs := [_])) (fun a41 c41 G41 hG41 => ?_)
          refine WXL.assign Met.none rfl ?_
          refine WXL.nil ?_
          refine Fin.block_normal ?_
          refine Fin.then_normal ?_
          refine WX.region rfl ?_
          refine WXL.move Met.none rfl ?_
          refine WXL.bin Met.none rfl rfl bvA ?_
          refine WXL.assign Met.none rfl ?_
          refine WXL.nil ?_
          refine Fin.loop_next (k + 1, a41, c41, G41) ⟨by simp only; omega, ?_⟩ (by simp only; omega) (fun s hs => hs.tl [1, 2] 3)
          have hr : nth (reach n f) k = decide (nth (searchR n f false) k ≠ -2) := nth_map (by omega)
          rw [take_succ_nth (by rw [reach_len hn]; omega), List.map_append, hr]
          have e : (!decide (nth (searchR n f false) k = -2)) = decide (nth (searchR n f false) k ≠ -2) := by simp
          rw [← e]
          exact hG41
        · try simp only [cnd] at hc3
          refine WX.exit ?_
          refine Fin.then_exit ?_
          refine Fin.loop_exit ?_
          refine Fin.block_hit rfl ?_
          refine Fin.then_normal ?_
          refine WX.seq ?_
          refine WX.region rfl ?_
          refine WXL.move Met.none rfl ?_
          refine WXL.assign Met.none rfl ?_
          refine WXL.assign Met.none rfl ?_
          refine WXL.nil ?_
          refine Fin.then_normal ?_
          refine WX.ret ?_
          first
          | exact Fin.result (O' := [] ++ O) (.inr rfl) rfl rfl drop_ ⟨[], k0, none, 0, [], rfl, ⟨k0, hw, fun _ => ⟨rfl, rfl⟩, fun q => absurd q hc0, fun q => absurd q hc0, fun q => absurd q hc0⟩, .nil, rfl⟩
          | exact Fin.result (O' := [] ++ O) (.inr rfl) rfl rfl drop_ ⟨[], 1, none, 0, [], rfl, ⟨0, hw, fun q => absurd rfl q, fun _ _ => ⟨rfl, rfl⟩, fun _ q => absurd (ht.2 q) (by simp_all), fun _ q => absurd (ht.2 q) (by simp_all)⟩, .nil, rfl⟩
          | exact Fin.result (O' := [] ++ O) (.inr rfl) rfl rfl drop_ ⟨[], 17, none, 0, [], rfl, ⟨0, hw, fun q => absurd rfl q, fun _ q => absurd hfo q, fun _ _ _ => ⟨rfl, rfl⟩, fun _ _ q => absurd q hc2⟩, .nil, rfl⟩
          | (have hk2 : k = (reach n f).length := by rw [reach_len hn]; omega
             subst hk2
             rw [List.take_length] at hG
             exact Fin.result (O' := G ++ O) (.inr rfl) rfl rfl (fun _ => Sat.tl [] 2) ⟨reach n f, 0, ga, gc, G, rfl, ⟨0, hw, fun q => absurd rfl q, fun _ q => absurd hfo q, fun _ _ q => absurd hst q, fun _ _ _ => ⟨rfl, rfl⟩⟩, hG, rfl⟩)

theorem bound_ok (O : Objs) (v : Int) (hv : In64 v) : Spec Try.prog true 44 #[I v, I 2] O fun u O' => ∃ x, u = I x ∧ O' = O := by
  have := around_range (n := v) (m := 5) (by omega)
  refine Spec.enter (args := [_, _]) (m := 12) Try.func44 rfl rfl (by decide +kernel) fun h0 => ?_
  refine WX.seq ?_
  refine WX.region rfl ?_
  refine WXL.assign Met.none rfl ?_
  refine WXL.nil ?_
  refine Fin.then_normal ?_
  refine WX.seq ?_
  refine WX.region rfl ?_
  refine WXL.move Met.none rfl ?_
  refine WXL.move Met.none rfl ?_
  refine WXL.bin Met.none rfl rfl bvM ?_
  refine WXL.bin Met.none rfl rfl bvA ?_
  refine WXL.cl (O1 := _) Met.none rfl (fnOk_of Try.func13 (by decide +kernel)) rfl (fun _ h => h) (around_ok _ _ _ hv (by omega)) (fun v O' hp => ?_)
  obtain ⟨rfl, hO⟩ := hp
  subst O'
  refine WXL.move Met.none rfl ?_
  refine WXL.bin Met.none rfl rfl bvS ?_
  refine WXL.assign Met.none rfl ?_
  refine WXL.nil ?_
  refine Fin.then_normal ?_
  refine WX.ret ?_
  exact Fin.result (O' := O) (.inr rfl) rfl rfl drop_ ⟨_, rfl, rfl⟩

theorem flows_ok (O : Objs) (n : Net4) (l : List Int) (a al : Option Addr) (c cl : Nat) (hn : Sound n) (hl : Edges O n a c) (hm : Src O 1 (.slice al l.length cl) l.length (l.map I)) (h64 : All64 l) (hsh : Short l) :
    Spec Try.prog false 20 #[netV n a c, .slice al l.length cl] O fun v O' => ∃ (g : List Int) (a' : Option Addr) (c' m : Nat) (G : Objs), v = .slice a' m c' ∧ m = g.length ∧ g.length = n.edges.length ∧ Grow 1 a' m c' (g.map I) G ∧ O' = G ++ O := by
  unfold Short at hsh
  have hlen := hn.len
  refine Spec.enter (args := [_, _]) (m := 66) Try.func20 rfl rfl (by decide +kernel) fun h0 => ?_
  refine WX.seq ?_
  refine WX.region rfl ?_
  refine WXL.box (c := [_, _, _, _]) Met.none rfl rfl rfl (fun b2 => ?_)
  refine WXL.assign Met.none rfl ?_
  refine WXL.nil ?_
  refine Fin.then_normal ?_
  refine WX.seq ?_
  refine WX.region rfl ?_
  refine WXL.ldN (vs := [_, _, _, _]) Met.none rfl agg25 sz25 ?_
  refine WXL.cl (O1 := _) Met.none rfl (fnOk_of Try.func17 (by decide +kernel)) rfl (fun _ h => h) (refMax_ok _ n a c hn src_) (fun v O' hp => ?_)
  obtain ⟨r, aF, cF, F, hr, hin, rfl, hF, rfl⟩ := hp
  have hfl := hin.flow
  have hfe := hfl.len
  refine WXL.of (fun s hs => St.swap (G := F) [_] hs) ?_
  refine WXL.move Met.none rfl ?_
  refine WXL.extract Met.none rfl rfl ?_
  refine WXL.extract Met.none rfl rfl ?_
  refine WXL.assign Met.none rfl ?_
  refine WXL.assign Met.none rfl ?_
  refine WXL.nil ?_
  refine Fin.then_normal ?_
  refine WX.seq ?_
  refine WX.seq ?_
  refine WX.region rfl ?_
  refine WXL.move Met.none rfl ?_
  refine WXL.len Met.none rfl Try.underlying22 ?_
  refine WXL.rem Met.none rfl rfl (by omega) ?_
  refine WXL.bin Met.none rfl rfl rfl ?_
  refine WXL.nil ?_
  refine Fin.then_normal ?_
  refine WX.cond rfl (fun hc0 => ?_) (fun hc0 => ?_)
  · try simp only [cnd] at hc0
    refine WX.seq ?_
    refine WX.region rfl ?_
    refine WXL.move Met.none rfl ?_
    refine WXL.assign Met.none rfl ?_
    refine WXL.nil ?_
    refine Fin.then_normal ?_
    refine WX.ret ?_
    refine Fin.then_ret ?_
    first
    | exact Fin.result (O' := F ++ O) (.inr rfl) rfl rfl (fun _ => Sat.tl [] 1) ⟨r.2, aF, cF, _, F, rfl, rfl, hfe, hF, rfl⟩
    | exact Fin.result (O' := G ++ O) (.inr rfl) rfl rfl (fun _ hs => (Sat.tl [] 1 hs).mid) ⟨g, ga, gc, _, G, rfl, rfl, by omega, hG, rfl⟩
    | exact Fin.result (O' := G ++ O) (.inr rfl) rfl rfl (fun _ hs => Sat.mid (G := G) (A := F) (Sat.tl [] 1 hs)) ⟨g, ga, gc, _, G, rfl, rfl, by omega, hG, rfl⟩
    | exact Fin.result (O' := G2 ++ O) (.inr rfl) rfl rfl (fun _ hs => Sat.mid (G := G2) (A := F) (Sat.tl [] 1 hs)) ⟨g2, ga, gc, _, G2, rfl, rfl, by omega, hG2, rfl⟩
  · try simp only [cnd] at hc0
    refine WX.skip ?_
    refine Fin.then_normal ?_
    refine WX.seq ?_
    refine WX.region rfl ?_
    refine WXL.assign Met.none rfl ?_
    refine WXL.nil ?_
    refine Fin.then_normal ?_
    refine WX.seq ?_
    refine WX.seq ?_
    refine WX.region rfl ?_
    refine WXL.assign Met.none rfl ?_
    refine WXL.nil ?_
    refine Fin.then_normal ?_
    refine WX.block ?_
    refine WX.loop (fun q : List Int × Option Addr × Nat × Objs => [(1, .slice al l.length cl), (6, .slice aF r.2.length cF), (7, .slice q.2.1 q.1.length q.2.2.1), (8, I (q.1.length : Int))]) (fun q => (b2, ⟨0, false, [I n.nodes, I n.source, I n.sink, .slice a n.edges.length c]⟩) :: (q.2.2.2 ++ (F ++ O))) (fun q => q.1.length ≤ n.edges.length ∧ Grow 1 q.2.1 q.1.length q.2.2.1 (q.1.map I) q.2.2.2) (fun q => n.edges.length - q.1.length) ([], none, 0, []) ⟨by simp, .nil⟩ (fun s hs => hs.tl [0] 1) (fun q hq => ?_)
    obtain ⟨g, ga, gc, G⟩ := q
    obtain ⟨hgl, hG⟩ := hq
    simp only at hgl hG
    dsimp only
    refine WX.seq ?_
    refine WX.seq ?_
    refine WX.region rfl ?_
    refine WXL.move Met.none rfl ?_
    refine WXL.move Met.none rfl ?_
    refine WXL.len Met.none rfl Try.underlying22 ?_
    refine WXL.bin Met.none rfl rfl rfl ?_
    refine WXL.nil ?_
    refine Fin.then_normal ?_
    refine WX.cond rfl (fun hc1 => ?_) (fun hc1 => ?_)
    · try simp only [cnd] at hc1
      refine WX.skip ?_
      refine Fin.then_normal ?_
      refine WX.seq ?_
      refine WX.block ?_
      have hgf : g.length < r.2.length := by omega
      refine WX.draw rfl ?_
      refine WXL.move Met.none rfl ?_
      refine WXL.move Met.none rfl ?_
      refine WXL.move Met.none rfl ?_
      first | refine WXL.ix Met.none rfl rfl elem22 sz3 ?_ | refine WXL.ixS Met.none rfl rfl elem22 sz3 ?_
      first | refine WXL.ld Met.none rfl agg3 ?_ | refine WXL.ldS Met.none rfl agg3 ?_
      refine WXL.move Met.none rfl ?_
      refine WXL.cl (O1 := _) Met.none rfl (fnOk_of Try.func35 (by decide +kernel)) rfl (fun _ h => h) (pick_ok _ l _ _ 0 2 src_ h64 (by omega)) (fun v O' hp => ?_)
      obtain ⟨rfl, hO⟩ := hp
      subst O'
      refine WXL.bin Met.none rfl rfl rfl ?_
      refine WXL.buildSlice (c := [_]) Met.none rfl elem22 sz3 zero3 (by decide) (by decide) rfl rfl rfl rfl (fun b34 => ?_)
      refine WXL.apG [_, _] Met.none rfl rfl isrow22 elem22 sz3 by3 zero3 (Src.lit (cs := [_])) (fun a35 c35 G35 hG35 => ?_)
      refine WXL.assign Met.none rfl ?_
      refine WXL.nil ?_
      refine Fin.block_normal ?_
      refine Fin.then_normal ?_
      refine WX.region rfl ?_
      refine WXL.move Met.none rfl ?_
      refine WXL.bin Met.none rfl rfl bvA ?_
      refine WXL.assign Met.none rfl ?_
      refine WXL.nil ?_
      refine Fin.loop_next (g ++ [IntKind.wrap .i64 (nth r.2 g.length * pickI l 0 2)], a35, c35, G35) ⟨?_, ?_⟩ ?_ ?_
      · simp only [List.length_append, List.length_singleton]; omega
      · simp only [List.length_append, List.length_singleton, List.map_append]; exact hG35
      · simp only [List.length_append, List.length_singleton]; omega
      · simp only [List.length_append, List.length_singleton, List.map_append]; exact (fun s hs => hs.tl [1] 2)
    · try simp only [cnd] at hc1
      refine WX.exit ?_
      refine Fin.then_exit ?_
      refine Fin.loop_exit ?_
      refine Fin.block_hit rfl ?_
      refine Fin.then_normal ?_
      refine WX.seq ?_
      refine WX.seq ?_
      refine WX.region rfl ?_
      refine WXL.move Met.none rfl ?_
      refine WXL.len Met.none rfl Try.underlying22 ?_
      refine WXL.rem Met.none rfl rfl (by omega) ?_
      refine WXL.bin Met.none rfl rfl rfl ?_
      refine WXL.nil ?_
      refine Fin.then_normal ?_
      refine WX.cond rfl (fun hc2 => ?_) (fun hc2 => ?_)
      · try simp only [cnd] at hc2
        refine WX.seq ?_
        refine WX.region rfl ?_
        refine WXL.assign Met.none rfl ?_
        refine WXL.nil ?_
        refine Fin.then_normal ?_
        refine WX.block ?_
        have hgl2 : g.length = n.edges.length := by omega
        refine WX.loop (fun q : List Int × Nat × Objs => [(1, .slice al l.length cl), (7, .slice ga q.1.length gc), (9, I (q.2.1 : Int))]) (fun q => (b2, ⟨0, false, [I n.nodes, I n.source, I n.sink, .slice a n.edges.length c]⟩) :: (q.2.2 ++ (F ++ O))) (fun q => q.1.length = n.edges.length ∧ q.2.1 ≤ n.edges.length ∧ Grow 1 ga q.1.length gc (q.1.map I) q.2.2) (fun q => n.edges.length - q.2.1) (g, 0, G) ⟨hgl2, by simp, hG⟩ (fun s hs => hs.tl [0] 1) (fun q hq => ?_)
        obtain ⟨g2, i, G2⟩ := q
        obtain ⟨hgl3, hi, hG2⟩ := hq
        simp only at hgl3 hi hG2
        dsimp only
        refine WX.seq ?_
        refine WX.seq ?_
        refine WX.region rfl ?_
        refine WXL.move Met.none rfl ?_
        refine WXL.move Met.none rfl ?_
        refine WXL.len Met.none rfl Try.underlying22 ?_
        refine WXL.bin Met.none rfl rfl rfl ?_
        refine WXL.move Met.none rfl ?_
        refine WXL.split (d := 44) rfl (fun hg44 => ?_) (fun hg44 => ?_)
        · try simp only [cnd] at hg44
          refine WXL.move (Met.some rfl rfl rfl) rfl ?_
          refine WXL.move (Met.some rfl rfl rfl) rfl ?_
          refine WXL.len (Met.some rfl rfl rfl) rfl Try.underlying22 ?_
          refine WXL.bin (Met.some rfl rfl rfl) rfl rfl rfl ?_
          refine WXL.pick_t Met.none rfl rfl ?_
          refine WXL.nil ?_
          refine Fin.then_normal ?_
          refine WX.cond rfl (fun hc3 => ?_) (fun hc3 => ?_)
          · try simp only [cnd] at hc3
            refine WX.skip ?_
            refine Fin.then_normal ?_
            refine WX.seq ?_
            refine WX.block ?_
            have hig : i < g2.length := by omega
            obtain ⟨bG, rfl, rfl, hbl⟩ := hG2.row_of (by omega)
            have hil : i < l.length := by omega
            refine WX.draw rfl ?_
            refine WXL.move Met.none rfl ?_
            refine WXL.move Met.none rfl ?_
            refine WXL.move Met.none rfl ?_
            refine WXL.move Met.none rfl ?_
            first | refine WXL.ix Met.none rfl rfl elem22 sz3 ?_ | refine WXL.ixS Met.none rfl rfl elem22 sz3 ?_
            first | refine WXL.ld Met.none rfl agg3 ?_ | refine WXL.ldS Met.none rfl agg3 ?_
            refine WXL.move Met.none rfl ?_
            refine WXL.move Met.none rfl ?_
            first | refine WXL.ix Met.none rfl rfl elem22 sz3 ?_ | refine WXL.ixS Met.none rfl rfl elem22 sz3 ?_
            first | refine WXL.ld Met.none rfl agg3 ?_ | refine WXL.ldS Met.none rfl agg3 ?_
            refine WXL.cl (O1 := _) Met.none rfl (fnOk_of Try.func44 (by decide +kernel)) rfl (fun _ h => h) (bound_ok _ _ (h64 _ (nth_mem hil))) (fun v O' hp => ?_)
            obtain ⟨y, rfl, rfl⟩ := hp
            refine WXL.bin Met.none rfl rfl rfl ?_
            first | refine WXL.ix Met.none rfl rfl elem22 sz3 ?_ | refine WXL.ixS Met.none rfl rfl elem22 sz3 ?_
            refine WXL.st (vs := [_]) (j := 1) Met.none rfl rfl rfl sz3 ?_ (hj := rfl) (hl := (by rw [List.length_map]; show _ + 1 ≤ _; omega)) (hc := (splice_map I g2 i _ (by omega)))
            refine WXL.nil ?_
            refine Fin.block_normal ?_
            refine Fin.then_normal ?_
            refine WX.region rfl ?_
            refine WXL.move Met.none rfl ?_
            refine WXL.bin Met.none rfl rfl bvA ?_
            refine WXL.assign Met.none rfl ?_
            refine WXL.nil ?_
            refine Fin.loop_next (g2.set i (IntKind.wrap .i64 (nth g2 i + y)), i + 1, [(bG, ⟨1, false, (g2.set i (IntKind.wrap .i64 (nth g2 i + y))).map I⟩)]) ⟨?_, ?_, ?_⟩ ?_ ?_
            · simp only [List.length_set]; omega
            · simp only; omega
            · simp only [List.length_set]; exact .row (by simp)
            · simp only; omega
            · simp only [List.length_set]; exact (fun s hs => hs.tl [0, 1] 2)
          · try simp only [cnd] at hc3
            refine WX.exit ?_
            refine Fin.then_exit ?_
            refine Fin.loop_exit ?_
            refine Fin.block_hit rfl ?_
            refine Fin.then_normal ?_
            refine WX.seq ?_
            refine WX.region rfl ?_
            refine WXL.move Met.none rfl ?_
            refine WXL.assign Met.none rfl ?_
            refine WXL.nil ?_
            refine Fin.then_normal ?_
            refine WX.ret ?_
            first
            | exact Fin.result (O' := F ++ O) (.inr rfl) rfl rfl (fun _ => Sat.tl [] 1) ⟨r.2, aF, cF, _, F, rfl, rfl, hfe, hF, rfl⟩
            | exact Fin.result (O' := G ++ O) (.inr rfl) rfl rfl (fun _ hs => (Sat.tl [] 1 hs).mid) ⟨g, ga, gc, _, G, rfl, rfl, by omega, hG, rfl⟩
            | exact Fin.result (O' := G ++ O) (.inr rfl) rfl rfl (fun _ hs => Sat.mid (G := G) (A := F) (Sat.tl [] 1 hs)) ⟨g, ga, gc, _, G, rfl, rfl, by omega, hG, rfl⟩
            | exact Fin.result (O' := G2 ++ O) (.inr rfl) rfl rfl (fun _ hs => Sat.mid (G := G2) (A := F) (Sat.tl [] 1 hs)) ⟨g2, ga, gc, _, G2, rfl, rfl, by omega, hG2, rfl⟩
        · try simp only [cnd] at hg44
          refine WXL.miss (j := 4) (d := 44) rfl rfl rfl ?_
          refine WXL.miss (j := 4) (d := 44) rfl rfl rfl ?_
          refine WXL.miss (j := 4) (d := 44) rfl rfl rfl ?_
          refine WXL.miss (j := 4) (d := 44) rfl rfl rfl ?_
          refine WXL.pick_f Met.none rfl rfl ?_
          refine WXL.nil ?_
          refine Fin.then_normal ?_
          refine WX.cond rfl (fun hc3 => nomatch hc3) (fun hc3 => ?_)
          refine WX.exit ?_
          refine Fin.then_exit ?_
          refine Fin.loop_exit ?_
          refine Fin.block_hit rfl ?_
          refine Fin.then_normal ?_
          refine WX.seq ?_
          refine WX.region rfl ?_
          refine WXL.move Met.none rfl ?_
          refine WXL.assign Met.none rfl ?_
          refine WXL.nil ?_
          refine Fin.then_normal ?_
          refine WX.ret ?_
          first
          | exact Fin.result (O' := F ++ O) (.inr rfl) rfl rfl (fun _ => Sat.tl [] 1) ⟨r.2, aF, cF, _, F, rfl, rfl, hfe, hF, rfl⟩
          | exact Fin.result (O' := G ++ O) (.inr rfl) rfl rfl (fun _ hs => (Sat.tl [] 1 hs).mid) ⟨g, ga, gc, _, G, rfl, rfl, by omega, hG, rfl⟩
          | exact Fin.result (O' := G ++ O) (.inr rfl) rfl rfl (fun _ hs => Sat.mid (G := G) (A := F) (Sat.tl [] 1 hs)) ⟨g, ga, gc, _, G, rfl, rfl, by omega, hG, rfl⟩
          | exact Fin.result (O' := G2 ++ O) (.inr rfl) rfl rfl (fun _ hs => Sat.mid (G := G2) (A := F) (Sat.tl [] 1 hs)) ⟨g2, ga, gc, _, G2, rfl, rfl, by omega, hG2, rfl⟩
      · try simp only [cnd] at hc2
        refine WX.skip ?_
        refine Fin.then_normal ?_
        refine WX.seq ?_
        refine WX.region rfl ?_
        refine WXL.move Met.none rfl ?_
        refine WXL.assign Met.none rfl ?_
        refine WXL.nil ?_
        refine Fin.then_normal ?_
        refine WX.ret ?_
        first
        | exact Fin.result (O' := F ++ O) (.inr rfl) rfl rfl (fun _ => Sat.tl [] 1) ⟨r.2, aF, cF, _, F, rfl, rfl, hfe, hF, rfl⟩
        | exact Fin.result (O' := G ++ O) (.inr rfl) rfl rfl (fun _ hs => (Sat.tl [] 1 hs).mid) ⟨g, ga, gc, _, G, rfl, rfl, by omega, hG, rfl⟩
        | exact Fin.result (O' := G ++ O) (.inr rfl) rfl rfl (fun _ hs => Sat.mid (G := G) (A := F) (Sat.tl [] 1 hs)) ⟨g, ga, gc, _, G, rfl, rfl, by omega, hG, rfl⟩
        | exact Fin.result (O' := G2 ++ O) (.inr rfl) rfl rfl (fun _ hs => Sat.mid (G := G2) (A := F) (Sat.tl [] 1 hs)) ⟨g2, ga, gc, _, G2, rfl, rfl, by omega, hG2, rfl⟩

end Go.Proofs.Ytjmklialkjncaaa.Eng

set_option linter.unusedVariables false
set_option linter.unusedSimpArgs false
namespace Go.Proofs.Ytjmklialkjncaaa.Eng

theorem own_q (O : Objs) (n : Net4) (a : Option Addr) (c : Nat) (hl : Edges O n a c) (hlen : n.edges.length ≤ 1000000) :
    Spec Try.prog true 16 #[netV n a c] O fun v O' => ∃ a' c' G, v = netV n a' c' ∧ Grow 4 a' n.edges.length c' (flat encE n.edges) G ∧ O' = G ++ O :=
  (Spec.frame (Post := fun v N => ∃ a' c', v = netV n a' c' ∧ Grow 4 a' n.edges.length c' (flat encE n.edges) N)
    ((own_ok (roO O) n a c hl.roh hlen).mono fun v O' ⟨a', c', G, h1, h2, h3⟩ => ⟨G, ⟨a', c', h1, h2⟩, h2.own, h3⟩)).mono fun v O' ⟨N, ⟨a', c', h1, h2⟩, h3⟩ => ⟨a', c', N, h1, h2, h3⟩

theorem cutq_of {f : FuncId} {args : Array Value} {n : Net4} {fl : List Int} {O : Objs} (h : Spec Try.prog false f args (roO O) (CutOut n fl (roO O))) : Spec Try.prog true f args O (CutOut n fl O) :=
  (Spec.frame (Post := fun v N => ∃ s e a' c', v = .tuple #[.slice a' s.length c', I e] ∧ CutR n fl s e ∧ Grow 1 a' s.length c' (s.map Bl) N)
    (h.mono fun v O' ⟨s, e, a', c', G, h1, h2, h3, h4⟩ => ⟨G, ⟨s, e, a', c', h1, h2, h3⟩, h3.own, h4⟩)).mono fun v O' ⟨N, ⟨s, e, a', c', h1, h2, h3⟩, h4⟩ => ⟨s, e, a', c', N, h1, h2, h3, h4⟩

section
variable (O : Objs) (n : Net4) (f : List Int) (s : List Bool) (a af sa : Option Addr) (c cf cs : Nat) (hlen : n.edges.length ≤ 1000000) (hl : Edges O n a c) (hf : Src O 1 (.slice af f.length cf) f.length (f.map I)) (hs : Src O 1 (.slice sa s.length cs) s.length (s.map Bl))

theorem cut_q (hlen : n.edges.length ≤ 1000000) (hl : Edges O n a c) (hf : Src O 1 (.slice af f.length cf) f.length (f.map I)) : Spec Try.prog true 22 #[netV n a c, .slice af f.length cf] O (CutOut n f O) := cutq_of (cut_ok _ n f a af c cf hlen hl.roh hf.roh)
theorem refCut_q (hlen : n.edges.length ≤ 1000000) (hl : Edges O n a c) (hf : Src O 1 (.slice af f.length cf) f.length (f.map I)) : Spec Try.prog true 21 #[netV n a c, .slice af f.length cf] O (CutOut n f O) := cutq_of (refCut_ok _ n f a af c cf hlen hl.roh hf.roh)

theorem value_q (hlen : n.edges.length ≤ 1000000) (hl : Edges O n a c) (hf : Src O 1 (.slice af f.length cf) f.length (f.map I)) : Spec Try.prog true 23 #[netV n a c, .slice af f.length cf] O fun u O' => (∃ x e, u = .tuple #[I x, I e] ∧ ValR n f x e) ∧ O' = O :=
  Spec.frame0 ((value_ok _ n f a af c cf hlen hl.roh hf.roh).mono fun u O' ⟨x, e, h1, h2, h3⟩ => ⟨⟨x, e, h1, h2⟩, h3⟩)
theorem refValue_q (hlen : n.edges.length ≤ 1000000) (hl : Edges O n a c) (hf : Src O 1 (.slice af f.length cf) f.length (f.map I)) : Spec Try.prog true 24 #[netV n a c, .slice af f.length cf] O fun u O' => (∃ x e, u = .tuple #[I x, I e] ∧ ValR n f x e) ∧ O' = O :=
  Spec.frame0 ((refValue_ok _ n f a af c cf hlen hl.roh hf.roh).mono fun u O' ⟨x, e, h1, h2, h3⟩ => ⟨⟨x, e, h1, h2⟩, h3⟩)
theorem check_q (hlen : n.edges.length ≤ 1000000) (hl : Edges O n a c) (hf : Src O 1 (.slice af f.length cf) f.length (f.map I)) (hs : Src O 1 (.slice sa s.length cs) s.length (s.map Bl)) : Spec Try.prog true 26 #[netV n a c, .slice af f.length cf, .slice sa s.length cs] O fun u O' => (∃ e, u = I e ∧ ChkR n f s e) ∧ O' = O :=
  Spec.frame0 ((check_ok _ n f s a af sa c cf cs hlen hl.roh hf.roh hs.roh).mono fun u O' ⟨e, h1, h2, h3⟩ => ⟨⟨e, h1, h2⟩, h3⟩)
theorem refCheck_q (hlen : n.edges.length ≤ 1000000) (hl : Edges O n a c) (hf : Src O 1 (.slice af f.length cf) f.length (f.map I)) (hs : Src O 1 (.slice sa s.length cs) s.length (s.map Bl)) : Spec Try.prog true 27 #[netV n a c, .slice af f.length cf, .slice sa s.length cs] O fun u O' => (∃ e, u = I e ∧ ChkR n f s e) ∧ O' = O :=
  Spec.frame0 ((refCheck_ok _ n f s a af sa c cf cs hlen hl.roh hf.roh hs.roh).mono fun u O' ⟨e, h1, h2, h3⟩ => ⟨⟨e, h1, h2⟩, h3⟩)
theorem across_q (hlen : n.edges.length ≤ 1000000) (hl : Edges O n a c) (hs : Src O 1 (.slice sa s.length cs) s.length (s.map Bl)) : Spec Try.prog true 28 #[netV n a c, .slice sa s.length cs] O fun u O' => (∃ x e, u = .tuple #[I x, I e] ∧ AcrR n s x e) ∧ O' = O :=
  Spec.frame0 ((across_ok _ n s a sa c cs hlen hl.roh hs.roh).mono fun u O' ⟨x, e, h1, h2, h3⟩ => ⟨⟨x, e, h1, h2⟩, h3⟩)
end

theorem tdiv_mod_range {l : List Int} (h : ∀ {x m : Int}, 0 ≤ x → 0 < m → 0 ≤ x.tmod m ∧ x.tmod m < m := tmod_range) : 0 ≤ (netOf l).sink ∧ (netOf l).sink < (netOf l).nodes ∧ (netOf l).sink ≠ (netOf l).source ∧ 0 ≤ (netOf l).source ∧ (netOf l).source < (netOf l).nodes ∧ 2 ≤ (netOf l).nodes ∧ (netOf l).nodes ≤ 8 := by
  have hp0 := pickI_range (l := l) (i := 0) (m := 7) (by omega)
  have hp1 := pickI_range (l := l) (i := 1) (m := 2 + pickI l 0 7) (by omega)
  have hp2 := pickI_range (l := l) (i := 2) (m := 2 + pickI l 0 7 - 1) (by omega)
  unfold netOf
  simp only
  generalize pickI l 0 7 = p0 at *
  generalize pickI l 1 (2 + p0) = p1 at *
  generalize pickI l 2 (2 + p0 - 1) = p2 at *
  have e := h (x := p1 + 1 + p2) (m := 2 + p0) (by omega) (by omega)
  have ee : (p1 + 1 + p2).tmod (2 + p0) = if p1 + 1 + p2 < 2 + p0 then p1 + 1 + p2 else p1 + 1 + p2 - (2 + p0) := by
    rw [Int.tmod_eq_emod_of_nonneg (by omega)]
    split
    · exact Int.emod_eq_of_lt (by omega) (by omega)
    · rw [← Int.sub_emod_right]
      exact Int.emod_eq_of_lt (by omega) (by omega)
  rw [ee]
  split <;> omega

theorem mkEdge_ok {l : List Int} {nodes : Int} (h1 : 2 ≤ nodes) (h2 : nodes ≤ 8) (k : Nat) : 0 ≤ (mkEdge l nodes k).a ∧ (mkEdge l nodes k).a < nodes ∧ 0 ≤ (mkEdge l nodes k).b ∧ (mkEdge l nodes k).b < nodes ∧ (mkEdge l nodes k).a ≠ (mkEdge l nodes k).b ∧
    0 ≤ (mkEdge l nodes k).cap ∧ (mkEdge l nodes k).cap ≤ 1000 ∧ 0 ≤ (mkEdge l nodes k).back ∧ (mkEdge l nodes k).back ≤ 1000 := by
  have ha := pickI_range (l := l) (i := ((3 + 2 * k : Nat) : Int)) (m := nodes) (by omega)
  have hb := around_range (n := (nth l (3 + 2 * k)).tdiv 8) (m := nodes - 1) (by omega)
  have hr := around_range (n := nth l (3 + 2 * k + 1)) (m := 1000) (by omega)
  unfold mkEdge
  simp only
  generalize pickI l ((3 + 2 * k : Nat) : Int) nodes = p at *
  generalize around ((nth l (3 + 2 * k)).tdiv 8) (nodes - 1) = q at *
  generalize around (nth l (3 + 2 * k + 1)) 1000 = r at *
  have h7 := tmod_range (a := r) (b := 7) (by omega) (by omega)
  have hq := (tdiv_bound (a := r) (b := 7) (by omega)).1 (by omega)
  have h6 := tmod_range (a := r.tdiv 7) (b := 6) (by omega) (by omega)
  have ee : (p + 1 + q).tmod nodes = if p + 1 + q < nodes then p + 1 + q else p + 1 + q - nodes := by
    rw [Int.tmod_eq_emod_of_nonneg (by omega)]
    split
    · exact Int.emod_eq_of_lt (by omega) (by omega)
    · rw [← Int.sub_emod_right]
      exact Int.emod_eq_of_lt (by omega) (by omega)
  rw [ee]
  refine ⟨by omega, by omega, ?_, ?_, ?_, by omega, by omega, ?_, ?_⟩
  · split <;> omega
  · split <;> omega
  · split <;> omega
  · split <;> omega
  · split <;> omega

theorem netOf_sound (l : List Int) : Sound (netOf l) := by
  obtain ⟨k1, k2, k3, k4, k5, k6, k7⟩ := tdiv_mod_range (l := l)
  have hnl := netOf_len l
  refine ⟨⟨k6, by omega⟩, by omega, ⟨k4, k5⟩, ⟨k1, k2⟩, fun e => k3 e.symm, fun i hi => ?_⟩
  have e : nth (netOf l).edges i = mkEdge l (netOf l).nodes i := by
    have he : (netOf l).edges = (List.range (min 16 ((l.length - 3) / 2))).map (mkEdge l (netOf l).nodes) := rfl
    have hi' : i < (List.range (min 16 ((l.length - 3) / 2))).length := by rw [he, List.length_map] at hi; exact hi
    rw [he, nth_map hi', nth_get hi', List.getElem_range]
  rw [e]
  have := mkEdge_ok (l := l) k6 k7 i
  unfold BadEdge
  omega

end Go.Proofs.Ytjmklialkjncaaa.Eng

set_option linter.unusedVariables false
set_option linter.unusedSimpArgs false
namespace Go.Proofs.Ytjmklialkjncaaa.Eng

/-- A row with its length and room. -/
structure RowP (α : Type) where
  l : List α
  a : Option Addr
  n : Nat
  c : Nat
  deriving Inhabited

def encR {α : Type} (p : RowP α) : Value := .slice p.a p.n p.c

theorem flowCuts_ok (O : Objs) (l m : List Int) (set at0 : Int) (a am : Option Addr) (c cm : Nat) (hl : Src O 1 (.slice a l.length c) l.length (l.map I)) (h64 : All64 l) (hlen : Short l) (hm : Src O 1 (.slice am m.length cm) m.length (m.map I)) (m64 : All64 m) (mlen : Short m)
    (hset : In64 set) (hat : In64 at0) : Spec Try.prog false 5 #[.slice a l.length c, .slice am m.length cm, I set, I at0] O fun v _ => v = .bool true := by
  have hnl := netOf_len l
  have hn := netOf_sound l
  have hnn := hn.nodes
  have hlen2 := hn.len
  refine Spec.enter (args := [_, _, _, _]) (m := 206) Try.func5 rfl rfl (by decide +kernel) fun h0 => ?_
  refine WX.seq ?_
  refine WX.region rfl ?_
  refine WXL.assign Met.none rfl ?_
  refine WXL.nil ?_
  refine Fin.then_normal ?_
  refine WX.seq ?_
  refine WX.region rfl ?_
  refine WXL.move Met.none rfl ?_
  refine WXL.cl (O1 := _) Met.none rfl (fnOk_of Try.func11 (by decide +kernel)) rfl (fun _ h => h) (network_ok _ l a c src_ h64 hlen) (fun v O' hp => ?_)
  obtain ⟨a1, c1, G1, rfl, hG1, rfl⟩ := hp
  refine WXL.alloc (c := [_, _, _, _]) Met.none zero25 rfl (fun b9 => ?_)
  refine WXL.st (vs := [_, _, _, _]) (c' := [_, _, _, _]) Met.none rfl rfl rfl sz25 ?_
  refine WXL.nil ?_
  refine Fin.then_normal ?_
  refine WX.seq ?_
  refine WX.region rfl ?_
  refine WXL.ldN (vs := [_, _, _, _]) Met.none rfl agg25 sz25 ?_
  refine WXL.move Met.none rfl ?_
  refine WXL.cl (O1 := _) Met.none rfl (fnOk_of Try.func20 (by decide +kernel)) rfl (fun _ h => h) (flows_ok _ (netOf l) m a1 am c1 cm hn src_ src_ m64 mlen) (fun v O' hp => ?_)
  obtain ⟨fl, aF, cF, mF, GF, rfl, rfl, hfl, hGF, rfl⟩ := hp
  refine WXL.of (fun s hs => St.swap (G := GF) [_] hs) ?_
  refine WXL.assign Met.none rfl ?_
  refine WXL.nil ?_
  refine Fin.then_normal ?_
  refine WX.seq ?_
  refine WX.region rfl ?_
  refine WXL.ldN (vs := [_, _, _, _]) Met.none rfl agg25 sz25 ?_
  refine WXL.cl (O1 := _) Met.none rfl (fnOk_of Try.func17 (by decide +kernel)) rfl (fun _ h => h) (refMax_ok _ (netOf l) a1 c1 hn src_) (fun v O' hp => ?_)
  obtain ⟨r, aB, cB, GB, hr, hin, rfl, hGB, rfl⟩ := hp
  have hrl := hin.flow.len
  refine WXL.of (fun s hs => St.swap (G := GB) [_] hs) ?_
  refine WXL.move Met.none rfl ?_
  refine WXL.extract Met.none rfl rfl ?_
  refine WXL.extract Met.none rfl rfl ?_
  refine WXL.assign Met.none rfl ?_
  refine WXL.assign Met.none rfl ?_
  refine WXL.nil ?_
  refine Fin.then_normal ?_
  refine WX.seq ?_
  refine WX.region rfl ?_
  refine WXL.ldN (vs := [_, _, _, _]) Met.none rfl agg25 sz25 ?_
  refine WXL.move Met.none rfl ?_
  refine WXL.cl (O1 := _) Met.none rfl (fnOk_of Try.func21 (by decide +kernel)) rfl (fun _ h => h) (refCut_ok _ (netOf l) r.2 a1 aB c1 cB (by omega) src_ src_) (fun v O' hp => ?_)
  obtain ⟨s0, e0, aS, cS, GS, rfl, hcut, hGS, rfl⟩ := hp
  refine WXL.of (fun s hs => St.swap (G := GS) [_] hs) ?_
  refine WXL.move Met.none rfl ?_
  refine WXL.extract Met.none rfl rfl ?_
  refine WXL.extract Met.none rfl rfl ?_
  refine WXL.assign Met.none rfl ?_
  refine WXL.assign Met.none rfl ?_
  refine WXL.nil ?_
  refine Fin.then_normal ?_
  refine WX.seq ?_
  refine WX.region rfl ?_
  refine WXL.assign Met.none rfl ?_
  refine WXL.nil ?_
  refine Fin.then_normal ?_
  refine WX.seq ?_
  refine WX.seq ?_
  refine WX.region rfl ?_
  refine WXL.assign Met.none rfl ?_
  refine WXL.nil ?_
  refine Fin.then_normal ?_
  refine WX.block ?_
  refine WX.loop (fun q : List Bool × Option Addr × Nat × Objs => [(2, I set), (3, I at0), (9, Ptr b9 0), (10, .slice aF fl.length cF), (12, .slice aB r.2.length cB), (13, .slice aS s0.length cS), (15, .slice q.2.1 q.1.length q.2.2.1), (16, I (q.1.length : Int))]) (fun q => (b9, ⟨0, false, [I (netOf l).nodes, I (netOf l).source, I (netOf l).sink, .slice a1 (netOf l).edges.length c1]⟩) :: (q.2.2.2 ++ (GS ++ (GB ++ (GF ++ (G1 ++ O)))))) (fun q => q.1.length ≤ (netOf l).nodes.toNat ∧ Grow 1 q.2.1 q.1.length q.2.2.1 (q.1.map Bl) q.2.2.2) (fun q => (netOf l).nodes.toNat - q.1.length) ([], none, 0, []) ⟨by simp, .nil⟩ (fun s hs => hs.tl [0] 1) (fun q hq => ?_)
  obtain ⟨od, ao, co, Go⟩ := q
  obtain ⟨hol, hGo⟩ := hq
  simp only at hol hGo
  dsimp only
  refine WX.seq ?_
  refine WX.seq ?_
  refine WX.region rfl ?_
  refine WXL.move Met.none rfl ?_
  refine WXL.fieldAddr (off' := 0) Met.none rfl Try.underlying25 rfl sz3 rfl ?_
  first | refine WXL.ld Met.none rfl agg3 ?_ | refine WXL.ldS Met.none rfl agg3 ?_
  refine WXL.bin Met.none rfl rfl rfl ?_
  refine WXL.nil ?_
  refine Fin.then_normal ?_
  refine WX.cond rfl (fun hc0 => ?_) (fun hc0 => ?_)
  · try simp only [cnd] at hc0
    refine WX.skip ?_
    refine Fin.then_normal ?_
    refine WX.seq ?_
    refine WX.block ?_
    refine WX.region rfl ?_
    refine WXL.move Met.none rfl ?_
    refine WXL.move Met.none rfl ?_
    refine WXL.move Met.none rfl ?_
    refine WXL.shr Met.none rfl rfl (by omega) ?_
    refine WXL.bin Met.none rfl rfl rfl ?_
    refine WXL.bin Met.none rfl rfl rfl ?_
    refine WXL.buildSlice (c := [_]) Met.none rfl elem46 sz4 zero4 (by decide) (by decide) rfl rfl rfl rfl (fun b61 => ?_)
    refine WXL.apG [_, _] Met.none rfl rfl isrow46 elem46 sz4 by4 zero4 (Src.lit (cs := [_])) (fun a62 c62 G62 hG62 => ?_)
    refine WXL.assign Met.none rfl ?_
    refine WXL.nil ?_
    refine Fin.block_normal ?_
    refine Fin.then_normal ?_
    refine WX.region rfl ?_
    refine WXL.move Met.none rfl ?_
    refine WXL.bin Met.none rfl rfl bvA ?_
    refine WXL.assign Met.none rfl ?_
    refine WXL.nil ?_
    have hG' : ∃ bb : Bool, Grow 1 a62 (od.length + 1) c62 ((od ++ [bb]).map Bl) G62 := ⟨_, by rw [List.map_append]; exact hG62⟩
    obtain ⟨bb, hG'⟩ := hG'
    refine Fin.loop_next (od ++ [bb], a62, c62, G62) ⟨?_, ?_⟩ ?_ ?_
    · simp only [List.length_append, List.length_singleton]; omega
    · simp only [List.length_append, List.length_singleton]; exact hG'
    · simp only [List.length_append, List.length_singleton]; omega
    · simp only [List.length_append, List.length_singleton]; exact (fun s hs => hs.tl [1] 2)
  · try simp only [cnd] at hc0
    refine WX.exit ?_
    refine Fin.then_exit ?_
    refine Fin.loop_exit ?_
    refine Fin.block_hit rfl ?_
    refine Fin.then_normal ?_
    refine WX.seq ?_
    have hol2 : od.length = (netOf l).nodes.toNat := by omega
    refine WX.region rfl ?_
    refine WXL.move Met.none rfl ?_
    refine WXL.move Met.none rfl ?_
    refine WXL.move Met.none rfl ?_
    refine WXL.fieldAddr (off' := 0) Met.none rfl Try.underlying25 rfl sz3 rfl ?_
    first | refine WXL.ld Met.none rfl agg3 ?_ | refine WXL.ldS Met.none rfl agg3 ?_
    refine WXL.bin Met.none rfl rfl bvS ?_
    refine WXL.pre (m := ((netOf l).nodes.toNat - 1)) Met.none rfl rfl elem46 sz4 rowy_ (fun h => (hGo.nil0 h).1) ?_
    refine WXL.buildSlice (c := [_, _, _]) Met.none rfl elem49 sz46 zero46 (by decide) (by decide) rfl rfl rfl rfl (fun b70 => ?_)
    refine WXL.assign Met.none rfl ?_
    refine WXL.nil ?_
    refine Fin.then_normal ?_
    refine WX.seq ?_
    refine WX.draw rfl ?_
    refine WXL.move Met.none rfl ?_
    refine WXL.move Met.none rfl ?_
    refine WXL.buildSlice (c := []) Met.none rfl elem22 sz3 zero3 (by decide) (by decide) rfl rfl rfl rfl (fun b73 => ?_)
    refine WXL.move Met.none rfl ?_
    refine WXL.ap Met.none rfl rfl isrow22 elem22 sz3 by3 zero3 src_ (fun b75 => ?_) (hl := (by simp))
    refine WXL.buildSlice (c := [_]) Met.none rfl elem22 sz3 zero3 (by decide) (by decide) rfl rfl rfl rfl (fun b76 => ?_)
    refine WXL.ap Met.none rfl rfl isrow22 elem22 sz3 by3 zero3 (Src.lit (cs := [_])) (fun b77 => ?_) (hl := (by simp))
    refine WXL.move Met.none rfl ?_
    refine WXL.move Met.none rfl ?_
    refine WXL.len Met.none rfl Try.underlying22 ?_
    refine WXL.qu Met.none rfl rfl ?_ (hb := (by omega))
    refine WXL.pre (m := (r.2.length / 2)) Met.none rfl rfl elem22 sz3 rowy_ (fun h => (hGB.nil0 h).1) ?_ (hj := (by rw [Int.tdiv_eq_ediv_of_nonneg (by omega)]; omega))
    refine WXL.buildSlice (c := [_, _, _, _]) Met.none rfl elem50 sz22 zero22 (by decide) (by decide) rfl rfl rfl rfl (fun b83 => ?_)
    refine WXL.assign Met.none rfl ?_
    refine WXL.nil ?_
    refine Fin.then_normal ?_
    refine WX.seq ?_
    refine WX.seq ?_
    refine WX.region rfl ?_
    refine WXL.assign Met.none rfl ?_
    refine WXL.nil ?_
    refine Fin.then_normal ?_
    refine WX.block ?_
    obtain ⟨Fl, hFl⟩ : ∃ Fl : List (RowP Int), Fl = [⟨fl, aF, fl.length, cF⟩, ⟨r.2, aB, r.2.length, cB⟩, ⟨r.2 ++ [0], some ⟨b77, 0, none⟩, 0 + r.2.length + 1, 0 + r.2.length + 1⟩, ⟨r.2.take (r.2.length / 2), aB, r.2.length / 2, r.2.length / 2⟩] := ⟨_, rfl⟩
    obtain ⟨Sl, hSl⟩ : ∃ Sl : List (RowP Bool), Sl = [⟨s0, aS, s0.length, cS⟩, ⟨od, ao, od.length, co⟩, ⟨od.take ((netOf l).nodes.toNat - 1), ao, (netOf l).nodes.toNat - 1, (netOf l).nodes.toNat - 1⟩] := ⟨_, rfl⟩
    have hFll : Fl.length = 4 := by rw [hFl]; rfl
    have hSll : Sl.length = 3 := by rw [hSl]; rfl
    obtain ⟨T, hT⟩ : ∃ T : Objs, T = (b77, ⟨1, false, (r.2 ++ [0]).map I⟩) :: (Go ++ (GS ++ (GB ++ (GF ++ (G1 ++ O))))) := ⟨_, rfl⟩
    have hE : Edges T (netOf l) a1 c1 := by
      rw [hT]
      exact Src.cons (Src.app (Src.app (Src.app (Src.app hG1.src))))
    have hF : ∀ k, k < 4 → Src T 1 (.slice (nth Fl k).a (nth Fl k).n (nth Fl k).c) (nth Fl k).n ((nth Fl k).l.map I) ∧ (nth Fl k).n = (nth Fl k).l.length := by
      intro k hk
      rw [hT, hFl]
      have : k = 0 ∨ k = 1 ∨ k = 2 ∨ k = 3 := by omega
      rcases this with rfl | rfl | rfl | rfl
      · exact ⟨Src.cons (Src.app (Src.app (Src.app hGF.src))), rfl⟩
      · exact ⟨Src.cons (Src.app (Src.app hGB.src)), rfl⟩
      · refine ⟨Src.whole (Knows.at 0 rfl) ?_, ?_⟩
        · show ((r.2 ++ [0]).map I).length = (0 + r.2.length + 1) * 1
          simp
        · show 0 + r.2.length + 1 = (r.2 ++ [0]).length
          simp
      · refine ⟨?_, ?_⟩
        · have := ((hGB.rowy (R := GF ++ (G1 ++ O))).pre (m := r.2.length / 2) (by omega)).src (c := r.2.length / 2) (fun h => by have := (hGB.nil0 h).2; omega)
          rw [← List.map_take, Nat.mul_one] at this
          exact Src.cons (Src.app (Src.app this))
        · show r.2.length / 2 = (r.2.take (r.2.length / 2)).length
          rw [List.length_take]; omega
    have hS : ∀ k, k < 3 → Src T 1 (.slice (nth Sl k).a (nth Sl k).n (nth Sl k).c) (nth Sl k).n ((nth Sl k).l.map Bl) ∧ (nth Sl k).n = (nth Sl k).l.length := by
      intro k hk
      rw [hT, hSl]
      have : k = 0 ∨ k = 1 ∨ k = 2 := by omega
      rcases this with rfl | rfl | rfl
      · exact ⟨Src.cons (Src.app hGS.src), rfl⟩
      · exact ⟨Src.cons hGo.src, rfl⟩
      · refine ⟨?_, ?_⟩
        · have := ((hGo.rowy (R := GS ++ (GB ++ (GF ++ (G1 ++ O))))).pre (m := (netOf l).nodes.toNat - 1) (by omega)).src (c := (netOf l).nodes.toNat - 1) (fun h => by have := (hGo.nil0 h).2; omega)
          rw [← List.map_take, Nat.mul_one] at this
          exact Src.cons this
        · show (netOf l).nodes.toNat - 1 = (od.take ((netOf l).nodes.toNat - 1)).length
          rw [List.length_take]; omega
    have hO1 := hS 1 (by omega)
    have hod : Src T 1 (.slice ao od.length co) od.length (od.map Bl) := by
      rw [hSl] at hO1
      exact hO1.1
    have hrow : Rowy T 1 ao od.length (od.map Bl) := by
      rw [hT]
      exact Rowy.cons hGo.rowy
    have hao : ao = none → co = 0 := fun h => (hGo.nil0 h).1
    refine WX.loop (fun k : Nat => [(3, I at0), (9, Ptr b9 0), (15, .slice ao od.length co), (17, Row b70 0 3 3), (18, Row b83 0 4 4), (19, I (k : Int))]) (fun _ => (b83, ⟨1, false, Fl.map encR⟩) :: (b70, ⟨1, false, Sl.map encR⟩) :: (b9, ⟨0, false, [I (netOf l).nodes, I (netOf l).source, I (netOf l).sink, .slice a1 (netOf l).edges.length c1]⟩) :: T) (fun k => k ≤ 4) (fun k => 4 - k) 0 (by omega) ?_ (fun k hk => ?_)
    · rw [hFl, hSl, hT]
      exact (fun s hs => hs.tl [0, 3, 4, 2] 5 (hO := by simp only [List.map_append]; exact rfl))
    refine WX.seq ?_
    refine WX.seq ?_
    refine WX.region rfl ?_
    refine WXL.move Met.none rfl ?_
    refine WXL.bin Met.none rfl rfl rfl ?_
    refine WXL.nil ?_
    refine Fin.then_normal ?_
    refine WX.cond rfl (fun hc1 => ?_) (fun hc1 => ?_)
    · try simp only [cnd] at hc1
      refine WX.skip ?_
      refine Fin.then_normal ?_
      refine WX.seq ?_
      refine WX.block ?_
      refine WX.seq ?_
      obtain ⟨hFs, hFn⟩ := hF k (by omega)
      have hFk : k < Fl.length := by omega
      rw [hFn] at hFs
      refine WX.draw rfl ?_
      refine WXL.ldN (vs := [_, _, _, _]) Met.none rfl agg25 sz25 ?_
      refine WXL.cl (O1 := _) Met.none rfl (fnOk_of Try.func16 (by decide +kernel)) rfl (fun _ h => h) (own_q _ (netOf l) a1 c1 src_ (by omega)) (fun v O' hp => ?_)
      obtain ⟨a3, c3, G3, rfl, hG3, rfl⟩ := hp
      refine WXL.of (fun s hs => St.swap (G := G3) [_, _, _] hs) ?_
      refine WXL.move Met.none rfl ?_
      refine WXL.move Met.none rfl ?_
      first | refine WXL.ix Met.none rfl rfl elem50 sz22 ?_ | refine WXL.ixS Met.none rfl rfl elem50 sz22 ?_
      first | refine WXL.ld Met.none rfl agg22 ?_ (hv := (cell_map encR Fl k hFk)) | refine WXL.ldS Met.none rfl agg22 ?_ (hv := (cell_map encR Fl k hFk))
      unfold encR; rw [hFn]
      refine WXL.cl (O1 := _) Met.none rfl (fnOk_of Try.func22 (by decide +kernel)) rfl (fun _ h => h) (cut_q _ (netOf l) (nth Fl k).l a3 (nth Fl k).a c3 (nth Fl k).c (by omega) src_ src_) (fun v O' hp => ?_)
      obtain ⟨s1, e1, a4, c4, G4, rfl, hc1x, hG4, rfl⟩ := hp
      refine WXL.of (fun s hs => St.swap (G := G4) [_, _, _] hs) ?_
      refine WXL.move Met.none rfl ?_
      refine WXL.extract Met.none rfl rfl ?_
      refine WXL.extract Met.none rfl rfl ?_
      refine WXL.assign Met.none rfl ?_
      refine WXL.assign Met.none rfl ?_
      refine WXL.nil ?_
      refine Fin.then_normal ?_
      refine WX.seq ?_
      refine WX.draw rfl ?_
      refine WXL.ldN (vs := [_, _, _, _]) Met.none rfl agg25 sz25 ?_
      refine WXL.move Met.none rfl ?_
      refine WXL.move Met.none rfl ?_
      first | refine WXL.ix Met.none rfl rfl elem50 sz22 ?_ | refine WXL.ixS Met.none rfl rfl elem50 sz22 ?_
      first | refine WXL.ld Met.none rfl agg22 ?_ (hv := (cell_map encR Fl k hFk)) | refine WXL.ldS Met.none rfl agg22 ?_ (hv := (cell_map encR Fl k hFk))
      unfold encR; rw [hFn]
      refine WXL.cl (O1 := _) Met.none rfl (fnOk_of Try.func21 (by decide +kernel)) rfl (fun _ h => h) (refCut_q _ (netOf l) (nth Fl k).l a1 (nth Fl k).a c1 (nth Fl k).c (by omega) src_ src_) (fun v O' hp => ?_)
      obtain ⟨s2, e2, a5, c5, G5, rfl, hc2x, hG5, rfl⟩ := hp
      obtain ⟨rfl, rfl⟩ := hc1x.uniq hc2x
      refine WXL.of (fun s hs => St.swap (G := G5) [_, _, _] hs) ?_
      refine WXL.move Met.none rfl ?_
      refine WXL.extract Met.none rfl rfl ?_
      refine WXL.extract Met.none rfl rfl ?_
      refine WXL.assign Met.none rfl ?_
      refine WXL.assign Met.none rfl ?_
      refine WXL.nil ?_
      refine Fin.then_normal ?_
      refine WX.seq ?_
      refine WX.draw rfl ?_
      refine WXL.ldN (vs := [_, _, _, _]) Met.none rfl agg25 sz25 ?_
      refine WXL.cl (O1 := _) Met.none rfl (fnOk_of Try.func16 (by decide +kernel)) rfl (fun _ h => h) (own_q _ (netOf l) a1 c1 src_ (by omega)) (fun v O' hp => ?_)
      obtain ⟨a6, c6, G6, rfl, hG6, rfl⟩ := hp
      refine WXL.of (fun s hs => St.swap (G := G6) [_, _, _] hs) ?_
      refine WXL.move Met.none rfl ?_
      refine WXL.move Met.none rfl ?_
      first | refine WXL.ix Met.none rfl rfl elem50 sz22 ?_ | refine WXL.ixS Met.none rfl rfl elem50 sz22 ?_
      first | refine WXL.ld Met.none rfl agg22 ?_ (hv := (cell_map encR Fl k hFk)) | refine WXL.ldS Met.none rfl agg22 ?_ (hv := (cell_map encR Fl k hFk))
      unfold encR; rw [hFn]
      refine WXL.cl (O1 := _) Met.none rfl (fnOk_of Try.func23 (by decide +kernel)) rfl (fun _ h => h) (value_q _ (netOf l) (nth Fl k).l a6 (nth Fl k).a c6 (nth Fl k).c (by omega) src_ src_) (fun v O' hp => ?_)
      obtain ⟨⟨x1, ev1, rfl, hv1⟩, rfl⟩ := hp
      refine WXL.move Met.none rfl ?_
      refine WXL.extract Met.none rfl rfl ?_
      refine WXL.extract Met.none rfl rfl ?_
      refine WXL.assign Met.none rfl ?_
      refine WXL.assign Met.none rfl ?_
      refine WXL.nil ?_
      refine Fin.then_normal ?_
      refine WX.seq ?_
      refine WX.draw rfl ?_
      refine WXL.ldN (vs := [_, _, _, _]) Met.none rfl agg25 sz25 ?_
      refine WXL.move Met.none rfl ?_
      refine WXL.move Met.none rfl ?_
      first | refine WXL.ix Met.none rfl rfl elem50 sz22 ?_ | refine WXL.ixS Met.none rfl rfl elem50 sz22 ?_
      first | refine WXL.ld Met.none rfl agg22 ?_ (hv := (cell_map encR Fl k hFk)) | refine WXL.ldS Met.none rfl agg22 ?_ (hv := (cell_map encR Fl k hFk))
      unfold encR; rw [hFn]
      refine WXL.cl (O1 := _) Met.none rfl (fnOk_of Try.func24 (by decide +kernel)) rfl (fun _ h => h) (refValue_q _ (netOf l) (nth Fl k).l a1 (nth Fl k).a c1 (nth Fl k).c (by omega) src_ src_) (fun v O' hp => ?_)
      obtain ⟨⟨x2, ev2, rfl, hv2⟩, rfl⟩ := hp
      obtain ⟨rfl, rfl⟩ := hv1.uniq hv2
      refine WXL.move Met.none rfl ?_
      refine WXL.extract Met.none rfl rfl ?_
      refine WXL.extract Met.none rfl rfl ?_
      refine WXL.assign Met.none rfl ?_
      refine WXL.assign Met.none rfl ?_
      refine WXL.nil ?_
      refine Fin.then_normal ?_
      refine WX.seq ?_
      refine WX.seq ?_
      have hs1l : Short s1 := by
        obtain ⟨kk, q1, q2, q3, q4, q5⟩ := hc1x
        have hkk := hn.wrong q1
        by_cases w1 : FlowOk (netOf l) (nth Fl k).l
        · by_cases w2 : nth (searchR (netOf l) (nth Fl k).l false) (netOf l).sink.toNat = -2
          · rw [(q5 hkk w1 w2).1]
            unfold Short
            rw [reach_len hn]
            omega
          · rw [(q4 hkk w1 w2).1]; unfold Short; simp
        · rw [(q3 hkk w1).1]; unfold Short; simp
      refine WX.region rfl ?_
      refine WXL.move Met.none rfl ?_
      refine WXL.move Met.none rfl ?_
      refine WXL.bin Met.none rfl rfl rfl ?_
      refine WXL.move Met.none rfl ?_
      refine WXL.split (d := 129) rfl (fun hg129 => ?_) (fun hg129 => ?_)
      · try simp only [cnd] at hg129
        exact absurd hg129 (by simp) --end
      · try simp only [cnd] at hg129
        refine WXL.move (Met.some rfl rfl rfl) rfl ?_
        refine WXL.move (Met.some rfl rfl rfl) rfl ?_
        refine WXL.bin (Met.some rfl rfl rfl) rfl rfl rfl ?_
        refine WXL.pick_f Met.none rfl rfl ?_
        refine WXL.move Met.none rfl ?_
        refine WXL.split (d := 134) rfl (fun hg134 => ?_) (fun hg134 => ?_)
        · try simp only [cnd] at hg134
          exact absurd hg134 (by simp) --end
        · try simp only [cnd] at hg134
          refine WXL.move (Met.some rfl rfl rfl) rfl ?_
          refine WXL.move (Met.some rfl rfl rfl) rfl ?_
          refine WXL.bin (Met.some rfl rfl rfl) rfl rfl rfl ?_
          refine WXL.pick_f Met.none rfl rfl ?_
          refine WXL.move Met.none rfl ?_
          refine WXL.split (d := 139) rfl (fun hg139 => ?_) (fun hg139 => ?_)
          · try simp only [cnd] at hg139
            exact absurd hg139 (by simp) --end
          · try simp only [cnd] at hg139
            refine WXL.move (Met.some rfl rfl rfl) rfl ?_
            refine WXL.move (Met.some rfl rfl rfl) rfl ?_
            refine WXL.cl (O1 := _) (Met.some rfl rfl rfl) rfl (fnOk_of Try.func25 (by decide +kernel)) rfl (fun _ h => h) (sides_ok _ s1 s1 a4 a5 c4 c5 hs1l src_ src_) (fun v O' hp => ?_)
            obtain ⟨rfl, hO⟩ := hp
            subst O'
            refine WXL.not (Met.some rfl rfl rfl) rfl ?_
            refine WXL.pick_f Met.none rfl rfl ?_
            refine WXL.nil ?_
            refine Fin.then_normal ?_
            refine WX.cond rfl (fun hc2 => ?_) (fun hc2 => ?_)
            · try simp only [cnd] at hc2
              exact absurd hc2 (by simp) --end
            · try simp only [cnd] at hc2
              refine WX.skip ?_
              refine Fin.then_normal ?_
              refine WX.seq ?_
              refine WX.region rfl ?_
              refine WXL.assign Met.none rfl ?_
              refine WXL.nil ?_
              refine Fin.then_normal ?_
              refine WX.block ?_
              refine WX.loop (fun j : Nat => [(3, I at0), (9, Ptr b9 0), (15, .slice ao od.length co), (17, Row b70 0 3 3), (18, Row b83 0 4 4), (19, I (k : Int)), (28, I (j : Int))]) (fun _ => (b83, ⟨1, false, Fl.map encR⟩) :: (b70, ⟨1, false, Sl.map encR⟩) :: (b9, ⟨0, false, [I (netOf l).nodes, I (netOf l).source, I (netOf l).sink, .slice a1 (netOf l).edges.length c1]⟩) :: T) (fun j => j ≤ 3) (fun j => 3 - j) 0 (by omega) ?_ (fun j hj => ?_)
              · exact fun s hs => St.mid (G := [_, _, _]) (A := G3) (St.mid (G := [_, _, _]) (A := G4) (St.mid (G := [_, _, _]) (A := G5) (St.mid (G := [_, _, _]) (A := G6) (hs.tl (L' := [(3, I at0), (9, Ptr b9 0), (15, .slice ao od.length co), (17, Row b70 0 3 3), (18, Row b83 0 4 4), (19, I (k : Int)), (28, I ((0 : Nat) : Int))]) [0, 1, 2] 3))))
              refine WX.seq ?_
              refine WX.seq ?_
              refine WX.region rfl ?_
              refine WXL.move Met.none rfl ?_
              refine WXL.bin Met.none rfl rfl rfl ?_
              refine WXL.nil ?_
              refine Fin.then_normal ?_
              refine WX.cond rfl (fun hc3 => ?_) (fun hc3 => ?_)
              · try simp only [cnd] at hc3
                refine WX.skip ?_
                refine Fin.then_normal ?_
                refine WX.seq ?_
                refine WX.block ?_
                refine WX.seq ?_
                obtain ⟨hSs, hSn⟩ := hS j (by omega)
                have hSk : j < Sl.length := by omega
                rw [hSn] at hSs
                refine WX.draw rfl ?_
                refine WXL.ldN (vs := [_, _, _, _]) Met.none rfl agg25 sz25 ?_
                refine WXL.cl (O1 := _) Met.none rfl (fnOk_of Try.func16 (by decide +kernel)) rfl (fun _ h => h) (own_q _ (netOf l) a1 c1 src_ (by omega)) (fun v O' hp => ?_)
                obtain ⟨a7, c7, G7, rfl, hG7, rfl⟩ := hp
                refine WXL.of (fun s hs => St.swap (G := G7) [_, _, _] hs) ?_
                refine WXL.move Met.none rfl ?_
                refine WXL.move Met.none rfl ?_
                first | refine WXL.ix Met.none rfl rfl elem50 sz22 ?_ | refine WXL.ixS Met.none rfl rfl elem50 sz22 ?_
                first | refine WXL.ld Met.none rfl agg22 ?_ (hv := (cell_map encR Fl k hFk)) | refine WXL.ldS Met.none rfl agg22 ?_ (hv := (cell_map encR Fl k hFk))
                refine WXL.move Met.none rfl ?_
                refine WXL.move Met.none rfl ?_
                first | refine WXL.ix Met.none rfl rfl elem49 sz46 ?_ | refine WXL.ixS Met.none rfl rfl elem49 sz46 ?_
                first | refine WXL.ld Met.none rfl agg46 ?_ (hv := (cell_map encR Sl j hSk)) | refine WXL.ldS Met.none rfl agg46 ?_ (hv := (cell_map encR Sl j hSk))
                unfold encR; rw [hFn, hSn]
                refine WXL.cl (O1 := _) Met.none rfl (fnOk_of Try.func26 (by decide +kernel)) rfl (fun _ h => h) (check_q _ (netOf l) (nth Fl k).l (nth Sl j).l a7 (nth Fl k).a (nth Sl j).a c7 (nth Fl k).c (nth Sl j).c (by omega) src_ src_ src_) (fun v O' hp => ?_)
                obtain ⟨⟨y1, rfl, hy1⟩, rfl⟩ := hp
                refine WXL.ldN (vs := [_, _, _, _]) Met.none rfl agg25 sz25 ?_
                refine WXL.move Met.none rfl ?_
                refine WXL.move Met.none rfl ?_
                first | refine WXL.ix Met.none rfl rfl elem50 sz22 ?_ | refine WXL.ixS Met.none rfl rfl elem50 sz22 ?_
                first | refine WXL.ld Met.none rfl agg22 ?_ (hv := (cell_map encR Fl k hFk)) | refine WXL.ldS Met.none rfl agg22 ?_ (hv := (cell_map encR Fl k hFk))
                refine WXL.move Met.none rfl ?_
                refine WXL.move Met.none rfl ?_
                first | refine WXL.ix Met.none rfl rfl elem49 sz46 ?_ | refine WXL.ixS Met.none rfl rfl elem49 sz46 ?_
                first | refine WXL.ld Met.none rfl agg46 ?_ (hv := (cell_map encR Sl j hSk)) | refine WXL.ldS Met.none rfl agg46 ?_ (hv := (cell_map encR Sl j hSk))
                unfold encR; rw [hFn, hSn]
                refine WXL.cl (O1 := _) Met.none rfl (fnOk_of Try.func27 (by decide +kernel)) rfl (fun _ h => h) (refCheck_q _ (netOf l) (nth Fl k).l (nth Sl j).l a1 (nth Fl k).a (nth Sl j).a c1 (nth Fl k).c (nth Sl j).c (by omega) src_ src_ src_) (fun v O' hp => ?_)
                obtain ⟨⟨y2, rfl, hy2⟩, rfl⟩ := hp
                obtain rfl := hy1.uniq hy2
                refine WXL.bin Met.none rfl rfl rfl ?_
                refine WXL.nil ?_
                refine Fin.then_normal ?_
                refine WX.cond rfl (fun hc4 => ?_) (fun hc4 => ?_)
                · try simp only [cnd] at hc4
                  exact absurd hc4 (by simp) --end
                · try simp only [cnd] at hc4
                  refine WX.skip ?_
                  refine Fin.block_normal ?_
                  refine Fin.then_normal ?_
                  refine WX.region rfl ?_
                  refine WXL.move Met.none rfl ?_
                  refine WXL.bin Met.none rfl rfl bvA ?_
                  refine WXL.assign Met.none rfl ?_
                  refine WXL.nil ?_
                  exact Fin.loop_next (j + 1) (by omega) (by omega) (fun s hs => St.mid (G := [_, _, _]) (A := G7) (hs.tl (L' := [(3, I at0), (9, Ptr b9 0), (15, .slice ao od.length co), (17, Row b70 0 3 3), (18, Row b83 0 4 4), (19, I (k : Int)), (28, I ((j + 1 : Nat) : Int))]) [0, 1, 2] 3))
              · try simp only [cnd] at hc3
                refine WX.exit ?_
                refine Fin.then_exit ?_
                refine Fin.loop_exit ?_
                refine Fin.block_hit rfl ?_
                refine Fin.block_normal ?_
                refine Fin.then_normal ?_
                refine WX.region rfl ?_
                refine WXL.move Met.none rfl ?_
                refine WXL.bin Met.none rfl rfl bvA ?_
                refine WXL.assign Met.none rfl ?_
                refine WXL.nil ?_
                exact Fin.loop_next (k + 1) (by omega) (by omega) (fun s hs => hs.tl [0, 1, 2] 3)
    · try simp only [cnd] at hc1
      refine WX.exit ?_
      refine Fin.then_exit ?_
      refine Fin.loop_exit ?_
      refine Fin.block_hit rfl ?_
      refine Fin.then_normal ?_
      refine WX.seq ?_
      refine WX.region rfl ?_
      refine WXL.ldN (vs := [_, _, _, _]) Met.none rfl agg25 sz25 ?_
      refine WXL.cl (O1 := _) Met.none rfl (fnOk_of Try.func16 (by decide +kernel)) rfl (fun _ h => h) (own_q _ (netOf l) a1 c1 src_ (by omega)) (fun v O' hp => ?_)
      obtain ⟨a8, c8, G8, rfl, hG8, rfl⟩ := hp
      refine WXL.of (fun s hs => St.swap (G := G8) [_, _, _] hs) ?_
      refine WXL.move Met.none rfl ?_
      refine WXL.cl (O1 := _) Met.none rfl (fnOk_of Try.func28 (by decide +kernel)) rfl (fun _ h => h) (across_q _ (netOf l) od a8 ao c8 co (by omega) src_ src_) (fun v O' hp => ?_)
      obtain ⟨⟨x3, e3, rfl, hx3⟩, rfl⟩ := hp
      obtain ⟨k3, w1, w2, w3, w4⟩ := hx3
      have hk3 := hn.wrong w1
      obtain ⟨rfl, rfl⟩ := w4 hk3 (by omega)
      refine WXL.move Met.none rfl ?_
      refine WXL.extract Met.none rfl rfl ?_
      refine WXL.extract Met.none rfl rfl ?_
      refine WXL.assign Met.none rfl ?_
      refine WXL.assign Met.none rfl ?_
      refine WXL.nil ?_
      refine Fin.then_normal ?_
      refine WX.seq ?_
      have hra := around_range (n := at0) (m := (netOf l).nodes) (by omega)
      obtain ⟨m0, hm0⟩ : ∃ m0 : Nat, (m0 : Int) = around at0 (netOf l).nodes := ⟨(around at0 (netOf l).nodes).toNat, by omega⟩
      refine WX.draw rfl ?_
      refine WXL.ldN (vs := [_, _, _, _]) Met.none rfl agg25 sz25 ?_
      refine WXL.cl (O1 := _) Met.none rfl (fnOk_of Try.func16 (by decide +kernel)) rfl (fun _ h => h) (own_q _ (netOf l) a1 c1 src_ (by omega)) (fun v O' hp => ?_)
      obtain ⟨a9, c9, G9, rfl, hG9, rfl⟩ := hp
      refine WXL.of (fun s hs => St.swap (G := G9) [_, _, _] hs) ?_
      refine WXL.move Met.none rfl ?_
      refine WXL.move Met.none rfl ?_
      refine WXL.fieldAddr (off' := 0) Met.none rfl Try.underlying25 rfl sz3 rfl ?_
      first | refine WXL.ld Met.none rfl agg3 ?_ | refine WXL.ldS Met.none rfl agg3 ?_
      refine WXL.cl (O1 := _) Met.none rfl (fnOk_of Try.func13 (by decide +kernel)) rfl (fun _ h => h) (around_ok _ _ _ hat (by omega)) (fun v O' hp => ?_)
      obtain ⟨rfl, hO⟩ := hp
      subst O'
      refine WXL.pre (m := m0) Met.none rfl rfl elem46 sz4 rowy_ hao ?_
      have hrp := (hrow.pre (m := m0) (by omega)).src (c := m0) (fun h => by have := hrow.nil0 h; omega)
      rw [← List.map_take, Nat.mul_one] at hrp
      obtain ⟨op, hop⟩ : ∃ op, op = od.take m0 := ⟨_, rfl⟩
      have hopl : op.length = m0 := by rw [hop, List.length_take]; omega
      rw [← hop] at hrp
      rw [← hopl] at hrp
      rw [← hopl]
      refine WXL.cl (O1 := _) Met.none rfl (fnOk_of Try.func28 (by decide +kernel)) rfl (fun _ h => h) (across_q _ (netOf l) op a9 ao c9 op.length (by omega) src_ src_) (fun v O' hp => ?_)
      obtain ⟨⟨x4, e4, rfl, hx4⟩, rfl⟩ := hp
      obtain ⟨k4, u1, u2, u3, u4⟩ := hx4
      have hk4 := hn.wrong u1
      obtain ⟨rfl, rfl⟩ := u3 hk4 (by omega)
      refine WXL.move Met.none rfl ?_
      refine WXL.extract Met.none rfl rfl ?_
      refine WXL.extract Met.none rfl rfl ?_
      refine WXL.assign Met.none rfl ?_
      refine WXL.assign Met.none rfl ?_
      refine WXL.nil ?_
      refine Fin.then_normal ?_
      refine WX.seq ?_
      refine WX.region rfl ?_
      refine WXL.move Met.none rfl ?_
      refine WXL.bin Met.none rfl rfl rfl ?_
      refine WXL.move Met.none rfl ?_
      refine WXL.split (d := 192) rfl (fun hg192 => ?_) (fun hg192 => ?_)
      · try simp only [cnd] at hg192
        refine WXL.move (Met.some rfl rfl rfl) rfl ?_
        refine WXL.ldN (vs := [_, _, _, _]) (Met.some rfl rfl rfl) rfl agg25 sz25 ?_
        refine WXL.move (Met.some rfl rfl rfl) rfl ?_
        refine WXL.cl (O1 := _) (Met.some rfl rfl rfl) rfl (fnOk_of Try.func29 (by decide +kernel)) rfl (fun _ h => h) (refAcross_ok _ (netOf l) od a1 ao c1 co hn src_ src_ (by omega)) (fun v O' hp => ?_)
        obtain ⟨rfl, hO⟩ := hp
        subst O'
        refine WXL.bin (Met.some rfl rfl rfl) rfl rfl rfl ?_
        refine WXL.pick_t Met.none rfl rfl ?_
        refine WXL.move Met.none rfl ?_
        refine WXL.split (d := 199) rfl (fun hg199 => ?_) (fun hg199 => ?_)
        · try simp only [cnd] at hg199
          refine WXL.move (Met.some rfl rfl rfl) rfl ?_
          refine WXL.bin (Met.some rfl rfl rfl) rfl rfl rfl ?_
          refine WXL.pick_t Met.none rfl rfl ?_
          refine WXL.move Met.none rfl ?_
          refine WXL.split (d := 203) rfl (fun hg203 => ?_) (fun hg203 => ?_)
          · try simp only [cnd] at hg203
            refine WXL.cl (O1 := _) (Met.some rfl rfl rfl) rfl (fnOk_of Try.func19 (by decide +kernel)) rfl (fun _ h => h) (lives_ok _) (fun v O' hp => ?_)
            obtain ⟨rfl, hO⟩ := hp
            subst O'
            refine WXL.pick_t Met.none rfl rfl ?_
            refine WXL.assign Met.none rfl ?_
            refine WXL.nil ?_
            refine Fin.then_normal ?_
            refine WX.ret ?_
            exact Fin.result (O' := []) (.inr rfl) rfl rfl (fun _ hs => Sat.nil hs.wf) rfl
          · try simp only [cnd] at hg203
            exact absurd trivial hg203 --end
        · try simp only [cnd] at hg199
          exact absurd trivial hg199 --end
      · try simp only [cnd] at hg192
        exact absurd trivial hg192 --end

end Go.Proofs.Ytjmklialkjncaaa.Eng

set_option linter.unusedVariables false
set_option linter.unusedSimpArgs false
namespace Go.Proofs.Ytjmklialkjncaaa.Eng

/-! ### Sums -/
theorem sumTo_add {g h : Nat → Int} : ∀ m, sumTo (fun i => g i + h i) m = sumTo g m + sumTo h m
  | 0 => rfl
  | m + 1 => by
    show sumTo _ m + (g m + h m) = (sumTo g m + g m) + (sumTo h m + h m)
    rw [sumTo_add m]; omega

theorem sumTo_swap {g : Nat → Nat → Int} (m : Nat) : ∀ k, sumTo (fun v => sumTo (fun i => g v i) m) k = sumTo (fun i => sumTo (fun v => g v i) k) m
  | 0 => by
    show (0 : Int) = sumTo (fun i => 0) m
    rw [sumTo_zero fun _ _ => rfl]
  | k + 1 => by
    show sumTo _ k + sumTo (fun i => g k i) m = sumTo (fun i => sumTo (fun v => g v i) k + g k i) m
    rw [sumTo_add, sumTo_swap m k]

theorem sumTo_single {a : Nat} {x : Int} : ∀ k, sumTo (fun v => if v = a then x else 0) k = if a < k then x else 0
  | 0 => by
    show (0 : Int) = _
    rw [if_neg (by omega)]
  | k + 1 => by
    show sumTo _ k + (if k = a then x else 0) = _
    rw [sumTo_single k]
    by_cases h1 : a < k
    · rw [if_pos h1, if_neg (by omega), if_pos (by omega)]; omega
    · by_cases h2 : k = a
      · rw [if_neg h1, if_pos h2, if_pos (by omega)]; omega
      · rw [if_neg h1, if_neg h2, if_neg (by omega)]; rfl

theorem sumTo_mono {g h : Nat → Int} : ∀ {m : Nat}, (∀ i, i < m → g i ≤ h i) → sumTo g m ≤ sumTo h m
  | 0, _ => Int.le_refl _
  | m + 1, hh => by
    have h1 := sumTo_mono (m := m) fun i hi => hh i (Nat.lt_succ_of_lt hi)
    have h2 := hh m (Nat.lt_succ_self m)
    show sumTo g m + g m ≤ sumTo h m + h m
    omega

theorem sumTo_tight {g h : Nat → Int} : ∀ {m : Nat}, (∀ i, i < m → g i ≤ h i) → sumTo h m ≤ sumTo g m → ∀ i, i < m → g i = h i
  | 0, _, _, i, hi => absurd hi (Nat.not_lt_zero _)
  | m + 1, hh, he, i, hi => by
    have h1 := sumTo_mono (m := m) fun i hi => hh i (Nat.lt_succ_of_lt hi)
    have h2 := hh m (Nat.lt_succ_self m)
    have he' : sumTo h m + h m ≤ sumTo g m + g m := he
    rcases Nat.lt_or_ge i m with q | q
    · exact sumTo_tight (fun i hi => hh i (Nat.lt_succ_of_lt hi)) (by omega) i q
    · have e : i = m := by omega
      subst e
      omega

theorem sumTo_neg {g : Nat → Int} : ∀ m, sumTo (fun i => - g i) m = - sumTo g m
  | 0 => rfl
  | m + 1 => by
    show sumTo _ m + - g m = -(sumTo g m + g m)
    rw [sumTo_neg m]; omega

/-! ### What crosses a set -/
/-- What a flow carries over an edge out of a set. -/
def carries (n : Net4) (f : List Int) (s : List Bool) (i : Nat) : Int :=
  (if nth s (nth n.edges i).a.toNat = true then nth f i else 0) - (if nth s (nth n.edges i).b.toNat = true then nth f i else 0)

theorem carries_le {n : Net4} (hn : Sound n) {f : List Int} (hf : Flow n f) (s : List Bool) {i : Nat} (hi : i < n.edges.length) : carries n f s i ≤ crosses n s i := by
  have hc := hf.cap i hi
  unfold carries crosses
  cases ha : nth s (nth n.edges i).a.toNat <;> cases hb : nth s (nth n.edges i).b.toNat <;> simp <;> omega

theorem netOut_set {n : Net4} (hn : Sound n) (f : List Int) (s : List Bool) : sumTo (fun v => if nth s v = true then netOut n f (v : Int) else 0) n.nodes.toNat = sumTo (carries n f s) n.edges.length := by
  have e1 : ∀ v, v < n.nodes.toNat → (if nth s v = true then netOut n f (v : Int) else 0) = sumTo (fun i => if nth s v = true then leaves n (v : Int) i (nth f i) else 0) n.edges.length := by
    intro v _
    by_cases h : nth s v = true
    · rw [if_pos h]
      exact sumTo_congr fun i _ => by rw [if_pos h]
    · rw [if_neg h, sumTo_zero]
      intro i _
      rw [if_neg h]
  rw [sumTo_congr e1, sumTo_swap]
  refine sumTo_congr fun i hi => ?_
  have he := hn.at hi
  have e2 : ∀ v, v < n.nodes.toNat → (if nth s v = true then leaves n (v : Int) i (nth f i) else 0) =
      (if v = (nth n.edges i).a.toNat then (if nth s (nth n.edges i).a.toNat = true then nth f i else 0) else 0) + (if v = (nth n.edges i).b.toNat then -(if nth s (nth n.edges i).b.toNat = true then nth f i else 0) else 0) := by
    intro v _
    unfold leaves
    by_cases ha : v = (nth n.edges i).a.toNat
    · have hb : ¬ v = (nth n.edges i).b.toNat := by omega
      rw [if_pos ha, if_neg hb, ← ha, if_pos (show (nth n.edges i).a = (v : Int) by omega), if_neg (show ¬ (nth n.edges i).b = (v : Int) by omega)]
      split <;> omega
    · by_cases hb : v = (nth n.edges i).b.toNat
      · rw [if_neg ha, if_pos hb, ← hb, if_neg (show ¬ (nth n.edges i).a = (v : Int) by omega), if_pos (show (nth n.edges i).b = (v : Int) by omega)]
        split <;> omega
      · rw [if_neg ha, if_neg hb, if_neg (show ¬ (nth n.edges i).a = (v : Int) by omega), if_neg (show ¬ (nth n.edges i).b = (v : Int) by omega)]
        split <;> rfl
  rw [sumTo_congr e2, sumTo_add, sumTo_single, sumTo_single, if_pos (show (nth n.edges i).a.toNat < n.nodes.toNat by omega), if_pos (show (nth n.edges i).b.toNat < n.nodes.toNat by omega)]
  unfold carries
  omega

/-- A set with the source and without the sink. -/
def Parts (n : Net4) (s : List Bool) : Prop := nth s n.source.toNat = true ∧ nth s n.sink.toNat = false

theorem value_set {n : Net4} (hn : Sound n) {f : List Int} (hf : FlowOk n f) {s : List Bool} (hs : Parts n s) : netOut n f n.source = sumTo (carries n f s) n.edges.length := by
  rw [← netOut_set hn]
  have e : ∀ v, v < n.nodes.toNat → (if nth s v = true then netOut n f (v : Int) else 0) = if v = n.source.toNat then netOut n f n.source else 0 := by
    intro v hv
    by_cases h1 : v = n.source.toNat
    · rw [if_pos h1, h1, if_pos hs.1]
      congr 1
      have := hn.source
      omega
    · rw [if_neg h1]
      by_cases h2 : nth s v = true
      · rw [if_pos h2]
        refine hf.2 v (by omega) (by omega) (by omega) fun q => ?_
        have : v = n.sink.toNat := by omega
        rw [this, hs.2] at h2
        cases h2
      · rw [if_neg h2]
  rw [sumTo_congr e, sumTo_single, if_pos]
  have := hn.source
  omega

/-- No flow has more than what crosses a set. -/
theorem weak {n : Net4} (hn : Sound n) {f : List Int} (hf : FlowOk n f) {s : List Bool} (hs : Parts n s) : netOut n f n.source ≤ across n s := by
  rw [value_set hn hf hs]
  exact sumTo_mono fun i hi => carries_le hn hf.1 s hi

theorem tight {n : Net4} (hn : Sound n) {f : List Int} (hf : FlowOk n f) {s : List Bool} (hs : Parts n s) (he : across n s ≤ netOut n f n.source) : ∀ i, i < n.edges.length → carries n f s i = crosses n s i := by
  rw [value_set hn hf hs] at he
  exact sumTo_tight (fun i hi => carries_le hn hf.1 s hi) he

/-! ### The search to its end is closed -/
theorem inner_keep {n : Net4} (hn : Sound n) {f : List Int} {stop : Bool} {u : Int} : ∀ (l : List Nat), (∀ i ∈ l, i < n.edges.length) → ∀ (S : BS), Good n S →
    (∀ w : Int, 0 ≤ w → w < n.nodes → nth S.by_ w.toNat ≠ -2 → nth (innerL n f stop u l S).1.by_ w.toNat ≠ -2) ∧ (∀ j, j < S.queue.length → nth (innerL n f stop u l S).1.queue j = nth S.queue j) ∧ S.queue.length ≤ (innerL n f stop u l S).1.queue.length ∧ Good n (innerL n f stop u l S).1 := by
  intro l
  induction l with
  | nil => intro _ S hg; exact ⟨fun _ _ _ h => h, fun _ _ => rfl, Nat.le_refl _, hg⟩
  | cons i l ih =>
    intro hl S hg
    have hl' : ∀ i ∈ l, i < n.edges.length := fun j hj => hl j (by simp [hj])
    have hi := hl i (by simp)
    cases h : tryE n f u i S with
    | none => rw [inner_skip h]; exact ih hl' S hg
    | some S' =>
      obtain ⟨h1, h2, h3⟩ := try_cases h
      have hg' : Good n S' := hg.tryE hn hi h
      obtain ⟨t0, t1⟩ := restR_inside hn hi (nth f i) u
      have hlen := hg.len
      have key : (∀ w : Int, 0 ≤ w → w < n.nodes → nth S.by_ w.toNat ≠ -2 → nth S'.by_ w.toNat ≠ -2) ∧ (∀ j, j < S.queue.length → nth S'.queue j = nth S.queue j) ∧ S.queue.length ≤ S'.queue.length := by
        rw [h3]
        refine ⟨fun w w0 w1 hw => ?_, fun j hj => nth_append_left hj, by simp⟩
        simp only
        rw [nth_set (by omega) (by omega)]
        split
        · omega
        · exact hw
      by_cases hs : stop = true ∧ (restR (nth n.edges i) (nth f i) u).1 = n.sink
      · rw [inner_stop h hs]; exact ⟨key.1, key.2.1, key.2.2, hg'⟩
      · rw [inner_visit h hs]
        obtain ⟨r1, r2, r3, r4⟩ := ih hl' S' hg'
        exact ⟨fun w w0 w1 hw => r1 w w0 w1 (key.1 w w0 w1 hw), fun j hj => by rw [r2 j (Nat.lt_of_lt_of_le hj key.2.2), key.2.1 j hj], Nat.le_trans key.2.2 r3, r4⟩

/-- From a node that has been looked at, all that can be reached has been. -/
def Seen1 (n : Net4) (f : List Int) (by_ : List Int) (u : Int) : Prop := ∀ i, i < n.edges.length → 0 < (restR (nth n.edges i) (nth f i) u).2 → nth by_ (restR (nth n.edges i) (nth f i) u).1.toNat ≠ -2

theorem inner_all {n : Net4} (hn : Sound n) {f : List Int} {u : Int} : ∀ (l : List Nat), (∀ i ∈ l, i < n.edges.length) → ∀ (S : BS), Good n S →
    ∀ i ∈ l, 0 < (restR (nth n.edges i) (nth f i) u).2 → nth (innerL n f false u l S).1.by_ (restR (nth n.edges i) (nth f i) u).1.toNat ≠ -2 := by
  intro l
  induction l with
  | nil => intro _ S _ i hi; simp at hi
  | cons i l ih =>
    intro hl S hg j hj hr
    have hl' : ∀ i ∈ l, i < n.edges.length := fun j hj => hl j (by simp [hj])
    have hi := hl i (by simp)
    have hns : ¬ (false = true ∧ (restR (nth n.edges i) (nth f i) u).1 = n.sink) := fun q => by cases q.1
    cases h : tryE n f u i S with
    | none =>
      rw [inner_skip h]
      rcases List.mem_cons.1 hj with rfl | hj
      · obtain ⟨t0, t1⟩ := restR_inside hn hi (nth f j) u
        refine (inner_keep hn l hl' S hg).1 _ t0 t1 fun q => ?_
        rw [try_some hr q] at h
        cases h
      · exact ih hl' S hg j hj hr
    | some S' =>
      obtain ⟨h1, h2, h3⟩ := try_cases h
      have hg' : Good n S' := hg.tryE hn hi h
      rw [inner_visit h hns]
      rcases List.mem_cons.1 hj with rfl | hj
      · obtain ⟨t0, t1⟩ := restR_inside hn hi (nth f j) u
        refine (inner_keep hn l hl' S' hg').1 _ t0 t1 ?_
        have hlen := hg.len
        rw [h3]
        simp only
        rw [nth_set (by omega) (by omega), if_pos rfl]
        omega
      · exact ih hl' S' hg' j hj hr

theorem outer_closed {n : Net4} (hn : Sound n) {f : List Int} : ∀ (fuel : Nat) (S : BS) (k : Nat), Ways n f S → fuel + k = n.nodes.toNat → (∀ j, j < k → j < S.queue.length → Seen1 n f S.by_ (nth S.queue j)) →
    ∃ S', outerL n f false fuel S k = S'.by_ ∧ Ways n f S' ∧ ∀ u ∈ S'.queue, Seen1 n f S'.by_ u := by
  intro fuel
  induction fuel with
  | zero =>
    intro S k hw hk hc
    refine ⟨S, rfl, hw, fun u hu => ?_⟩
    obtain ⟨j, hj, rfl⟩ := List.mem_iff_getElem.1 hu
    have h1 := hw.good.room
    have h2 := hw.good.len
    rw [← nth_get hj]
    exact hc j (by omega) hj
  | succ fuel ih =>
    intro S k hw hk hc
    unfold outerL
    split
    · rename_i hkq
      have hin : ∀ i ∈ List.range n.edges.length, i < n.edges.length := fun i hi => List.mem_range.1 hi
      obtain ⟨w1, w2⟩ := hw.inner hn (stop := false) (List.range n.edges.length) hin S (u := nth S.queue k) (nth_mem hkq)
      obtain ⟨r1, r2, r3, r4⟩ := inner_keep hn (f := f) (stop := false) (u := nth S.queue k) (List.range n.edges.length) hin S hw.good
      have hall := inner_all hn (f := f) (u := nth S.queue k) (List.range n.edges.length) hin S hw.good
      have hb : (innerL n f false (nth S.queue k) (List.range n.edges.length) S).2 = false := by
        have : ∀ (l : List Nat) (S : BS), (innerL n f false (nth S.queue k) l S).2 = false := by
          intro l S
          generalize nth S.queue k = u
          induction l generalizing S with
          | nil => rfl
          | cons i l ih2 =>
            cases h : tryE n f u i S with
            | none => rw [inner_skip h]; exact ih2 S
            | some S' => rw [inner_visit h (fun q => by cases q.1)]; exact ih2 S'
        exact this _ S
      rw [if_neg (by rw [hb]; decide)]
      refine ih _ _ w1 (by omega) fun j hj hjl => ?_
      rcases Nat.lt_or_ge j k with q | q
      · rw [r2 j (by omega)]
        intro i hi hr
        obtain ⟨t0, t1⟩ := restR_inside hn hi (nth f i) (nth S.queue j)
        exact r1 _ t0 t1 (hc j q (by omega) i hi hr)
      · have e : j = k := by omega
        subst e
        rw [r2 j hkq]
        intro i hi hr
        exact hall i (List.mem_range.2 hi) hr
    · rename_i hkq
      refine ⟨S, rfl, hw, fun u hu => ?_⟩
      obtain ⟨j, hj, rfl⟩ := List.mem_iff_getElem.1 hu
      rw [← nth_get hj]
      exact hc j (by omega) hj

theorem search_closed {n : Net4} (hn : Sound n) (f : List Int) : ∃ S, searchR n f false = S.by_ ∧ Ways n f S ∧ ∀ u ∈ S.queue, Seen1 n f S.by_ u :=
  outer_closed hn _ _ _ (Ways.start hn f) rfl fun j hj => absurd hj (Nat.not_lt_zero _)

theorem reach_nth {n : Net4} (hn : Sound n) (f : List Int) {v : Int} (h0 : 0 ≤ v) (h1 : v < n.nodes) : nth (reach n f) v.toNat = decide (nth (searchR n f false) v.toNat ≠ -2) := by
  unfold reach
  have := search_len hn f false
  rw [nth_map (by omega)]

/-- What is reached goes along no rest out of it. -/
theorem reach_closed {n : Net4} (hn : Sound n) (f : List Int) {u : Int} (h0 : 0 ≤ u) (h1 : u < n.nodes) (hu : nth (reach n f) u.toNat = true) {i : Nat} (hi : i < n.edges.length) (hr : 0 < (restR (nth n.edges i) (nth f i) u).2) :
    nth (reach n f) (restR (nth n.edges i) (nth f i) u).1.toNat = true := by
  obtain ⟨S, e, hw, hc⟩ := search_closed hn f
  obtain ⟨t0, t1⟩ := restR_inside hn hi (nth f i) u
  rw [reach_nth hn f t0 t1, e]
  rw [reach_nth hn f h0 h1, e] at hu
  exact decide_eq_true (hc u (hw.seen u h0 h1 (of_decide_eq_true hu)) i hi hr)

theorem reach_source {n : Net4} (hn : Sound n) (f : List Int) : nth (reach n f) n.source.toNat = true := by
  obtain ⟨S, e, hw, _⟩ := search_closed hn f
  rw [reach_nth hn f hn.source.1 hn.source.2, e, hw.src]
  decide

/-- Where the sink is not reached, what is reached is crossed by the flow's value. -/
theorem reach_across {n : Net4} (hn : Sound n) {f : List Int} (hf : FlowOk n f) (hs : nth (searchR n f false) n.sink.toNat = -2) : Parts n (reach n f) ∧ across n (reach n f) = netOut n f n.source := by
  have hp : Parts n (reach n f) := ⟨reach_source hn f, by rw [reach_nth hn f hn.sink.1 hn.sink.2, hs]; decide⟩
  refine ⟨hp, ?_⟩
  rw [value_set hn hf hp]
  refine sumTo_congr fun i hi => ?_
  have he := hn.at hi
  have hc := hf.1.cap i hi
  have ka := fun h => reach_closed hn f (u := (nth n.edges i).a) he.1 he.2.1 h hi
  have kb := fun h => reach_closed hn f (u := (nth n.edges i).b) he.2.2.1 he.2.2.2.1 h hi
  have ra : restR (nth n.edges i) (nth f i) (nth n.edges i).a = ((nth n.edges i).b, (nth n.edges i).cap - nth f i) := by unfold restR; rw [if_pos rfl]
  have rb : restR (nth n.edges i) (nth f i) (nth n.edges i).b = ((nth n.edges i).a, (nth n.edges i).back + nth f i) := by unfold restR; rw [if_neg (by omega), if_pos rfl]
  rw [ra] at ka
  rw [rb] at kb
  unfold carries crosses
  cases ha : nth (reach n f) (nth n.edges i).a.toNat <;> cases hb : nth (reach n f) (nth n.edges i).b.toNat
  · simp
  · have : ¬ 0 < (nth n.edges i).back + nth f i := fun q => by
      have := kb hb q
      simp only at this
      rw [ha] at this; cases this
    simp
    omega
  · have : ¬ 0 < (nth n.edges i).cap - nth f i := fun q => by
      have := ka ha q
      simp only at this
      rw [hb] at this; cases this
    simp
    omega
  · simp

/-- Of a set that is crossed by no more, what is reached is a part. -/
theorem reach_least {n : Net4} (hn : Sound n) {f : List Int} (hf : FlowOk n f) {s : List Bool} (hp : Parts n s) (he : across n s ≤ netOut n f n.source) {v : Int} (h0 : 0 ≤ v) (h1 : v < n.nodes) (hv : nth (reach n f) v.toNat = true) : nth s v.toNat = true := by
  obtain ⟨S, e, hw, _⟩ := search_closed hn f
  rw [reach_nth hn f h0 h1, e] at hv
  obtain ⟨p, hp2⟩ := hw.way v (hw.seen v h0 h1 (of_decide_eq_true hv))
  have ht := tight hn hf hp he
  clear hv
  induction hp2 with
  | root => exact hp.1
  | @step v i p w1 w2 w3 w4 w5 w6 w7 w8 hway ih =>
    have hin := hway.inside hn
    have ihs := ih hin.1 hin.2
    have hed := hn.at w4
    have hti := ht i w4
    have hbr : (nth n.edges i).a = v ∨ (nth n.edges i).b = v := ((Way.step w1 w2 w3 w4 w5 w6 w7 w8 hway).edges _ (List.mem_cons_self ..)).2.2.1
    unfold carries crosses at hti
    cases hsv : nth s v.toNat with
    | true => rfl
    | false =>
      exfalso
      unfold otherR at ihs w6
      unfold restR at w6
      rcases hbr with hbr | hbr
      · rw [if_pos hbr] at ihs w6
        rw [if_neg (by omega), if_pos rfl] at w6
        rw [hbr, hsv, ihs] at hti
        simp at hti
        simp only at w6
        omega
      · have hna : ¬ (nth n.edges i).a = v := by omega
        rw [if_neg hna] at ihs w6
        rw [if_pos rfl] at w6
        rw [hbr, hsv, ihs] at hti
        simp at hti
        simp only at w6
        omega

/-! ### The search that stops at the sink -/
theorem inner_stop_same {n : Net4} {f : List Int} {u : Int} : ∀ (l : List Nat) (S : BS), (innerL n f true u l S).2 = false → innerL n f true u l S = innerL n f false u l S := by
  intro l
  induction l with
  | nil => intro S _; rfl
  | cons i l ih =>
    intro S h
    cases ht : tryE n f u i S with
    | none => rw [inner_skip ht] at h ⊢; rw [inner_skip ht]; exact ih S h
    | some S' =>
      by_cases hs : (restR (nth n.edges i) (nth f i) u).1 = n.sink
      · rw [inner_stop ht ⟨rfl, hs⟩] at h; cases h
      · rw [inner_visit ht (fun q => hs q.2)] at h ⊢
        rw [inner_visit ht (fun q => hs q.2)]
        exact ih S' h

theorem inner_stop_hit {n : Net4} (hn : Sound n) {f : List Int} {u : Int} : ∀ (l : List Nat), (∀ i ∈ l, i < n.edges.length) → ∀ (S : BS), Good n S → (innerL n f true u l S).2 = true → nth (innerL n f true u l S).1.by_ n.sink.toNat ≠ -2 := by
  intro l
  induction l with
  | nil => intro _ S _ h; cases h
  | cons i l ih =>
    intro hl S hg h
    have hl' : ∀ i ∈ l, i < n.edges.length := fun j hj => hl j (by simp [hj])
    have hi := hl i (by simp)
    cases ht : tryE n f u i S with
    | none => rw [inner_skip ht] at h ⊢; exact ih hl' S hg h
    | some S' =>
      obtain ⟨h1, h2, h3⟩ := try_cases ht
      have hg' : Good n S' := hg.tryE hn hi ht
      by_cases hs : (restR (nth n.edges i) (nth f i) u).1 = n.sink
      · rw [inner_stop ht ⟨rfl, hs⟩]
        have hlen := hg.len
        have hk := hn.sink
        rw [h3]
        simp only
        rw [hs, nth_set (by omega) (by omega), if_pos rfl]
        omega
      · rw [inner_visit ht (fun q => hs q.2)] at h ⊢
        exact ih hl' S' hg' h

theorem outer_stop {n : Net4} (hn : Sound n) {f : List Int} : ∀ (fuel : Nat) (S : BS) (k : Nat), Good n S → nth (outerL n f true fuel S k) n.sink.toNat = -2 → outerL n f true fuel S k = outerL n f false fuel S k := by
  intro fuel
  induction fuel with
  | zero => intro S k _ _; rfl
  | succ fuel ih =>
    intro S k hg h
    have hin : ∀ i ∈ List.range n.edges.length, i < n.edges.length := fun i hi => List.mem_range.1 hi
    unfold outerL at h ⊢
    split at h
    · rename_i hk
      rw [if_pos hk, if_pos hk]
      split at h
      · rename_i hb
        exact absurd h (inner_stop_hit hn _ hin S hg hb)
      · rename_i hb
        have hb' : (innerL n f true (nth S.queue k) (List.range n.edges.length) S).2 = false := by simpa using hb
        have e := inner_stop_same _ S hb'
        have hg2 := (inner_keep hn (f := f) (stop := true) (u := nth S.queue k) (List.range n.edges.length) hin S hg).2.2.2
        rw [if_neg hb, ← e, if_neg hb]
        exact ih _ _ hg2 h
    · rename_i hk
      rw [if_neg hk, if_neg hk]

theorem search_stop {n : Net4} (hn : Sound n) {f : List Int} (h : nth (searchR n f true) n.sink.toNat = -2) : searchR n f false = searchR n f true :=
  (outer_stop hn _ _ _ (Good.start hn) h).symm

/-! ### The maximum -/
theorem MaxTo.ends {n : Net4} (hn : Sound n) {f : List Int} {v : Int} {r : Int × List Int} (h : MaxTo n f v r) (hi : FlowOk n f ∧ v = netOut n f n.source) : FlowOk n r.2 ∧ r.1 = netOut n r.2 n.source ∧ nth (searchR n r.2 true) n.sink.toNat = -2 := by
  induction h with
  | done h => exact ⟨hi.1, hi.2, h⟩
  | @more f v p r hw hm ih =>
    obtain ⟨m1, m2⟩ := hw.min hn
    refine ih ⟨⟨hi.1.1.change hn hw (by omega) m2, fun u u0 u1 us uk => ?_⟩, ?_⟩
    · rw [hw.netOut hn u f hi.1.1.len, hi.1.2 u u0 u1 us uk, if_neg (fun e => us e.symm), if_neg (fun e => uk e.symm)]
      rfl
    · rw [hw.netOut hn n.source f hi.1.1.len, if_pos rfl, if_neg (fun e => hn.ne e.symm), hi.2]
      omega

theorem zeros_ok {n : Net4} (hn : Sound n) : FlowOk n (zeros n) ∧ (0 : Int) = netOut n (zeros n) n.source := by
  have h := MaxIn.start hn
  refine ⟨⟨h.flow, fun v _ _ _ _ => ?_⟩, h.val⟩
  unfold netOut zeros
  rw [sumTo_zero]
  intro i hi
  unfold leaves
  rw [nth_replicate hi]
  split <;> split <;> rfl

/-- What the maximum is. -/
structure MaxOk (n : Net4) (r : Int × List Int) : Prop where
  flow : FlowOk n r.2
  val : r.1 = netOut n r.2 n.source
  unreached : nth (searchR n r.2 false) n.sink.toNat = -2
  parts : Parts n (reach n r.2)
  cut : across n (reach n r.2) = r.1

theorem MaxTo.ok {n : Net4} (hn : Sound n) {r : Int × List Int} (h : MaxTo n (zeros n) 0 r) : MaxOk n r := by
  obtain ⟨h1, h2, h3⟩ := h.ends hn (zeros_ok hn)
  have h4 : nth (searchR n r.2 false) n.sink.toNat = -2 := by rw [search_stop hn h3]; exact h3
  obtain ⟨h5, h6⟩ := reach_across hn h1 h4
  exact ⟨h1, h2, h4, h5, by rw [h6, h2]⟩

end Go.Proofs.Ytjmklialkjncaaa.Eng

set_option linter.unusedVariables false
set_option linter.unusedSimpArgs false
namespace Go.Proofs.Ytjmklialkjncaaa.Eng

/-- A network with one edge exchanged. -/
def withE (n : Net4) (k : Nat) (e : E4) : Net4 := { n with edges := n.edges.set k e }

theorem withE_len (n : Net4) (k : Nat) (e : E4) : (withE n k e).edges.length = n.edges.length := by
  show (n.edges.set k e).length = _
  rw [List.length_set]

theorem withE_nth {n : Net4} {k : Nat} {e : E4} {i : Nat} (hk : k < n.edges.length) (hi : i < n.edges.length) : nth (withE n k e).edges i = if k = i then e else nth n.edges i := nth_set hk hi

theorem withE_sound {n : Net4} (hn : Sound n) {k : Nat} (hk : k < n.edges.length) {e : E4} (he : ¬ BadEdge n e) : Sound (withE n k e) := by
  refine ⟨hn.nodes, by rw [withE_len]; exact hn.len, hn.source, hn.sink, hn.ne, fun i hi => ?_⟩
  rw [withE_len] at hi
  rw [withE_nth hk hi]
  split
  · exact he
  · exact hn.edge i hi

theorem across_more {n : Net4} {k : Nat} (hk : k < n.edges.length) {d : Int} (hd : 0 ≤ d) (s : List Bool) :
    across n s ≤ across (withE n k ⟨(nth n.edges k).a, (nth n.edges k).b, (nth n.edges k).cap + d, (nth n.edges k).back⟩) s ∧ across (withE n k ⟨(nth n.edges k).a, (nth n.edges k).b, (nth n.edges k).cap + d, (nth n.edges k).back⟩) s ≤ across n s + d := by
  have hx : ∃ x, 0 ≤ x ∧ x ≤ d ∧ crosses (withE n k ⟨(nth n.edges k).a, (nth n.edges k).b, (nth n.edges k).cap + d, (nth n.edges k).back⟩) s k = crosses n s k + x := by
    unfold crosses
    rw [withE_nth hk hk, if_pos rfl]
    simp only
    split
    · exact ⟨d, hd, Int.le_refl _, rfl⟩
    · split
      · exact ⟨0, Int.le_refl _, hd, by omega⟩
      · exact ⟨0, Int.le_refl _, hd, by omega⟩
  obtain ⟨x, x0, x1, hx⟩ := hx
  have e : across (withE n k ⟨(nth n.edges k).a, (nth n.edges k).b, (nth n.edges k).cap + d, (nth n.edges k).back⟩) s = across n s + x := by
    unfold across acrossTo
    rw [withE_len]
    refine sumTo_one hk (fun i hi hne => ?_) hx
    have e := withE_nth (e := ⟨(nth n.edges k).a, (nth n.edges k).b, (nth n.edges k).cap + d, (nth n.edges k).back⟩) hk hi
    rw [if_neg (fun q => hne q.symm)] at e
    unfold crosses
    rw [e]
  omega

theorem across_turned {n : Net4} {k : Nat} (hk : k < n.edges.length) (s : List Bool) : across (withE n k ⟨(nth n.edges k).b, (nth n.edges k).a, (nth n.edges k).back, (nth n.edges k).cap⟩) s = across n s := by
  unfold across acrossTo
  rw [withE_len]
  refine sumTo_congr fun i hi => ?_
  unfold crosses
  rw [withE_nth hk hi]
  by_cases q : k = i
  · subst q
    rw [if_pos rfl]
    simp only
    cases nth s (nth n.edges k).a.toNat <;> cases nth s (nth n.edges k).b.toNat <;> simp
  · rw [if_neg q]

theorem netOf_edge (l : List Int) {i : Nat} (hi : i < (netOf l).edges.length) : nth (netOf l).edges i = mkEdge l (netOf l).nodes i := by
  have he : (netOf l).edges = (List.range (min 16 ((l.length - 3) / 2))).map (mkEdge l (netOf l).nodes) := rfl
  have hi' : i < (List.range (min 16 ((l.length - 3) / 2))).length := by rw [he, List.length_map] at hi; exact hi
  rw [he, nth_map hi', nth_get hi', List.getElem_range]

theorem flowMore_ok (O : Objs) (l : List Int) (at0 by_ : Int) (a : Option Addr) (c : Nat) (hl : Src O 1 (.slice a l.length c) l.length (l.map I)) (h64 : All64 l) (hlen : Short l) (hat : In64 at0) (hby : In64 by_) :
    Spec Try.prog false 4 #[.slice a l.length c, I at0, I by_] O fun v _ => v = .bool true := by
  have hnl := netOf_len l
  have hn := netOf_sound l
  have hnn := hn.nodes
  have h9 := around_range (n := by_) (m := 9) (by omega)
  refine Spec.enter (args := [_, _, _]) (m := 128) Try.func4 rfl rfl (by decide +kernel) fun h0 => ?_
  refine WX.seq ?_
  refine WX.region rfl ?_
  refine WXL.assign Met.none rfl ?_
  refine WXL.nil ?_
  refine Fin.then_normal ?_
  refine WX.seq ?_
  refine WX.region rfl ?_
  refine WXL.move Met.none rfl ?_
  refine WXL.cl (O1 := _) Met.none rfl (fnOk_of Try.func11 (by decide +kernel)) rfl (fun _ h => h) (network_ok _ l a c src_ h64 hlen) (fun v O' hp => ?_)
  obtain ⟨a1, c1, G1, rfl, hG1, rfl⟩ := hp
  refine WXL.cl (O1 := _) Met.none rfl (fnOk_of Try.func16 (by decide +kernel)) rfl (fun _ h => h) (own_ok _ (netOf l) a1 c1 src_ (by omega)) (fun v O' hp => ?_)
  obtain ⟨a3, c3, G3, rfl, hG3, rfl⟩ := hp
  refine WXL.alloc (c := [_, _, _, _]) Met.none zero36 rfl (fun b7 => ?_)
  refine WXL.st (vs := [_, _, _, _]) (c' := [_, _, _, _]) Met.none rfl rfl rfl sz36 ?_
  refine WXL.nil ?_
  refine Fin.then_normal ?_
  refine WX.seq ?_
  refine WX.seq ?_
  refine WX.region rfl ?_
  refine WXL.fieldAddr (off' := 3) Met.none rfl Try.underlying36 rfl sz34 rfl ?_
  first | refine WXL.ld Met.none rfl agg34 ?_ | refine WXL.ldS Met.none rfl agg34 ?_
  refine WXL.len Met.none rfl Try.underlying34 ?_
  refine WXL.bin Met.none rfl rfl rfl ?_
  refine WXL.nil ?_
  refine Fin.then_normal ?_
  refine WX.cond rfl (fun hc0 => ?_) (fun hc0 => ?_)
  · try simp only [cnd] at hc0
    refine WX.seq ?_
    refine WX.region rfl ?_
    refine WXL.cl (O1 := _) Met.none rfl (fnOk_of Try.func19 (by decide +kernel)) rfl (fun _ h => h) (lives_ok _) (fun v O' hp => ?_)
    obtain ⟨rfl, hO⟩ := hp
    subst O'
    refine WXL.assign Met.none rfl ?_
    refine WXL.nil ?_
    refine Fin.then_normal ?_
    refine WX.ret ?_
    refine Fin.then_ret ?_
    exact Fin.result (O' := []) (.inr rfl) rfl rfl (fun _ hs => Sat.nil hs.wf) rfl
  · try simp only [cnd] at hc0
    refine WX.skip ?_
    refine Fin.then_normal ?_
    refine WX.seq ?_
    have hka := around_range (n := at0) (m := ((netOf l).edges.length : Int)) (by omega)
    obtain ⟨k, hk⟩ : ∃ k : Nat, (k : Int) = around at0 (netOf l).edges.length := ⟨(around at0 (netOf l).edges.length).toNat, by omega⟩
    have hkl : k < (netOf l).edges.length := by omega
    have hed := mkEdge_ok (l := l) (nodes := (netOf l).nodes) (by omega) (by obtain ⟨_, _, _, _, _, _, q⟩ := tdiv_mod_range (l := l); exact q) k
    rw [← netOf_edge l hkl] at hed
    refine WX.region rfl ?_
    refine WXL.move Met.none rfl ?_
    refine WXL.fieldAddr (off' := 3) Met.none rfl Try.underlying36 rfl sz34 rfl ?_
    first | refine WXL.ld Met.none rfl agg34 ?_ | refine WXL.ldS Met.none rfl agg34 ?_
    refine WXL.len Met.none rfl Try.underlying34 ?_
    refine WXL.cl (O1 := _) Met.none rfl (fnOk_of Try.func13 (by decide +kernel)) rfl (fun _ h => h) (around_ok _ _ _ hat (by omega)) (fun v O' hp => ?_)
    obtain ⟨rfl, hO⟩ := hp
    subst O'
    rw [← hk]
    refine WXL.assign Met.none rfl ?_
    refine WXL.nil ?_
    refine Fin.then_normal ?_
    refine WX.seq ?_
    refine WX.region rfl ?_
    refine WXL.move Met.none rfl ?_
    refine WXL.cl (O1 := _) Met.none rfl (fnOk_of Try.func13 (by decide +kernel)) rfl (fun _ h => h) (around_ok _ _ _ hby (by omega)) (fun v O' hp => ?_)
    obtain ⟨rfl, hO⟩ := hp
    subst O'
    refine WXL.assign Met.none rfl ?_
    refine WXL.nil ?_
    refine Fin.then_normal ?_
    refine WX.seq ?_
    refine WX.region rfl ?_
    refine WXL.ldN (vs := [_, _, _, _]) Met.none rfl agg36 sz36 ?_
    refine WXL.alloc (c := [_, _, _, _]) Met.none zero36 rfl (fun b10 => ?_)
    refine WXL.st (vs := [_, _, _, _]) (c' := [_, _, _, _]) Met.none rfl rfl rfl sz36 ?_
    refine WXL.nil ?_
    refine Fin.then_normal ?_
    refine WX.seq ?_
    refine WX.region rfl ?_
    refine WXL.buildSlice (c := []) Met.none rfl elem34 sz44 zero44 (by decide) (by decide) rfl rfl rfl rfl (fun b38 => ?_)
    refine WXL.fieldAddr (off' := 3) Met.none rfl Try.underlying36 rfl sz34 rfl ?_
    first | refine WXL.ld Met.none rfl agg34 ?_ | refine WXL.ldS Met.none rfl agg34 ?_
    refine WXL.ap Met.none rfl rfl isrow34 elem34 sz44 by44 zero44 src_ (fun b41 => ?_) (hc := (show _ = flat encE (netOf l).edges from rfl))
    rw [Nat.zero_add (netOf l).edges.length]
    refine WXL.fieldAddr (off' := 3) Met.none rfl Try.underlying36 rfl sz34 rfl ?_
    refine WXL.st (vs := [_]) (c' := [_, _, _, _]) Met.none rfl rfl rfl sz34 ?_
    refine WXL.nil ?_
    refine Fin.then_normal ?_
    refine WX.seq ?_
    refine WX.draw rfl ?_
    refine WXL.fieldAddr (off' := 3) Met.none rfl Try.underlying36 rfl sz34 rfl ?_
    first | refine WXL.ld Met.none rfl agg34 ?_ | refine WXL.ldS Met.none rfl agg34 ?_
    refine WXL.move Met.none rfl ?_
    refine WXL.fieldAddr (off' := 3) Met.none rfl Try.underlying36 rfl sz34 rfl ?_
    first | refine WXL.ld Met.none rfl agg34 ?_ | refine WXL.ldS Met.none rfl agg34 ?_
    refine WXL.move Met.none rfl ?_
    first | refine WXL.ix Met.none rfl rfl elem34 sz44 ?_ | refine WXL.ixS Met.none rfl rfl elem34 sz44 ?_
    first | refine WXL.fieldAddr Met.none rfl Try.underlying44 rfl sz3 rfl ?_ | refine WXL.faS Met.none rfl Try.underlying44 rfl sz3 ?_
    first | refine WXL.ld Met.none rfl agg3 ?_ | refine WXL.ldS Met.none rfl agg3 ?_
    refine WXL.move Met.none rfl ?_
    refine WXL.bin Met.none rfl rfl bvA ?_
    first | refine WXL.ix Met.none rfl rfl elem34 sz44 ?_ | refine WXL.ixS Met.none rfl rfl elem34 sz44 ?_
    first | refine WXL.fieldAddr Met.none rfl Try.underlying44 rfl sz3 rfl ?_ | refine WXL.faS Met.none rfl Try.underlying44 rfl sz3 ?_
    refine WXL.st (vs := [_]) (j := 0) Met.none rfl rfl rfl sz3 ?_ (hj := rfl) (hl := (by rw [flat_encE_len]; show _ * 4 + 2 + 1 ≤ _; omega)) (hc := (splice_cap (netOf l).edges k _ hkl))
    refine WXL.nil ?_
    refine Fin.then_normal ?_
    refine WX.seq ?_
    refine WX.region rfl ?_
    refine WXL.ldN (vs := [_, _, _, _]) Met.none rfl agg36 sz36 ?_
    refine WXL.alloc (c := [_, _, _, _]) Met.none zero36 rfl (fun b11 => ?_)
    refine WXL.st (vs := [_, _, _, _]) (c' := [_, _, _, _]) Met.none rfl rfl rfl sz36 ?_
    refine WXL.nil ?_
    refine Fin.then_normal ?_
    refine WX.seq ?_
    refine WX.region rfl ?_
    refine WXL.buildSlice (c := []) Met.none rfl elem34 sz44 zero44 (by decide) (by decide) rfl rfl rfl rfl (fun b57 => ?_)
    refine WXL.fieldAddr (off' := 3) Met.none rfl Try.underlying36 rfl sz34 rfl ?_
    first | refine WXL.ld Met.none rfl agg34 ?_ | refine WXL.ldS Met.none rfl agg34 ?_
    refine WXL.ap Met.none rfl rfl isrow34 elem34 sz44 by44 zero44 src_ (fun b60 => ?_) (hc := (show _ = flat encE (netOf l).edges from rfl))
    rw [Nat.zero_add (netOf l).edges.length]
    refine WXL.fieldAddr (off' := 3) Met.none rfl Try.underlying36 rfl sz34 rfl ?_
    refine WXL.st (vs := [_]) (c' := [_, _, _, _]) Met.none rfl rfl rfl sz34 ?_
    refine WXL.nil ?_
    refine Fin.then_normal ?_
    refine WX.seq ?_
    refine WX.region rfl ?_
    refine WXL.fieldAddr (off' := 3) Met.none rfl Try.underlying36 rfl sz34 rfl ?_
    first | refine WXL.ld Met.none rfl agg34 ?_ | refine WXL.ldS Met.none rfl agg34 ?_
    refine WXL.move Met.none rfl ?_
    first | refine WXL.ix Met.none rfl rfl elem34 sz44 ?_ | refine WXL.ixS Met.none rfl rfl elem34 sz44 ?_
    first | refine WXL.ldN Met.none rfl agg44 sz44 ?_ | refine WXL.ldNS Met.none rfl agg44 sz44 ?_
    refine WXL.alloc (c := [_, _, _, _]) Met.none zero44 rfl (fun b12 => ?_)
    refine WXL.st (vs := [_, _, _, _]) (c' := [_, _, _, _]) Met.none rfl rfl rfl sz44 ?_
    refine WXL.nil ?_
    refine Fin.then_normal ?_
    refine WX.seq ?_
    refine WX.region rfl ?_
    refine WXL.fieldAddr (off' := 3) Met.none rfl Try.underlying36 rfl sz34 rfl ?_
    first | refine WXL.ld Met.none rfl agg34 ?_ | refine WXL.ldS Met.none rfl agg34 ?_
    refine WXL.move Met.none rfl ?_
    refine WXL.fieldAddr (off' := 1) Met.none rfl Try.underlying44 rfl sz3 rfl ?_
    first | refine WXL.ld Met.none rfl agg3 ?_ | refine WXL.ldS Met.none rfl agg3 ?_
    refine WXL.fieldAddr (off' := 0) Met.none rfl Try.underlying44 rfl sz3 rfl ?_
    first | refine WXL.ld Met.none rfl agg3 ?_ | refine WXL.ldS Met.none rfl agg3 ?_
    refine WXL.fieldAddr (off' := 3) Met.none rfl Try.underlying44 rfl sz3 rfl ?_
    first | refine WXL.ld Met.none rfl agg3 ?_ | refine WXL.ldS Met.none rfl agg3 ?_
    refine WXL.fieldAddr (off' := 2) Met.none rfl Try.underlying44 rfl sz3 rfl ?_
    first | refine WXL.ld Met.none rfl agg3 ?_ | refine WXL.ldS Met.none rfl agg3 ?_
    refine WXL.build (c := [_, _, _, _]) Met.none rfl zero44 places44 rfl ?_
    first | refine WXL.ix Met.none rfl rfl elem34 sz44 ?_ | refine WXL.ixS Met.none rfl rfl elem34 sz44 ?_
    refine WXL.st (j := 1) Met.none rfl rfl rfl sz44 ?_ (hj := rfl) (hl := (by rw [flat_encE_len]; show _ * 4 + 4 ≤ _; omega)) (hc := (splice_flat encE_len (netOf l).edges k ⟨(nth (netOf l).edges k).b, (nth (netOf l).edges k).a, (nth (netOf l).edges k).back, (nth (netOf l).edges k).cap⟩ hkl))
    refine WXL.nil ?_
    refine Fin.then_normal ?_
    refine WX.seq ?_
    have hn2 := withE_sound hn hkl (e := ⟨(nth (netOf l).edges k).a, (nth (netOf l).edges k).b, (nth (netOf l).edges k).cap + around by_ 9, (nth (netOf l).edges k).back⟩) (by unfold BadEdge; simp only; omega)
    have hn3 := withE_sound hn hkl (e := ⟨(nth (netOf l).edges k).b, (nth (netOf l).edges k).a, (nth (netOf l).edges k).back, (nth (netOf l).edges k).cap⟩) (by unfold BadEdge; simp only; omega)
    have hl2 := withE_len (netOf l) k ⟨(nth (netOf l).edges k).a, (nth (netOf l).edges k).b, (nth (netOf l).edges k).cap + around by_ 9, (nth (netOf l).edges k).back⟩
    have hl3 := withE_len (netOf l) k ⟨(nth (netOf l).edges k).b, (nth (netOf l).edges k).a, (nth (netOf l).edges k).back, (nth (netOf l).edges k).cap⟩
    have hm := across_more hkl (n := netOf l) (d := around by_ 9) (by omega)
    have ht := across_turned hkl (n := netOf l)
    refine WX.region rfl ?_
    refine WXL.ldN (vs := [_, _, _, _]) Met.none rfl agg36 sz36 ?_
    refine WXL.cl (O1 := _) Met.none rfl (fnOk_of Try.func15 (by decide +kernel)) rfl (fun _ h => h) (max_ok _ (netOf l) a3 c3 src_ (by omega)) (fun v O' hp => ?_)
    obtain ⟨e1, hw1, hm1, _⟩ := hp
    have he1 := hn.wrong hw1
    subst he1
    obtain ⟨r1, a4, c4, G4, hr1, _, rfl, _, rfl⟩ := hm1 rfl
    have ok1 := hr1.ok hn
    refine WXL.of (fun s hs => St.swap (G := G4) [_, _, _, _, _, _] hs) ?_
    refine WXL.move Met.none rfl ?_
    refine WXL.extract Met.none rfl rfl ?_
    refine WXL.extract Met.none rfl rfl ?_
    refine WXL.extract Met.none rfl rfl ?_
    refine WXL.assign Met.none rfl ?_
    refine WXL.assign Met.none rfl ?_
    refine WXL.assign Met.none rfl ?_
    refine WXL.nil ?_
    refine Fin.then_normal ?_
    refine WX.seq ?_
    refine WX.region rfl ?_
    refine WXL.ldN (vs := [_, _, _, _]) Met.none rfl agg36 sz36 ?_
    rw [← hl2]
    refine WXL.cl (O1 := _) Met.none rfl (fnOk_of Try.func15 (by decide +kernel)) rfl (fun _ h => h) (max_ok _ (withE (netOf l) k ⟨(nth (netOf l).edges k).a, (nth (netOf l).edges k).b, (nth (netOf l).edges k).cap + around by_ 9, (nth (netOf l).edges k).back⟩) (some ⟨b41, 0, none⟩) _ (Src.whole (cs := flat encE (withE (netOf l) k ⟨(nth (netOf l).edges k).a, (nth (netOf l).edges k).b, (nth (netOf l).edges k).cap + around by_ 9, (nth (netOf l).edges k).back⟩).edges) at_ (by rw [flat_encE_len])) (by omega)) (fun v O' hp => ?_)
    obtain ⟨e2, hw2, hm2, _⟩ := hp
    have he2 := hn2.wrong hw2
    subst he2
    obtain ⟨r2, a5, c5, G5, hr2, _, rfl, _, rfl⟩ := hm2 rfl
    have ok2 := hr2.ok hn2
    refine WXL.of (fun s hs => St.swap (G := G5) [_, _, _, _, _, _] hs) ?_
    refine WXL.move Met.none rfl ?_
    refine WXL.extract Met.none rfl rfl ?_
    refine WXL.extract Met.none rfl rfl ?_
    refine WXL.extract Met.none rfl rfl ?_
    refine WXL.assign Met.none rfl ?_
    refine WXL.assign Met.none rfl ?_
    refine WXL.assign Met.none rfl ?_
    refine WXL.nil ?_
    refine Fin.then_normal ?_
    refine WX.seq ?_
    refine WX.region rfl ?_
    refine WXL.ldN (vs := [_, _, _, _]) Met.none rfl agg36 sz36 ?_
    rw [hl2, ← hl3]
    refine WXL.cl (O1 := _) Met.none rfl (fnOk_of Try.func15 (by decide +kernel)) rfl (fun _ h => h) (max_ok _ (withE (netOf l) k ⟨(nth (netOf l).edges k).b, (nth (netOf l).edges k).a, (nth (netOf l).edges k).back, (nth (netOf l).edges k).cap⟩) (some ⟨b60, 0, none⟩) _ (Src.whole (cs := flat encE (withE (netOf l) k ⟨(nth (netOf l).edges k).b, (nth (netOf l).edges k).a, (nth (netOf l).edges k).back, (nth (netOf l).edges k).cap⟩).edges) at_ (by rw [flat_encE_len])) (by omega)) (fun v O' hp => ?_)
    obtain ⟨e3, hw3, hm3, _⟩ := hp
    have he3 := hn3.wrong hw3
    subst he3
    obtain ⟨r3, a6, c6, G6, hr3, _, rfl, _, rfl⟩ := hm3 rfl
    have ok3 := hr3.ok hn3
    have k1 : r1.1 ≤ r2.1 := by
      have q1 := weak hn ok1.flow (s := reach (withE (netOf l) k ⟨(nth (netOf l).edges k).a, (nth (netOf l).edges k).b, (nth (netOf l).edges k).cap + around by_ 9, (nth (netOf l).edges k).back⟩) r2.2) ok2.parts
      have q2 := (hm (reach (withE (netOf l) k ⟨(nth (netOf l).edges k).a, (nth (netOf l).edges k).b, (nth (netOf l).edges k).cap + around by_ 9, (nth (netOf l).edges k).back⟩) r2.2)).1
      rw [ok2.cut] at q2
      rw [← ok1.val] at q1
      omega
    have k2 : r2.1 ≤ r1.1 + around by_ 9 := by
      have q1 := weak hn2 ok2.flow (s := reach (netOf l) r1.2) ok1.parts
      have q2 := (hm (reach (netOf l) r1.2)).2
      rw [ok1.cut] at q2
      have q3 := ok2.val
      have q4 : (withE (netOf l) k ⟨(nth (netOf l).edges k).a, (nth (netOf l).edges k).b, (nth (netOf l).edges k).cap + around by_ 9, (nth (netOf l).edges k).back⟩).source = (netOf l).source := rfl
      omega
    have k3 : r3.1 = r1.1 := by
      have q1 := weak hn3 ok3.flow (s := reach (netOf l) r1.2) ok1.parts
      rw [ht, ok1.cut] at q1
      have q2 := weak hn ok1.flow (s := reach (withE (netOf l) k ⟨(nth (netOf l).edges k).b, (nth (netOf l).edges k).a, (nth (netOf l).edges k).back, (nth (netOf l).edges k).cap⟩) r3.2) ok3.parts
      rw [← ht, ok3.cut] at q2
      have q3 := ok3.val
      have q4 := ok1.val
      omega
    have k4 : r1.1 ≤ 9007199254740992 := by
      have := (hm1 rfl)
      obtain ⟨rr, _, _, _, hrr, hinn, _⟩ := this
      have := hr1.uniq hn hrr
      rw [this]
      exact hinn.bound hn
    have k5 : 0 ≤ r1.1 := by
      obtain ⟨rr, _, _, _, hrr, hinn, _⟩ := hm1 rfl
      have := hr1.uniq hn hrr
      rw [this]
      exact hinn.pos
    refine WXL.move Met.none rfl ?_
    refine WXL.extract Met.none rfl rfl ?_
    refine WXL.extract Met.none rfl rfl ?_
    refine WXL.extract Met.none rfl rfl ?_
    refine WXL.assign Met.none rfl ?_
    refine WXL.assign Met.none rfl ?_
    refine WXL.assign Met.none rfl ?_
    refine WXL.nil ?_
    refine Fin.then_normal ?_
    refine WX.seq ?_
    refine WX.region rfl ?_
    refine WXL.move Met.none rfl ?_
    refine WXL.bin Met.none rfl rfl rfl ?_
    refine WXL.move Met.none rfl ?_
    refine WXL.split (d := 100) rfl (fun hg100 => ?_) (fun hg100 => ?_)
    · try simp only [cnd] at hg100
      refine WXL.move (Met.some rfl rfl rfl) rfl ?_
      refine WXL.bin (Met.some rfl rfl rfl) rfl rfl rfl ?_
      refine WXL.pick_t Met.none rfl rfl ?_
      refine WXL.move Met.none rfl ?_
      refine WXL.split (d := 104) rfl (fun hg104 => ?_) (fun hg104 => ?_)
      · try simp only [cnd] at hg104
        refine WXL.move (Met.some rfl rfl rfl) rfl ?_
        refine WXL.bin (Met.some rfl rfl rfl) rfl rfl rfl ?_
        refine WXL.pick_t Met.none rfl rfl ?_
        refine WXL.move Met.none rfl ?_
        refine WXL.split (d := 108) rfl (fun hg108 => ?_) (fun hg108 => ?_)
        · try simp only [cnd] at hg108
          refine WXL.move (Met.some rfl rfl rfl) rfl ?_
          refine WXL.move (Met.some rfl rfl rfl) rfl ?_
          refine WXL.bin (Met.some rfl rfl rfl) rfl rfl rfl ?_
          refine WXL.pick_t Met.none rfl rfl ?_
          refine WXL.move Met.none rfl ?_
          refine WXL.split (d := 113) rfl (fun hg113 => ?_) (fun hg113 => ?_)
          · try simp only [cnd] at hg113
            refine WXL.move (Met.some rfl rfl rfl) rfl ?_
            refine WXL.move (Met.some rfl rfl rfl) rfl ?_
            refine WXL.move (Met.some rfl rfl rfl) rfl ?_
            refine WXL.bin (Met.some rfl rfl rfl) rfl rfl bvA ?_
            refine WXL.bin (Met.some rfl rfl rfl) rfl rfl rfl ?_
            refine WXL.pick_t Met.none rfl rfl ?_
            refine WXL.move Met.none rfl ?_
            refine WXL.split (d := 120) rfl (fun hg120 => ?_) (fun hg120 => ?_)
            · try simp only [cnd] at hg120
              refine WXL.move (Met.some rfl rfl rfl) rfl ?_
              refine WXL.move (Met.some rfl rfl rfl) rfl ?_
              refine WXL.bin (Met.some rfl rfl rfl) rfl rfl rfl ?_
              refine WXL.pick_t Met.none rfl rfl ?_
              refine WXL.move Met.none rfl ?_
              refine WXL.split (d := 125) rfl (fun hg125 => ?_) (fun hg125 => ?_)
              · try simp only [cnd] at hg125
                refine WXL.cl (O1 := _) (Met.some rfl rfl rfl) rfl (fnOk_of Try.func19 (by decide +kernel)) rfl (fun _ h => h) (lives_ok _) (fun v O' hp => ?_)
                obtain ⟨rfl, hO⟩ := hp
                subst O'
                refine WXL.pick_t Met.none rfl rfl ?_
                refine WXL.assign Met.none rfl ?_
                refine WXL.nil ?_
                refine Fin.then_normal ?_
                refine WX.ret ?_
                exact Fin.result (O' := []) (.inr rfl) rfl rfl (fun _ hs => Sat.nil hs.wf) rfl
              · try simp only [cnd] at hg125
                exact absurd k3 hg125 --end
            · try simp only [cnd] at hg120
              exact absurd k2 (by omega) --end
          · try simp only [cnd] at hg113
            exact absurd k1 (by omega) --end
        · try simp only [cnd] at hg108
          exact absurd trivial hg108 --end
      · try simp only [cnd] at hg104
        exact absurd trivial hg104 --end
    · try simp only [cnd] at hg100
      exact absurd trivial hg100 --end

end Go.Proofs.Ytjmklialkjncaaa.Eng

set_option linter.unusedVariables false
set_option linter.unusedSimpArgs false
namespace Go.Proofs.Ytjmklialkjncaaa.Eng

theorem ChkR.ok {n : Net4} (hn : Sound n) {f : List Int} {s : List Bool} (hs : (s.length : Int) = n.nodes) {e : Int} (h : ChkR n f s e) : e = 0 ↔ FlowOk n f ∧ Parts n s ∧ across n s = netOut n f n.source := by
  obtain ⟨x, ev, h1, h2, h3, h4⟩ := h
  constructor
  · intro he
    have hev : ev = 0 := by
      by_cases q : ev = 0
      · exact q
      · have := h2 q; omega
    subst hev
    obtain ⟨_, hf, hx⟩ := h1.ok
    have h5 := h4 rfl hs
    by_cases hp : nth s n.source.toNat = true ∧ nth s n.sink.toNat = false ∧ across n s = x
    · exact ⟨hf, ⟨hp.1, hp.2.1⟩, by rw [hp.2.2, hx]⟩
    · have := h5.2 hp; omega
  · rintro ⟨hf, hp, ha⟩
    obtain ⟨k, w1, w2, w3⟩ := h1
    have hk := hn.wrong w1
    rcases w3 hk with ⟨_, q2, q3⟩ | ⟨q1, _⟩
    · exact (h4 q3 hs).1 ⟨hp.1, hp.2, by rw [ha, q2]⟩
    · exact absurd hf q1

theorem ValR.iff {n : Net4} (hn : Sound n) {f : List Int} {x e : Int} (h : ValR n f x e) : (e = 0 → FlowOk n f ∧ x = netOut n f n.source) ∧ (FlowOk n f → e = 0 ∧ x = netOut n f n.source) := by
  refine ⟨fun he => ?_, fun hf => ?_⟩
  · subst he
    obtain ⟨_, h1, h2⟩ := h.ok
    exact ⟨h1, h2⟩
  · obtain ⟨k, w1, w2, w3⟩ := h
    rcases w3 (hn.wrong w1) with ⟨_, q2, q3⟩ | ⟨q1, _⟩
    · exact ⟨q3, q2⟩
    · exact absurd hf q1

theorem MaxOk.cutOf {n : Net4} (hn : Sound n) {r : Int × List Int} (h : MaxOk n r) {s : List Bool} {e : Int} (hc : CutR n r.2 s e) : s = reach n r.2 ∧ e = 0 := by
  obtain ⟨k, h1, _, _, _, h5⟩ := hc
  exact h5 (hn.wrong h1) h.flow h.unreached

theorem flowProofs_ok (O : Objs) (l m : List Int) (set : Int) (a am : Option Addr) (c cm : Nat) (hl : Src O 1 (.slice a l.length c) l.length (l.map I)) (h64 : All64 l) (hlen : Short l) (hm : Src O 1 (.slice am m.length cm) m.length (m.map I)) (m64 : All64 m) (mlen : Short m)
    (hset : In64 set) : Spec Try.prog false 7 #[.slice a l.length c, .slice am m.length cm, I set] O fun v _ => v = .bool true := by
  have hnl := netOf_len l
  have hn := netOf_sound l
  have hnn := hn.nodes
  have hlen2 := hn.len
  refine Spec.enter (args := [_, _, _]) (m := 125) Try.func7 rfl rfl (by decide +kernel) fun h0 => ?_
  refine WX.seq ?_
  refine WX.region rfl ?_
  refine WXL.assign Met.none rfl ?_
  refine WXL.nil ?_
  refine Fin.then_normal ?_
  refine WX.seq ?_
  refine WX.region rfl ?_
  refine WXL.move Met.none rfl ?_
  refine WXL.cl (O1 := _) Met.none rfl (fnOk_of Try.func11 (by decide +kernel)) rfl (fun _ h => h) (network_ok _ l a c src_ h64 hlen) (fun v O' hp => ?_)
  obtain ⟨a1, c1, G1, rfl, hG1, rfl⟩ := hp
  refine WXL.alloc (c := [_, _, _, _]) Met.none zero25 rfl (fun b7 => ?_)
  refine WXL.st (vs := [_, _, _, _]) (c' := [_, _, _, _]) Met.none rfl rfl rfl sz25 ?_
  refine WXL.nil ?_
  refine Fin.then_normal ?_
  refine WX.seq ?_
  refine WX.region rfl ?_
  refine WXL.ldN (vs := [_, _, _, _]) Met.none rfl agg25 sz25 ?_
  refine WXL.cl (O1 := _) Met.none rfl (fnOk_of Try.func16 (by decide +kernel)) rfl (fun _ h => h) (own_ok _ (netOf l) a1 c1 src_ (by omega)) (fun v O' hp => ?_)
  obtain ⟨a3, c3, G3, rfl, hG3, rfl⟩ := hp
  refine WXL.of (fun s hs => St.swap (G := G3) [_] hs) ?_
  refine WXL.alloc (c := [_, _, _, _]) Met.none zero36 rfl (fun b8 => ?_)
  refine WXL.st (vs := [_, _, _, _]) (c' := [_, _, _, _]) Met.none rfl rfl rfl sz36 ?_
  refine WXL.nil ?_
  refine Fin.then_normal ?_
  refine WX.seq ?_
  refine WX.region rfl ?_
  refine WXL.ldN (vs := [_, _, _, _]) Met.none rfl agg25 sz25 ?_
  refine WXL.move Met.none rfl ?_
  refine WXL.cl (O1 := _) Met.none rfl (fnOk_of Try.func20 (by decide +kernel)) rfl (fun _ h => h) (flows_ok _ (netOf l) m a1 am c1 cm hn src_ src_ m64 mlen) (fun v O' hp => ?_)
  obtain ⟨fl, aF, cF, mF, GF, rfl, rfl, hfl, hGF, rfl⟩ := hp
  refine WXL.of (fun s hs => St.swap (G := GF) [_, _] hs) ?_
  refine WXL.assign Met.none rfl ?_
  refine WXL.nil ?_
  refine Fin.then_normal ?_
  refine WX.seq ?_
  refine WX.region rfl ?_
  refine WXL.ldN (vs := [_, _, _, _]) Met.none rfl agg36 sz36 ?_
  refine WXL.cl (O1 := _) Met.none rfl (fnOk_of Try.func15 (by decide +kernel)) rfl (fun _ h => h) (max_ok _ (netOf l) a3 c3 src_ (by omega)) (fun v O' hp => ?_)
  obtain ⟨e1, hw1, hm1, _⟩ := hp
  have he1 := hn.wrong hw1
  subst he1
  obtain ⟨r, aB, cB, GB, hr, hin, rfl, hGB, rfl⟩ := hm1 rfl
  have ok1 := hr.ok hn
  have hrl := hin.flow.len
  refine WXL.of (fun s hs => St.swap (G := GB) [_, _] hs) ?_
  refine WXL.move Met.none rfl ?_
  refine WXL.extract Met.none rfl rfl ?_
  refine WXL.extract Met.none rfl rfl ?_
  refine WXL.extract Met.none rfl rfl ?_
  refine WXL.assign Met.none rfl ?_
  refine WXL.assign Met.none rfl ?_
  refine WXL.assign Met.none rfl ?_
  refine WXL.nil ?_
  refine Fin.then_normal ?_
  refine WX.seq ?_
  refine WX.region rfl ?_
  refine WXL.ldN (vs := [_, _, _, _]) Met.none rfl agg36 sz36 ?_
  refine WXL.move Met.none rfl ?_
  refine WXL.cl (O1 := _) Met.none rfl (fnOk_of Try.func22 (by decide +kernel)) rfl (fun _ h => h) (cut_ok _ (netOf l) r.2 a3 aB c3 cB (by omega) src_ src_) (fun v O' hp => ?_)
  obtain ⟨s0, e0, aS, cS, GS, rfl, hcut, hGS, rfl⟩ := hp
  obtain ⟨hs0, he0⟩ := ok1.cutOf hn hcut
  subst he0
  have hs0l : s0.length = (netOf l).nodes.toNat := by rw [hs0, reach_len hn]
  refine WXL.of (fun s hs => St.swap (G := GS) [_, _] hs) ?_
  refine WXL.move Met.none rfl ?_
  refine WXL.extract Met.none rfl rfl ?_
  refine WXL.extract Met.none rfl rfl ?_
  refine WXL.assign Met.none rfl ?_
  refine WXL.assign Met.none rfl ?_
  refine WXL.nil ?_
  refine Fin.then_normal ?_
  refine WX.seq ?_
  refine WX.seq ?_
  refine WX.region rfl ?_
  refine WXL.move Met.none rfl ?_
  refine WXL.bin Met.none rfl rfl rfl ?_
  refine WXL.move Met.none rfl ?_
  refine WXL.split (d := 45) rfl (fun hg45 => ?_) (fun hg45 => ?_)
  · try simp only [cnd] at hg45
    exact absurd hg45 (by simp) --end
  · try simp only [cnd] at hg45
    refine WXL.move (Met.some rfl rfl rfl) rfl ?_
    refine WXL.bin (Met.some rfl rfl rfl) rfl rfl rfl ?_
    refine WXL.pick_f Met.none rfl rfl ?_
    refine WXL.nil ?_
    refine Fin.then_normal ?_
    refine WX.cond rfl (fun hc0 => ?_) (fun hc0 => ?_)
    · try simp only [cnd] at hc0
      exact absurd hc0 (by simp) --end
    · try simp only [cnd] at hc0
      refine WX.skip ?_
      refine Fin.then_normal ?_
      refine WX.seq ?_
      refine WX.region rfl ?_
      refine WXL.assign Met.none rfl ?_
      refine WXL.nil ?_
      refine Fin.then_normal ?_
      refine WX.seq ?_
      refine WX.seq ?_
      refine WX.region rfl ?_
      refine WXL.assign Met.none rfl ?_
      refine WXL.nil ?_
      refine Fin.then_normal ?_
      refine WX.block ?_
      refine WX.loop (fun q : List Bool × Option Addr × Nat × Objs => [(2, I set), (8, Ptr b8 0), (9, .slice aF fl.length cF), (10, I r.1), (13, .slice aS s0.length cS), (15, .slice q.2.1 q.1.length q.2.2.1), (16, I (q.1.length : Int))]) (fun q => (b8, ⟨0, false, [I (netOf l).nodes, I (netOf l).source, I (netOf l).sink, .slice a3 (netOf l).edges.length c3]⟩) :: (q.2.2.2 ++ (GS ++ (GB ++ (GF ++ (G3 ++ (G1 ++ O))))))) (fun q => q.1.length ≤ (netOf l).nodes.toNat ∧ Grow 1 q.2.1 q.1.length q.2.2.1 (q.1.map Bl) q.2.2.2) (fun q => (netOf l).nodes.toNat - q.1.length) ([], none, 0, []) ⟨by simp, .nil⟩ (fun s hs => hs.tl [0] 2) (fun q hq => ?_)
      obtain ⟨od, ao, co, Go⟩ := q
      obtain ⟨hol, hGo⟩ := hq
      simp only at hol hGo
      dsimp only
      refine WX.seq ?_
      refine WX.seq ?_
      refine WX.region rfl ?_
      refine WXL.move Met.none rfl ?_
      refine WXL.fieldAddr (off' := 0) Met.none rfl Try.underlying36 rfl sz3 rfl ?_
      first | refine WXL.ld Met.none rfl agg3 ?_ | refine WXL.ldS Met.none rfl agg3 ?_
      refine WXL.bin Met.none rfl rfl rfl ?_
      refine WXL.nil ?_
      refine Fin.then_normal ?_
      refine WX.cond rfl (fun hc1 => ?_) (fun hc1 => ?_)
      · try simp only [cnd] at hc1
        refine WX.skip ?_
        refine Fin.then_normal ?_
        refine WX.seq ?_
        refine WX.block ?_
        refine WX.region rfl ?_
        refine WXL.move Met.none rfl ?_
        refine WXL.move Met.none rfl ?_
        refine WXL.move Met.none rfl ?_
        refine WXL.shr Met.none rfl rfl (by omega) ?_
        refine WXL.bin Met.none rfl rfl rfl ?_
        refine WXL.bin Met.none rfl rfl rfl ?_
        refine WXL.buildSlice (c := [_]) Met.none rfl elem46 sz4 zero4 (by decide) (by decide) rfl rfl rfl rfl (fun b61 => ?_)
        refine WXL.apG [_, _] Met.none rfl rfl isrow46 elem46 sz4 by4 zero4 (Src.lit (cs := [_])) (fun a62 c62 G62 hG62 => ?_)
        refine WXL.assign Met.none rfl ?_
        refine WXL.nil ?_
        refine Fin.block_normal ?_
        refine Fin.then_normal ?_
        refine WX.region rfl ?_
        refine WXL.move Met.none rfl ?_
        refine WXL.bin Met.none rfl rfl bvA ?_
        refine WXL.assign Met.none rfl ?_
        refine WXL.nil ?_
        have hG' : ∃ bb : Bool, Grow 1 a62 (od.length + 1) c62 ((od ++ [bb]).map Bl) G62 := ⟨_, by rw [List.map_append]; exact hG62⟩
        obtain ⟨bb, hG'⟩ := hG'
        refine Fin.loop_next (od ++ [bb], a62, c62, G62) ⟨?_, ?_⟩ ?_ ?_
        · simp only [List.length_append, List.length_singleton]; omega
        · simp only [List.length_append, List.length_singleton]; exact hG'
        · simp only [List.length_append, List.length_singleton]; omega
        · simp only [List.length_append, List.length_singleton]; exact (fun s hs => hs.tl [1] 2)
      · try simp only [cnd] at hc1
        refine WX.exit ?_
        refine Fin.then_exit ?_
        refine Fin.loop_exit ?_
        refine Fin.block_hit rfl ?_
        refine Fin.then_normal ?_
        refine WX.seq ?_
        have hol2 : od.length = (netOf l).nodes.toNat := by omega
        refine WX.region rfl ?_
        refine WXL.move Met.none rfl ?_
        refine WXL.move Met.none rfl ?_
        refine WXL.buildSlice (c := [_, _]) Met.none rfl elem49 sz46 zero46 (by decide) (by decide) rfl rfl rfl rfl (fun b65 => ?_)
        refine WXL.assign Met.none rfl ?_
        refine WXL.nil ?_
        refine Fin.then_normal ?_
        refine WX.seq ?_
        refine WX.seq ?_
        refine WX.region rfl ?_
        refine WXL.assign Met.none rfl ?_
        refine WXL.nil ?_
        refine Fin.then_normal ?_
        refine WX.block ?_
        obtain ⟨Sl, hSl⟩ : ∃ Sl : List (RowP Bool), Sl = [⟨s0, aS, s0.length, cS⟩, ⟨od, ao, od.length, co⟩] := ⟨_, rfl⟩
        have hSll : Sl.length = 2 := by rw [hSl]; rfl
        obtain ⟨T, hT⟩ : ∃ T : Objs, T = (Go ++ (GS ++ (GB ++ (GF ++ (G3 ++ (G1 ++ O)))))) := ⟨_, rfl⟩
        have hE : Edges T (netOf l) a3 c3 := by
          rw [hT]
          exact Src.app (Src.app (Src.app (Src.app hG3.src)))
        have hF : Src T 1 (.slice aF fl.length cF) fl.length (fl.map I) := by
          rw [hT]
          exact Src.app (Src.app (Src.app hGF.src))
        have hS : ∀ k, k < 2 → Src T 1 (.slice (nth Sl k).a (nth Sl k).n (nth Sl k).c) (nth Sl k).n ((nth Sl k).l.map Bl) ∧ (nth Sl k).n = (nth Sl k).l.length ∧ ((nth Sl k).l.length : Int) = (netOf l).nodes := by
          intro k hk
          rw [hT, hSl]
          have : k = 0 ∨ k = 1 := by omega
          rcases this with rfl | rfl
          · exact ⟨Src.app hGS.src, rfl, by show (s0.length : Int) = _; omega⟩
          · exact ⟨hGo.src, rfl, by show (od.length : Int) = _; omega⟩
        refine WX.loop (fun k : Nat => [(8, Ptr b8 0), (9, .slice aF fl.length cF), (10, I r.1), (17, Row b65 0 2 2), (18, I (k : Int))]) (fun _ => (b65, ⟨1, false, Sl.map encR⟩) :: (b8, ⟨0, false, [I (netOf l).nodes, I (netOf l).source, I (netOf l).sink, .slice a3 (netOf l).edges.length c3]⟩) :: T) (fun k => k ≤ 2) (fun k => 2 - k) 0 (by omega) ?_ (fun k hk => ?_)
        · rw [hSl, hT]
          exact (fun s hs => hs.tl [0, 1] 2)
        refine WX.seq ?_
        refine WX.seq ?_
        refine WX.region rfl ?_
        refine WXL.move Met.none rfl ?_
        refine WXL.bin Met.none rfl rfl rfl ?_
        refine WXL.nil ?_
        refine Fin.then_normal ?_
        refine WX.cond rfl (fun hc2 => ?_) (fun hc2 => ?_)
        · try simp only [cnd] at hc2
          refine WX.skip ?_
          refine Fin.then_normal ?_
          refine WX.seq ?_
          refine WX.block ?_
          refine WX.seq ?_
          obtain ⟨hSs, hSn, hSL⟩ := hS k (by omega)
          have hSk : k < Sl.length := by omega
          rw [hSn] at hSs
          refine WX.draw rfl ?_
          refine WXL.ldN (vs := [_, _, _, _]) Met.none rfl agg36 sz36 ?_
          refine WXL.move Met.none rfl ?_
          refine WXL.move Met.none rfl ?_
          refine WXL.move Met.none rfl ?_
          first | refine WXL.ix Met.none rfl rfl elem49 sz46 ?_ | refine WXL.ixS Met.none rfl rfl elem49 sz46 ?_
          first | refine WXL.ld Met.none rfl agg46 ?_ (hv := (cell_map encR Sl k hSk)) | refine WXL.ldS Met.none rfl agg46 ?_ (hv := (cell_map encR Sl k hSk))
          unfold encR; rw [hSn]
          refine WXL.cl (O1 := _) Met.none rfl (fnOk_of Try.func26 (by decide +kernel)) rfl (fun _ h => h) (check_q _ (netOf l) fl (nth Sl k).l a3 aF (nth Sl k).a c3 cF (nth Sl k).c (by omega) src_ src_ src_) (fun v O' hp => ?_)
          obtain ⟨⟨y, rfl, hy⟩, rfl⟩ := hp
          have hyi := hy.ok hn hSL
          refine WXL.bin Met.none rfl rfl rfl ?_
          refine WXL.assign Met.none rfl ?_
          refine WXL.nil ?_
          refine Fin.then_normal ?_
          refine WX.seq ?_
          refine WX.region rfl ?_
          refine WXL.ldN (vs := [_, _, _, _]) Met.none rfl agg36 sz36 ?_
          refine WXL.move Met.none rfl ?_
          refine WXL.cl (O1 := _) Met.none rfl (fnOk_of Try.func23 (by decide +kernel)) rfl (fun _ h => h) (value_ok _ (netOf l) fl a3 aF c3 cF (by omega) src_ src_) (fun v O' hp => ?_)
          obtain ⟨x2, ev2, rfl, hv2, rfl⟩ := hp
          have hvi := hv2.iff hn
          refine WXL.move Met.none rfl ?_
          refine WXL.extract Met.none rfl rfl ?_
          refine WXL.extract Met.none rfl rfl ?_
          refine WXL.assign Met.none rfl ?_
          refine WXL.assign Met.none rfl ?_
          refine WXL.nil ?_
          refine Fin.then_normal ?_
          refine WX.seq ?_
          refine WX.draw rfl ?_
          refine WXL.ldN (vs := [_, _, _, _]) Met.none rfl agg36 sz36 ?_
          refine WXL.move Met.none rfl ?_
          refine WXL.move Met.none rfl ?_
          first | refine WXL.ix Met.none rfl rfl elem49 sz46 ?_ | refine WXL.ixS Met.none rfl rfl elem49 sz46 ?_
          first | refine WXL.ld Met.none rfl agg46 ?_ (hv := (cell_map encR Sl k hSk)) | refine WXL.ldS Met.none rfl agg46 ?_ (hv := (cell_map encR Sl k hSk))
          unfold encR; rw [hSn]
          refine WXL.cl (O1 := _) Met.none rfl (fnOk_of Try.func28 (by decide +kernel)) rfl (fun _ h => h) (across_q _ (netOf l) (nth Sl k).l a3 (nth Sl k).a c3 (nth Sl k).c (by omega) src_ src_) (fun v O' hp => ?_)
          obtain ⟨⟨x3, e3, rfl, hx3⟩, rfl⟩ := hp
          obtain ⟨k3, w1, w2, w3, w4⟩ := hx3
          have hk3 := hn.wrong w1
          obtain ⟨rfl, rfl⟩ := w4 hk3 hSL
          have hkey : y = 0 → ev2 = 0 ∧ x2 = r.1 ∧ across (netOf l) (nth Sl k).l = r.1 := by
            intro q
            obtain ⟨q1, q2, q3⟩ := hyi.1 q
            obtain ⟨q4, q5⟩ := hvi.2 q1
            have u1 := weak hn q1 ok1.parts
            have u2 := weak hn ok1.flow q2
            have u3 := ok1.val
            have u4 := ok1.cut
            refine ⟨q4, by omega, by omega⟩
          refine WXL.move Met.none rfl ?_
          refine WXL.extract Met.none rfl rfl ?_
          refine WXL.extract Met.none rfl rfl ?_
          refine WXL.assign Met.none rfl ?_
          refine WXL.assign Met.none rfl ?_
          refine WXL.nil ?_
          refine Fin.then_normal ?_
          refine WX.seq ?_
          refine WX.region rfl ?_
          refine WXL.move Met.none rfl ?_
          refine WXL.bin Met.none rfl rfl rfl ?_
          refine WXL.move Met.none rfl ?_
          refine WXL.split (d := 95) rfl (fun hg95 => ?_) (fun hg95 => ?_)
          · try simp only [cnd] at hg95
            exact absurd hg95 (by simp) --end
          · try simp only [cnd] at hg95
            refine WXL.move (Met.some rfl rfl rfl) rfl ?_
            refine WXL.move (Met.some rfl rfl rfl) rfl ?_
            refine WXL.split (d := 97) rfl (fun hg97 => ?_) (fun hg97 => ?_)
            · try simp only [cnd] at hg97
              refine WXL.move (Met.some rfl rfl rfl) rfl ?_
              refine WXL.bin (Met.some rfl rfl rfl) rfl rfl rfl ?_
              refine WXL.move (Met.some rfl rfl rfl) rfl ?_
              refine WXL.split (d := 100) rfl (fun hg100 => ?_) (fun hg100 => ?_)
              · try simp only [cnd] at hg100
                exact absurd (hkey hg97).1 hg100 --end
              · try simp only [cnd] at hg100
                refine WXL.move (Met.some rfl rfl rfl) rfl ?_
                refine WXL.move (Met.some rfl rfl rfl) rfl ?_
                refine WXL.bin (Met.some rfl rfl rfl) rfl rfl rfl ?_
                refine WXL.pick_f (Met.some rfl rfl rfl) rfl rfl ?_
                refine WXL.move (Met.some rfl rfl rfl) rfl ?_
                refine WXL.split (d := 105) rfl (fun hg105 => ?_) (fun hg105 => ?_)
                · try simp only [cnd] at hg105
                  exact absurd (hkey hg97).2.1 hg105 --end
                · try simp only [cnd] at hg105
                  refine WXL.move (Met.some rfl rfl rfl) rfl ?_
                  refine WXL.move (Met.some rfl rfl rfl) rfl ?_
                  refine WXL.bin (Met.some rfl rfl rfl) rfl rfl rfl ?_
                  refine WXL.pick_f (Met.some rfl rfl rfl) rfl rfl ?_
                  refine WXL.pick_t (Met.some rfl rfl rfl) rfl rfl ?_
                  refine WXL.pick_f Met.none rfl rfl ?_
                  refine WXL.move Met.none rfl ?_
                  refine WXL.split (d := 112) rfl (fun hg112 => ?_) (fun hg112 => ?_)
                  · try simp only [cnd] at hg112
                    exact absurd (hkey hg97).2.2 hg112 --end
                  · try simp only [cnd] at hg112
                    refine WXL.move (Met.some rfl rfl rfl) rfl ?_
                    refine WXL.bin (Met.some rfl rfl rfl) rfl rfl rfl ?_
                    refine WXL.move (Met.some rfl rfl rfl) rfl ?_
                    refine WXL.split (d := 115) rfl (fun hg115 => ?_) (fun hg115 => ?_)
                    · try simp only [cnd] at hg115
                      refine WXL.move (Met.some rfl rfl rfl) rfl ?_
                      refine WXL.move (Met.some rfl rfl rfl) rfl ?_
                      refine WXL.bin (Met.some rfl rfl rfl) rfl rfl rfl ?_
                      refine WXL.pick_t (Met.some rfl rfl rfl) rfl rfl ?_
                      refine WXL.move (Met.some rfl rfl rfl) rfl ?_
                      refine WXL.split (d := 120) rfl (fun hg120 => ?_) (fun hg120 => ?_)
                      · try simp only [cnd] at hg120
                        refine WXL.move (Met.some rfl rfl rfl) rfl ?_
                        refine WXL.pick_t (Met.some rfl rfl rfl) rfl rfl ?_
                        refine WXL.pick_f Met.none rfl rfl ?_
                        refine WXL.nil ?_
                        refine Fin.then_normal ?_
                        refine WX.cond rfl (fun hc3 => ?_) (fun hc3 => ?_)
                        · try simp only [cnd] at hc3
                          first | exact absurd hc3 hg97 | exact absurd (hkey hg97).2.1 (by omega) | exact absurd (hkey hc3).2.1 (by omega) --end
                        · try simp only [cnd] at hc3
                          refine WX.skip ?_
                          refine Fin.block_normal ?_
                          refine Fin.then_normal ?_
                          refine WX.region rfl ?_
                          refine WXL.move Met.none rfl ?_
                          refine WXL.bin Met.none rfl rfl bvA ?_
                          refine WXL.assign Met.none rfl ?_
                          refine WXL.nil ?_
                          exact Fin.loop_next (k + 1) (by omega) (by omega) (fun s hs => hs.tl [0, 1] 2)
                      · try simp only [cnd] at hg120
                        refine WXL.miss (j := 27) (d := 120) rfl rfl rfl ?_
                        refine WXL.pick_f (Met.some rfl rfl rfl) rfl rfl ?_
                        refine WXL.pick_f Met.none rfl rfl ?_
                        refine WXL.nil ?_
                        refine Fin.then_normal ?_
                        refine WX.cond rfl (fun hc3 => nomatch hc3) (fun hc3 => ?_)
                        refine WX.skip ?_
                        refine Fin.block_normal ?_
                        refine Fin.then_normal ?_
                        refine WX.region rfl ?_
                        refine WXL.move Met.none rfl ?_
                        refine WXL.bin Met.none rfl rfl bvA ?_
                        refine WXL.assign Met.none rfl ?_
                        refine WXL.nil ?_
                        exact Fin.loop_next (k + 1) (by omega) (by omega) (fun s hs => hs.tl [0, 1] 2)
                    · try simp only [cnd] at hg115
                      refine WXL.miss (j := 22) (d := 115) rfl rfl rfl ?_
                      refine WXL.miss (j := 22) (d := 115) rfl rfl rfl ?_
                      refine WXL.miss (j := 22) (d := 115) rfl rfl rfl ?_
                      refine WXL.pick_f (Met.some rfl rfl rfl) rfl rfl ?_
                      refine WXL.move (Met.some rfl rfl rfl) rfl ?_
                      refine WXL.miss (j := 27) (d := 120) rfl rfl rfl ?_
                      refine WXL.pick_f (Met.some rfl rfl rfl) rfl rfl ?_
                      refine WXL.pick_f Met.none rfl rfl ?_
                      refine WXL.nil ?_
                      refine Fin.then_normal ?_
                      refine WX.cond rfl (fun hc3 => nomatch hc3) (fun hc3 => ?_)
                      refine WX.skip ?_
                      refine Fin.block_normal ?_
                      refine Fin.then_normal ?_
                      refine WX.region rfl ?_
                      refine WXL.move Met.none rfl ?_
                      refine WXL.bin Met.none rfl rfl bvA ?_
                      refine WXL.assign Met.none rfl ?_
                      refine WXL.nil ?_
                      exact Fin.loop_next (k + 1) (by omega) (by omega) (fun s hs => hs.tl [0, 1] 2)
            · try simp only [cnd] at hg97
              refine WXL.miss (j := 4) (d := 97) rfl rfl rfl ?_
              refine WXL.miss (j := 4) (d := 97) rfl rfl rfl ?_
              refine WXL.miss (j := 4) (d := 97) rfl rfl rfl ?_
              refine WXL.missU (j := 7) (e := 100) rfl rfl ?_
              refine WXL.missU (j := 7) (e := 100) rfl rfl ?_
              refine WXL.missU (j := 7) (e := 100) rfl rfl ?_
              refine WXL.miss (j := 4) (d := 97) rfl rfl rfl ?_
              refine WXL.miss (j := 4) (d := 97) rfl rfl rfl ?_
              refine WXL.missU (j := 12) (e := 105) rfl rfl ?_
              refine WXL.missU (j := 12) (e := 105) rfl rfl ?_
              refine WXL.missU (j := 12) (e := 105) rfl rfl ?_
              refine WXL.miss (j := 4) (d := 97) rfl rfl rfl ?_
              refine WXL.pick_f (Met.some rfl rfl rfl) rfl rfl ?_
              refine WXL.pick_f Met.none rfl rfl ?_
              refine WXL.move Met.none rfl ?_
              refine WXL.move (Met.some rfl rfl rfl) rfl ?_
              refine WXL.bin (Met.some rfl rfl rfl) rfl rfl rfl ?_
              refine WXL.move (Met.some rfl rfl rfl) rfl ?_
              refine WXL.split (d := 115) rfl (fun hg115 => ?_) (fun hg115 => ?_)
              · try simp only [cnd] at hg115
                refine WXL.move (Met.some rfl rfl rfl) rfl ?_
                refine WXL.move (Met.some rfl rfl rfl) rfl ?_
                refine WXL.bin (Met.some rfl rfl rfl) rfl rfl rfl ?_
                refine WXL.pick_t (Met.some rfl rfl rfl) rfl rfl ?_
                refine WXL.move (Met.some rfl rfl rfl) rfl ?_
                refine WXL.split (d := 120) rfl (fun hg120 => ?_) (fun hg120 => ?_)
                · try simp only [cnd] at hg120
                  refine WXL.move (Met.some rfl rfl rfl) rfl ?_
                  refine WXL.pick_t (Met.some rfl rfl rfl) rfl rfl ?_
                  refine WXL.pick_f Met.none rfl rfl ?_
                  refine WXL.nil ?_
                  refine Fin.then_normal ?_
                  refine WX.cond rfl (fun hc3 => ?_) (fun hc3 => ?_)
                  · try simp only [cnd] at hc3
                    first | exact absurd hc3 hg97 | exact absurd (hkey hg97).2.1 (by omega) | exact absurd (hkey hc3).2.1 (by omega) --end
                  · try simp only [cnd] at hc3
                    refine WX.skip ?_
                    refine Fin.block_normal ?_
                    refine Fin.then_normal ?_
                    refine WX.region rfl ?_
                    refine WXL.move Met.none rfl ?_
                    refine WXL.bin Met.none rfl rfl bvA ?_
                    refine WXL.assign Met.none rfl ?_
                    refine WXL.nil ?_
                    exact Fin.loop_next (k + 1) (by omega) (by omega) (fun s hs => hs.tl [0, 1] 2)
                · try simp only [cnd] at hg120
                  refine WXL.miss (j := 27) (d := 120) rfl rfl rfl ?_
                  refine WXL.pick_f (Met.some rfl rfl rfl) rfl rfl ?_
                  refine WXL.pick_f Met.none rfl rfl ?_
                  refine WXL.nil ?_
                  refine Fin.then_normal ?_
                  refine WX.cond rfl (fun hc3 => nomatch hc3) (fun hc3 => ?_)
                  refine WX.skip ?_
                  refine Fin.block_normal ?_
                  refine Fin.then_normal ?_
                  refine WX.region rfl ?_
                  refine WXL.move Met.none rfl ?_
                  refine WXL.bin Met.none rfl rfl bvA ?_
                  refine WXL.assign Met.none rfl ?_
                  refine WXL.nil ?_
                  exact Fin.loop_next (k + 1) (by omega) (by omega) (fun s hs => hs.tl [0, 1] 2)
              · try simp only [cnd] at hg115
                refine WXL.miss (j := 22) (d := 115) rfl rfl rfl ?_
                refine WXL.miss (j := 22) (d := 115) rfl rfl rfl ?_
                refine WXL.miss (j := 22) (d := 115) rfl rfl rfl ?_
                refine WXL.pick_f (Met.some rfl rfl rfl) rfl rfl ?_
                refine WXL.move (Met.some rfl rfl rfl) rfl ?_
                refine WXL.miss (j := 27) (d := 120) rfl rfl rfl ?_
                refine WXL.pick_f (Met.some rfl rfl rfl) rfl rfl ?_
                refine WXL.pick_f Met.none rfl rfl ?_
                refine WXL.nil ?_
                refine Fin.then_normal ?_
                refine WX.cond rfl (fun hc3 => nomatch hc3) (fun hc3 => ?_)
                refine WX.skip ?_
                refine Fin.block_normal ?_
                refine Fin.then_normal ?_
                refine WX.region rfl ?_
                refine WXL.move Met.none rfl ?_
                refine WXL.bin Met.none rfl rfl bvA ?_
                refine WXL.assign Met.none rfl ?_
                refine WXL.nil ?_
                exact Fin.loop_next (k + 1) (by omega) (by omega) (fun s hs => hs.tl [0, 1] 2)
        · try simp only [cnd] at hc2
          refine WX.exit ?_
          refine Fin.then_exit ?_
          refine Fin.loop_exit ?_
          refine Fin.block_hit rfl ?_
          refine Fin.then_normal ?_
          refine WX.seq ?_
          refine WX.region rfl ?_
          refine WXL.cl (O1 := _) Met.none rfl (fnOk_of Try.func19 (by decide +kernel)) rfl (fun _ h => h) (lives_ok _) (fun v O' hp => ?_)
          obtain ⟨rfl, hO⟩ := hp
          subst O'
          refine WXL.assign Met.none rfl ?_
          refine WXL.nil ?_
          refine Fin.then_normal ?_
          refine WX.ret ?_
          exact Fin.result (O' := []) (.inr rfl) rfl rfl (fun _ hs => Sat.nil hs.wf) rfl

end Go.Proofs.Ytjmklialkjncaaa.Eng

set_option linter.unusedVariables false
set_option linter.unusedSimpArgs false
namespace Go.Proofs.Ytjmklialkjncaaa.Eng

/-- Does a positive amount leave the node on this edge? -/
def goesB (n : Net4) (g : List Int) (v : Int) (i : Nat) : Bool := decide (((nth n.edges i).a = v ∧ 0 < nth g i) ∨ ((nth n.edges i).b = v ∧ nth g i < 0))
def leaveI (n : Net4) (g : List Int) (v : Int) : Option Nat := (List.range n.edges.length).find? (goesB n g v)
def leaveZ (n : Net4) (g : List Int) (v : Int) : Int := match leaveI n g v with
  | some i => (i : Int)
  | none => -1

theorem leave_some {n : Net4} {g : List Int} {v : Int} {i : Nat} (hi : i < n.edges.length) (h1 : goesB n g v i = true) (h2 : ∀ j, j < i → goesB n g v j = false) : leaveI n g v = some i := by
  unfold leaveI
  rw [List.find?_range_eq_some]
  exact ⟨h1, List.mem_range.2 hi, fun j hj => by rw [h2 j hj]; rfl⟩

theorem leave_none {n : Net4} {g : List Int} {v : Int} (h : ∀ j, j < n.edges.length → goesB n g v j = false) : leaveI n g v = none := by
  unfold leaveI
  rw [List.find?_eq_none]
  intro j hj
  rw [h j (List.mem_range.1 hj)]
  decide

theorem leave_is {n : Net4} {g : List Int} {v : Int} {i : Nat} (h : leaveI n g v = some i) : i < n.edges.length ∧ goesB n g v i = true := by
  unfold leaveI at h
  exact ⟨List.mem_range.1 (List.mem_of_find?_eq_some h), List.find?_some h⟩

theorem leave_not {n : Net4} {g : List Int} {v : Int} (h : leaveI n g v = none) : ∀ j, j < n.edges.length → goesB n g v j = false := by
  unfold leaveI at h
  rw [List.find?_eq_none] at h
  intro j hj
  simpa using h j (List.mem_range.2 hj)

theorem refLeave_ok (O : Objs) (n : Net4) (g : List Int) (v : Int) (a ag : Option Addr) (c cg : Nat) (hlen : n.edges.length ≤ 1000000) (hgl : g.length = n.edges.length) (hl : Edges O n a c) (hg : Src O 1 (.slice ag g.length cg) g.length (g.map I)) :
    Spec Try.prog true 54 #[netV n a c, .slice ag g.length cg, I v] O fun u O' => u = I (leaveZ n g v) ∧ O' = O := by
  refine Spec.enter (args := [_, _, _]) (m := 47) Try.func54 rfl rfl (by decide +kernel) fun h0 => ?_
  refine WX.seq ?_
  refine WX.region rfl ?_
  refine WXL.box (c := [_, _, _, _]) Met.none rfl rfl rfl (fun b3 => ?_)
  refine WXL.assign Met.none rfl ?_
  refine WXL.nil ?_
  refine Fin.then_normal ?_
  refine WX.seq ?_
  refine WX.seq ?_
  refine WX.region rfl ?_
  refine WXL.assign Met.none rfl ?_
  refine WXL.nil ?_
  refine Fin.then_normal ?_
  refine WX.block ?_
  refine WX.loop (fun k : Nat => [(1, .slice ag g.length cg), (2, I v), (3, Ptr b3 0), (7, I (k : Int))]) (fun _ => (b3, ⟨0, false, [I n.nodes, I n.source, I n.sink, .slice a n.edges.length c]⟩) :: O) (fun k => k ≤ n.edges.length ∧ ∀ j, j < k → goesB n g v j = false) (fun k => n.edges.length - k) 0 ⟨Nat.zero_le _, fun j hj => absurd hj (Nat.not_lt_zero _)⟩ (fun s hs => hs.tl [0] 1) (fun k hk => ?_)
  obtain ⟨hk, hall⟩ := hk
  refine WX.seq ?_
  refine WX.seq ?_
  refine WX.region rfl ?_
  refine WXL.move Met.none rfl ?_
  refine WXL.move Met.none rfl ?_
  refine WXL.len Met.none rfl Try.underlying22 ?_
  refine WXL.bin Met.none rfl rfl rfl ?_
  refine WXL.nil ?_
  refine Fin.then_normal ?_
  refine WX.cond rfl (fun hc0 => ?_) (fun hc0 => ?_)
  · try simp only [cnd] at hc0
    refine WX.skip ?_
    refine Fin.then_normal ?_
    refine WX.seq ?_
    refine WX.block ?_
    refine WX.seq ?_
    refine WX.region rfl ?_
    refine WXL.fieldAddr (off' := 3) Met.none rfl Try.underlying25 rfl sz23 rfl ?_
    first | refine WXL.ld Met.none rfl agg23 ?_ | refine WXL.ldS Met.none rfl agg23 ?_
    refine WXL.move Met.none rfl ?_
    first | refine WXL.ix Met.none rfl rfl elem23 sz63 ?_ | refine WXL.ixS Met.none rfl rfl elem23 sz63 ?_
    first | refine WXL.fieldAddr Met.none rfl Try.underlying63 rfl sz3 rfl ?_ | refine WXL.faS Met.none rfl Try.underlying63 rfl sz3 ?_
    first | refine WXL.ld Met.none rfl agg3 ?_ | refine WXL.ldS Met.none rfl agg3 ?_
    refine WXL.move Met.none rfl ?_
    refine WXL.bin Met.none rfl rfl rfl ?_
    refine WXL.move Met.none rfl ?_
    refine WXL.split (d := 22) rfl (fun hg22 => ?_) (fun hg22 => ?_)
    · try simp only [cnd] at hg22
      refine WXL.move (Met.some rfl rfl rfl) rfl ?_
      refine WXL.move (Met.some rfl rfl rfl) rfl ?_
      first | refine WXL.ix (Met.some rfl rfl rfl) rfl rfl elem22 sz3 ?_ | refine WXL.ixS (Met.some rfl rfl rfl) rfl rfl elem22 sz3 ?_
      first | refine WXL.ld (Met.some rfl rfl rfl) rfl agg3 ?_ | refine WXL.ldS (Met.some rfl rfl rfl) rfl agg3 ?_
      refine WXL.bin (Met.some rfl rfl rfl) rfl rfl rfl ?_
      refine WXL.pick_t Met.none rfl rfl ?_
      refine WXL.move Met.none rfl ?_
      refine WXL.split (d := 29) rfl (fun hg29 => ?_) (fun hg29 => ?_)
      · try simp only [cnd] at hg29
        refine WXL.miss (j := 15) (d := 29) rfl rfl rfl ?_
        refine WXL.miss (j := 15) (d := 29) rfl rfl rfl ?_
        refine WXL.miss (j := 15) (d := 29) rfl rfl rfl ?_
        refine WXL.miss (j := 15) (d := 29) rfl rfl rfl ?_
        refine WXL.miss (j := 15) (d := 29) rfl rfl rfl ?_
        refine WXL.miss (j := 15) (d := 29) rfl rfl rfl ?_
        refine WXL.miss (j := 15) (d := 29) rfl rfl rfl ?_
        refine WXL.miss (j := 15) (d := 29) rfl rfl rfl ?_
        refine WXL.miss (j := 15) (d := 29) rfl rfl rfl ?_
        refine WXL.missU (j := 24) (e := 38) rfl rfl ?_
        refine WXL.missU (j := 24) (e := 38) rfl rfl ?_
        refine WXL.missU (j := 24) (e := 38) rfl rfl ?_
        refine WXL.missU (j := 24) (e := 38) rfl rfl ?_
        refine WXL.missU (j := 24) (e := 38) rfl rfl ?_
        refine WXL.miss (j := 15) (d := 29) rfl rfl rfl ?_
        refine WXL.pick_t Met.none rfl rfl ?_
        refine WXL.nil ?_
        refine Fin.then_normal ?_
        refine WX.cond rfl (fun hc1 => ?_) (fun hc1 => nomatch hc1)
        refine WX.seq ?_
        refine WX.region rfl ?_
        refine WXL.move Met.none rfl ?_
        refine WXL.assign Met.none rfl ?_
        refine WXL.nil ?_
        refine Fin.then_normal ?_
        refine WX.ret ?_
        refine Fin.block_ret ?_
        refine Fin.then_ret ?_
        refine Fin.loop_ret ?_
        refine Fin.block_ret ?_
        refine Fin.then_ret ?_
        refine Fin.result (O' := O) (.inr rfl) rfl rfl drop_ ⟨?_, rfl⟩
        unfold leaveZ
        first
        | (rw [leave_some (i := k) (by omega) (decide_eq_true (by omega)) hall]; rfl)
        | (rw [leave_none fun j hj => hall j (by omega)]; rfl)
      · try simp only [cnd] at hg29
        refine WXL.fieldAddr (off' := 3) (Met.some rfl rfl rfl) rfl Try.underlying25 rfl sz23 rfl ?_
        first | refine WXL.ld (Met.some rfl rfl rfl) rfl agg23 ?_ | refine WXL.ldS (Met.some rfl rfl rfl) rfl agg23 ?_
        refine WXL.move (Met.some rfl rfl rfl) rfl ?_
        first | refine WXL.ix (Met.some rfl rfl rfl) rfl rfl elem23 sz63 ?_ | refine WXL.ixS (Met.some rfl rfl rfl) rfl rfl elem23 sz63 ?_
        first | refine WXL.fieldAddr (Met.some rfl rfl rfl) rfl Try.underlying63 rfl sz3 rfl ?_ | refine WXL.faS (Met.some rfl rfl rfl) rfl Try.underlying63 rfl sz3 ?_
        first | refine WXL.ld (Met.some rfl rfl rfl) rfl agg3 ?_ | refine WXL.ldS (Met.some rfl rfl rfl) rfl agg3 ?_
        refine WXL.move (Met.some rfl rfl rfl) rfl ?_
        refine WXL.bin (Met.some rfl rfl rfl) rfl rfl rfl ?_
        refine WXL.move (Met.some rfl rfl rfl) rfl ?_
        refine WXL.split (d := 38) rfl (fun hg38 => ?_) (fun hg38 => ?_)
        · try simp only [cnd] at hg38
          refine WXL.move (Met.some rfl rfl rfl) rfl ?_
          refine WXL.move (Met.some rfl rfl rfl) rfl ?_
          first | refine WXL.ix (Met.some rfl rfl rfl) rfl rfl elem22 sz3 ?_ | refine WXL.ixS (Met.some rfl rfl rfl) rfl rfl elem22 sz3 ?_
          first | refine WXL.ld (Met.some rfl rfl rfl) rfl agg3 ?_ | refine WXL.ldS (Met.some rfl rfl rfl) rfl agg3 ?_
          refine WXL.bin (Met.some rfl rfl rfl) rfl rfl rfl ?_
          refine WXL.pick_t (Met.some rfl rfl rfl) rfl rfl ?_
          refine WXL.pick_f Met.none rfl rfl ?_
          refine WXL.nil ?_
          refine Fin.then_normal ?_
          refine WX.cond rfl (fun hc1 => ?_) (fun hc1 => ?_)
          · try simp only [cnd] at hc1
            refine WX.seq ?_
            refine WX.region rfl ?_
            refine WXL.move Met.none rfl ?_
            refine WXL.assign Met.none rfl ?_
            refine WXL.nil ?_
            refine Fin.then_normal ?_
            refine WX.ret ?_
            refine Fin.block_ret ?_
            refine Fin.then_ret ?_
            refine Fin.loop_ret ?_
            refine Fin.block_ret ?_
            refine Fin.then_ret ?_
            refine Fin.result (O' := O) (.inr rfl) rfl rfl drop_ ⟨?_, rfl⟩
            unfold leaveZ
            first
            | (rw [leave_some (i := k) (by omega) (decide_eq_true (by omega)) hall]; rfl)
            | (rw [leave_none fun j hj => hall j (by omega)]; rfl)
          · try simp only [cnd] at hc1
            refine WX.skip ?_
            refine Fin.block_normal ?_
            refine Fin.then_normal ?_
            refine WX.region rfl ?_
            refine WXL.move Met.none rfl ?_
            refine WXL.bin Met.none rfl rfl bvA ?_
            refine WXL.assign Met.none rfl ?_
            refine WXL.nil ?_
            refine Fin.loop_next (k + 1) ⟨by omega, fun j hj => ?_⟩ (by omega) (fun s hs => hs.tl [0] 1)
            rcases Nat.lt_or_ge j k with q | q
            · exact hall j q
            · have e : j = k := by omega
              subst e
              exact decide_eq_false (by omega)
        · try simp only [cnd] at hg38
          refine WXL.miss (j := 24) (d := 38) rfl rfl rfl ?_
          refine WXL.miss (j := 24) (d := 38) rfl rfl rfl ?_
          refine WXL.miss (j := 24) (d := 38) rfl rfl rfl ?_
          refine WXL.miss (j := 24) (d := 38) rfl rfl rfl ?_
          refine WXL.miss (j := 24) (d := 38) rfl rfl rfl ?_
          refine WXL.pick_f (Met.some rfl rfl rfl) rfl rfl ?_
          refine WXL.pick_f Met.none rfl rfl ?_
          refine WXL.nil ?_
          refine Fin.then_normal ?_
          refine WX.cond rfl (fun hc1 => nomatch hc1) (fun hc1 => ?_)
          refine WX.skip ?_
          refine Fin.block_normal ?_
          refine Fin.then_normal ?_
          refine WX.region rfl ?_
          refine WXL.move Met.none rfl ?_
          refine WXL.bin Met.none rfl rfl bvA ?_
          refine WXL.assign Met.none rfl ?_
          refine WXL.nil ?_
          refine Fin.loop_next (k + 1) ⟨by omega, fun j hj => ?_⟩ (by omega) (fun s hs => hs.tl [0] 1)
          rcases Nat.lt_or_ge j k with q | q
          · exact hall j q
          · have e : j = k := by omega
            subst e
            exact decide_eq_false (by omega)
    · try simp only [cnd] at hg22
      refine WXL.miss (j := 8) (d := 22) rfl rfl rfl ?_
      refine WXL.miss (j := 8) (d := 22) rfl rfl rfl ?_
      refine WXL.miss (j := 8) (d := 22) rfl rfl rfl ?_
      refine WXL.miss (j := 8) (d := 22) rfl rfl rfl ?_
      refine WXL.miss (j := 8) (d := 22) rfl rfl rfl ?_
      refine WXL.pick_f Met.none rfl rfl ?_
      refine WXL.move Met.none rfl ?_
      refine WXL.fieldAddr (off' := 3) (Met.some rfl rfl rfl) rfl Try.underlying25 rfl sz23 rfl ?_
      first | refine WXL.ld (Met.some rfl rfl rfl) rfl agg23 ?_ | refine WXL.ldS (Met.some rfl rfl rfl) rfl agg23 ?_
      refine WXL.move (Met.some rfl rfl rfl) rfl ?_
      first | refine WXL.ix (Met.some rfl rfl rfl) rfl rfl elem23 sz63 ?_ | refine WXL.ixS (Met.some rfl rfl rfl) rfl rfl elem23 sz63 ?_
      first | refine WXL.fieldAddr (Met.some rfl rfl rfl) rfl Try.underlying63 rfl sz3 rfl ?_ | refine WXL.faS (Met.some rfl rfl rfl) rfl Try.underlying63 rfl sz3 ?_
      first | refine WXL.ld (Met.some rfl rfl rfl) rfl agg3 ?_ | refine WXL.ldS (Met.some rfl rfl rfl) rfl agg3 ?_
      refine WXL.move (Met.some rfl rfl rfl) rfl ?_
      refine WXL.bin (Met.some rfl rfl rfl) rfl rfl rfl ?_
      refine WXL.move (Met.some rfl rfl rfl) rfl ?_
      refine WXL.split (d := 38) rfl (fun hg38 => ?_) (fun hg38 => ?_)
      · try simp only [cnd] at hg38
        refine WXL.move (Met.some rfl rfl rfl) rfl ?_
        refine WXL.move (Met.some rfl rfl rfl) rfl ?_
        first | refine WXL.ix (Met.some rfl rfl rfl) rfl rfl elem22 sz3 ?_ | refine WXL.ixS (Met.some rfl rfl rfl) rfl rfl elem22 sz3 ?_
        first | refine WXL.ld (Met.some rfl rfl rfl) rfl agg3 ?_ | refine WXL.ldS (Met.some rfl rfl rfl) rfl agg3 ?_
        refine WXL.bin (Met.some rfl rfl rfl) rfl rfl rfl ?_
        refine WXL.pick_t (Met.some rfl rfl rfl) rfl rfl ?_
        refine WXL.pick_f Met.none rfl rfl ?_
        refine WXL.nil ?_
        refine Fin.then_normal ?_
        refine WX.cond rfl (fun hc1 => ?_) (fun hc1 => ?_)
        · try simp only [cnd] at hc1
          refine WX.seq ?_
          refine WX.region rfl ?_
          refine WXL.move Met.none rfl ?_
          refine WXL.assign Met.none rfl ?_
          refine WXL.nil ?_
          refine Fin.then_normal ?_
          refine WX.ret ?_
          refine Fin.block_ret ?_
          refine Fin.then_ret ?_
          refine Fin.loop_ret ?_
          refine Fin.block_ret ?_
          refine Fin.then_ret ?_
          refine Fin.result (O' := O) (.inr rfl) rfl rfl drop_ ⟨?_, rfl⟩
          unfold leaveZ
          first
          | (rw [leave_some (i := k) (by omega) (decide_eq_true (by omega)) hall]; rfl)
          | (rw [leave_none fun j hj => hall j (by omega)]; rfl)
        · try simp only [cnd] at hc1
          refine WX.skip ?_
          refine Fin.block_normal ?_
          refine Fin.then_normal ?_
          refine WX.region rfl ?_
          refine WXL.move Met.none rfl ?_
          refine WXL.bin Met.none rfl rfl bvA ?_
          refine WXL.assign Met.none rfl ?_
          refine WXL.nil ?_
          refine Fin.loop_next (k + 1) ⟨by omega, fun j hj => ?_⟩ (by omega) (fun s hs => hs.tl [0] 1)
          rcases Nat.lt_or_ge j k with q | q
          · exact hall j q
          · have e : j = k := by omega
            subst e
            exact decide_eq_false (by omega)
      · try simp only [cnd] at hg38
        refine WXL.miss (j := 24) (d := 38) rfl rfl rfl ?_
        refine WXL.miss (j := 24) (d := 38) rfl rfl rfl ?_
        refine WXL.miss (j := 24) (d := 38) rfl rfl rfl ?_
        refine WXL.miss (j := 24) (d := 38) rfl rfl rfl ?_
        refine WXL.miss (j := 24) (d := 38) rfl rfl rfl ?_
        refine WXL.pick_f (Met.some rfl rfl rfl) rfl rfl ?_
        refine WXL.pick_f Met.none rfl rfl ?_
        refine WXL.nil ?_
        refine Fin.then_normal ?_
        refine WX.cond rfl (fun hc1 => nomatch hc1) (fun hc1 => ?_)
        refine WX.skip ?_
        refine Fin.block_normal ?_
        refine Fin.then_normal ?_
        refine WX.region rfl ?_
        refine WXL.move Met.none rfl ?_
        refine WXL.bin Met.none rfl rfl bvA ?_
        refine WXL.assign Met.none rfl ?_
        refine WXL.nil ?_
        refine Fin.loop_next (k + 1) ⟨by omega, fun j hj => ?_⟩ (by omega) (fun s hs => hs.tl [0] 1)
        rcases Nat.lt_or_ge j k with q | q
        · exact hall j q
        · have e : j = k := by omega
          subst e
          exact decide_eq_false (by omega)
  · try simp only [cnd] at hc0
    refine WX.exit ?_
    refine Fin.then_exit ?_
    refine Fin.loop_exit ?_
    refine Fin.block_hit rfl ?_
    refine Fin.then_normal ?_
    refine WX.seq ?_
    refine WX.region rfl ?_
    refine WXL.assign Met.none rfl ?_
    refine WXL.nil ?_
    refine Fin.then_normal ?_
    refine WX.ret ?_
    refine Fin.result (O' := O) (.inr rfl) rfl rfl drop_ ⟨?_, rfl⟩
    unfold leaveZ
    first
    | (rw [leave_some (i := k) (by omega) (decide_eq_true (by omega)) hall]; rfl)
    | (rw [leave_none fun j hj => hall j (by omega)]; rfl)

def leftP (g : List Int) (r : Arc) : Int := if r.fwd = true then nth g r.edge else -(nth g r.edge)

/-- The cell that holds the rest, and the functions that look at it. -/
def LeftV (b : Nat) : Value := .func (.func 49) #[] #[Ptr b 0]

theorem left_ok (O : Objs) (g : List Int) (r : Arc) (b : Nat) (ag : Option Addr) (cg : Nat) (hb : Knows O b ⟨0, false, [.slice ag g.length cg]⟩) (hg : Src O 1 (.slice ag g.length cg) g.length (g.map I)) (hr : r.edge < g.length) (h64 : -9223372036854775807 ≤ nth g r.edge ∧ nth g r.edge ≤ 9223372036854775807) :
    Spec Try.prog true 49 #[aggA r, Ptr b 0] O fun u O' => u = I (leftP g r) ∧ O' = O := by
  refine Spec.enter (args := [_, _]) (m := 17) Try.func49 rfl rfl (by decide +kernel) fun h0 => ?_
  refine WX.seq ?_
  refine WX.region rfl ?_
  refine WXL.box (c := [_, _, _]) Met.none rfl rfl rfl (fun b2 => ?_)
  refine WXL.assign Met.none rfl ?_
  refine WXL.nil ?_
  refine Fin.then_normal ?_
  refine WX.seq ?_
  refine WX.seq ?_
  refine WX.region rfl ?_
  refine WXL.fieldAddr (off' := 2) Met.none rfl Try.underlying79 rfl sz4 rfl ?_
  first | refine WXL.ld Met.none rfl agg4 ?_ | refine WXL.ldS Met.none rfl agg4 ?_
  refine WXL.nil ?_
  refine Fin.then_normal ?_
  refine WX.cond rfl (fun hc0 => ?_) (fun hc0 => ?_)
  · try simp only [cnd] at hc0
    refine WX.seq ?_
    refine WX.region rfl ?_
    first | refine WXL.ld Met.none rfl agg22 ?_ | refine WXL.ldS Met.none rfl agg22 ?_
    refine WXL.fieldAddr (off' := 0) Met.none rfl Try.underlying79 rfl sz3 rfl ?_
    first | refine WXL.ld Met.none rfl agg3 ?_ | refine WXL.ldS Met.none rfl agg3 ?_
    first | refine WXL.ix Met.none rfl rfl elem22 sz3 ?_ | refine WXL.ixS Met.none rfl rfl elem22 sz3 ?_
    first | refine WXL.ld Met.none rfl agg3 ?_ | refine WXL.ldS Met.none rfl agg3 ?_
    refine WXL.assign Met.none rfl ?_
    refine WXL.nil ?_
    refine Fin.then_normal ?_
    refine WX.ret ?_
    refine Fin.then_ret ?_
    refine Fin.result (O' := O) (.inr rfl) rfl rfl drop_ ⟨?_, rfl⟩
    unfold leftP
    first | (rw [if_pos hc0]; rfl) | (rw [if_neg (by rw [hc0]; decide)]; rfl)
  · try simp only [cnd] at hc0
    refine WX.skip ?_
    refine Fin.then_normal ?_
    refine WX.seq ?_
    refine WX.region rfl ?_
    first | refine WXL.ld Met.none rfl agg22 ?_ | refine WXL.ldS Met.none rfl agg22 ?_
    refine WXL.fieldAddr (off' := 0) Met.none rfl Try.underlying79 rfl sz3 rfl ?_
    first | refine WXL.ld Met.none rfl agg3 ?_ | refine WXL.ldS Met.none rfl agg3 ?_
    first | refine WXL.ix Met.none rfl rfl elem22 sz3 ?_ | refine WXL.ixS Met.none rfl rfl elem22 sz3 ?_
    first | refine WXL.ld Met.none rfl agg3 ?_ | refine WXL.ldS Met.none rfl agg3 ?_
    refine WXL.neg Met.none rfl (by first | exact wrap_neg (by omega) (by omega) | exact rfl) ?_
    refine WXL.assign Met.none rfl ?_
    refine WXL.nil ?_
    refine Fin.then_normal ?_
    refine WX.ret ?_
    refine Fin.result (O' := O) (.inr rfl) rfl rfl drop_ ⟨?_, rfl⟩
    unfold leftP
    first | (rw [if_pos hc0]; rfl) | (rw [if_neg (by rw [hc0]; decide)]; rfl)

theorem pred_ok (O : Objs) (g : List Int) (r : Arc) (b p : Nat) (ag : Option Addr) (cg : Nat) (hp : Knows O p ⟨0, false, [LeftV b]⟩) (hb : Knows O b ⟨0, false, [.slice ag g.length cg]⟩) (hg : Src O 1 (.slice ag g.length cg) g.length (g.map I)) (hr : r.edge < g.length) (h64 : -9223372036854775807 ≤ nth g r.edge ∧ nth g r.edge ≤ 9223372036854775807) :
    Spec Try.prog true 52 #[aggA r, Ptr p 0] O fun u O' => u = .bool (decide (0 < leftP g r)) ∧ O' = O := by
  refine Spec.enter (args := [_, _]) (m := 8) Try.func52 rfl rfl (by decide +kernel) fun h0 => ?_
  refine WX.seq ?_
  refine WX.region rfl ?_
  refine WXL.box (c := [_, _, _]) Met.none rfl rfl rfl (fun b2 => ?_)
  refine WXL.assign Met.none rfl ?_
  refine WXL.nil ?_
  refine Fin.then_normal ?_
  refine WX.seq ?_
  refine WX.region rfl ?_
  first | refine WXL.ld Met.none rfl agg89 ?_ | refine WXL.ldS Met.none rfl agg89 ?_
  refine WXL.ldN (vs := [_, _, _]) Met.none rfl agg79 sz79 ?_
  refine WXL.cl (O1 := _) Met.none rfl (fnOk_of Try.func49 (by decide +kernel)) rfl (fun _ h => h) (left_ok _ g r b ag cg hb.cons src_ hr h64) (fun v O' hp => ?_)
  obtain ⟨rfl, hO⟩ := hp
  subst O'
  refine WXL.bin Met.none rfl rfl rfl ?_
  refine WXL.assign Met.none rfl ?_
  refine WXL.nil ?_
  refine Fin.then_normal ?_
  refine WX.ret ?_
  refine Fin.result (O' := O) (.inr rfl) rfl rfl drop_ ⟨rfl, rfl⟩

theorem indexArc_ok (O : Objs) (l : List Arc) (a : Option Addr) (c : Nat) (f : FuncId) (first cap : Array Value) (p : Arc → Bool) (hl : Src O 3 (.slice a l.length c) l.length (flat encA l)) (hlen : l.length ≤ 1000000) (hf : fnOk Try.prog f = true) (ht : Tells Try.prog O f first.toList cap.toList aggA p l) :
    Spec Try.prog true 51 #[.slice a l.length c, .func (.func f) first cap] O fun v O' => v = I (if l.findIdx p < l.length then (l.findIdx p : Int) else -1) ∧ O' = O := by
  refine Spec.enter (args := [_, _]) (m := 19) Try.func51 rfl rfl (by decide +kernel) fun h0 => ?_
  refine WX.seq ?_
  refine WX.region rfl ?_
  refine WXL.assign Met.none rfl ?_
  refine WXL.nil ?_
  refine Fin.then_normal ?_
  refine WX.seq ?_
  refine WX.seq ?_
  refine WX.region rfl ?_
  refine WXL.move Met.none rfl ?_
  refine WXL.len Met.none rfl Try.underlying74 ?_
  refine WXL.move Met.none rfl ?_
  refine WXL.nil ?_
  refine Fin.then_normal ?_
  refine WX.block ?_
  refine WX.loop (fun k : Nat => [(0, .slice a l.length c), (1, .func (.func f) first cap), (7, I (l.length : Int)), (8, I (k : Int))]) (fun _ => O) (fun k => k ≤ l.length ∧ ∀ j, j < k → p (nth l j) = false) (fun k => l.length - k) 0 ⟨Nat.zero_le _, fun j hj => absurd hj (Nat.not_lt_zero _)⟩ (fun s hs => hs.tl [] 0) (fun k hk => ?_)
  refine WX.seq ?_
  refine WX.region rfl ?_
  refine WXL.bin Met.none rfl rfl rfl ?_
  refine WXL.nil ?_
  refine Fin.then_normal ?_
  refine WX.seq ?_
  refine WX.cond rfl (fun hc0 => ?_) (fun hc0 => ?_)
  · try simp only [cnd] at hc0
    refine WX.skip ?_
    refine Fin.then_normal ?_
    refine WX.seq ?_
    refine WX.block ?_
    refine WX.seq ?_
    refine WX.region rfl ?_
    refine WXL.move Met.none rfl ?_
    refine WXL.assign Met.none rfl ?_
    refine WXL.nil ?_
    refine Fin.then_normal ?_
    refine WX.seq ?_
    refine WX.region rfl ?_
    refine WXL.move Met.none rfl ?_
    refine WXL.move Met.none rfl ?_
    refine WXL.move Met.none rfl ?_
    first | refine WXL.ix Met.none rfl rfl elem74 sz79 ?_ | refine WXL.ixS Met.none rfl rfl elem74 sz79 ?_
    first | refine WXL.ldN Met.none rfl agg79 sz79 ?_ | refine WXL.ldNS Met.none rfl agg79 sz79 ?_
    refine WXL.cl (O1 := _) Met.none rfl hf rfl (fun _ h => h) (ht [] (nth l k) (nth_mem (by omega))) (fun v O' hp => ?_)
    obtain ⟨rfl, hO⟩ := hp
    subst O'
    refine WXL.nil ?_
    refine Fin.then_normal ?_
    refine WX.cond rfl (fun hc1 => ?_) (fun hc1 => ?_)
    · try simp only [cnd] at hc1
      refine WX.seq ?_
      refine WX.region rfl ?_
      refine WXL.move Met.none rfl ?_
      refine WXL.assign Met.none rfl ?_
      refine WXL.nil ?_
      refine Fin.then_normal ?_
      refine WX.ret ?_
      refine Fin.block_ret ?_
      refine Fin.then_ret ?_
      refine Fin.loop_ret ?_
      refine Fin.block_ret ?_
      refine Fin.then_ret ?_
      refine Fin.result (O' := O) (.inr rfl) rfl rfl drop_ ⟨?_, rfl⟩
      first
      | exact congrArg I (by rw [findIdx_found (by omega) hk.2 hc1, if_pos (by omega)])
      | exact congrArg I (by
          have e1 : l.findIdx p = l.length := by
            rw [List.findIdx_eq_length]
            intro x hx
            obtain ⟨j, hj, rfl⟩ := List.mem_iff_getElem.1 hx
            rw [← nth_get hj]
            exact hk.2 j (by omega)
          rw [e1, if_neg (by omega)])
    · try simp only [cnd] at hc1
      refine WX.skip ?_
      refine Fin.block_normal ?_
      refine Fin.then_normal ?_
      refine WX.region rfl ?_
      refine WXL.bin Met.none rfl rfl bvA ?_
      refine WXL.move Met.none rfl ?_
      refine WXL.nil ?_
      refine Fin.loop_next (k + 1) ⟨by omega, fun j hj => ?_⟩ (by omega) (fun s hs => hs.tl [] 0)
      rcases Nat.lt_or_ge j k with q | q
      · exact hk.2 j q
      · have e : j = k := by omega
        subst e
        exact hc1
  · try simp only [cnd] at hc0
    refine WX.exit ?_
    refine Fin.then_exit ?_
    refine Fin.loop_exit ?_
    refine Fin.block_hit rfl ?_
    refine Fin.then_normal ?_
    refine WX.seq ?_
    refine WX.region rfl ?_
    refine WXL.assign Met.none rfl ?_
    refine WXL.nil ?_
    refine Fin.then_normal ?_
    refine WX.ret ?_
    refine Fin.result (O' := O) (.inr rfl) rfl rfl drop_ ⟨?_, rfl⟩
    first
    | exact congrArg I (by rw [findIdx_found (by omega) hk.2 hc1, if_pos (by omega)])
    | exact congrArg I (by
        have e1 : l.findIdx p = l.length := by
          rw [List.findIdx_eq_length]
          intro x hx
          obtain ⟨j, hj, rfl⟩ := List.mem_iff_getElem.1 hx
          rw [← nth_get hj]
          exact hk.2 j (by omega)
        rw [e1, if_neg (by omega)])

theorem find_congr {α : Type} {p q : α → Bool} : ∀ (l : List α), (∀ a ∈ l, p a = q a) → l.find? p = l.find? q
  | [], _ => rfl
  | x :: l, h => by
    rw [List.find?_cons, List.find?_cons, h x (List.mem_cons_self ..), find_congr l fun a ha => h a (List.mem_cons_of_mem _ ha)]

theorem find_idx {α : Type} [Inhabited α] (p : α → Bool) : ∀ (l : List α), l.find? p = if l.findIdx p < l.length then some (nth l (l.findIdx p)) else none
  | [] => rfl
  | x :: l => by
    rw [List.find?_cons, List.findIdx_cons]
    cases h : p x with
    | true => simp [nth]
    | false =>
      simp only [cond_false, List.length_cons]
      rw [find_idx p l]
      by_cases q : l.findIdx p < l.length
      · rw [if_pos q, if_pos (by omega)]
        rfl
      · rw [if_neg q, if_neg (by omega)]

/-- The first arc of a node on which something is left is the first edge on which something leaves it. -/
theorem arcs_leave {n : Net4} (hn : Sound n) (g : List Int) (u : Nat) : (incL n u).find? (fun i => decide (0 < leftP g (arcAt n u i))) = leaveI n g u := by
  unfold incL leaveI
  rw [List.find?_filter]
  refine find_congr _ ?_
  intro i hi
  have he := hn.at (List.mem_range.1 hi)
  unfold touches goesB arcAt leftP
  rw [Bool.eq_iff_iff]
  simp only [Bool.and_eq_true, decide_eq_true_eq]
  by_cases ha : (nth n.edges i).a = u
  · have hb : ¬ (nth n.edges i).b = u := by omega
    simp only [if_pos ha, if_true]
    omega
  · simp only [if_neg ha, Bool.false_eq_true, if_false]
    omega

def leaveV (n : Net4) (g : List Int) (v : Int) : Value := match leaveI n g v with
  | some i => .tuple #[aggA (arcAt n v.toNat i), .bool true]
  | none => .tuple #[aggA ⟨0, 0, false⟩, .bool false]

theorem leave_ok (O : Objs) (n : Net4) (g : List Int) (v : Int) (b p q : Nat) (aa ag : Option Addr) (ca cg : Nat) (A : Nat → Option Addr) (C : Nat → Nat) (hn : Sound n) (hv : 0 ≤ v ∧ v < n.nodes)
    (hq : Knows O q ⟨0, false, [.slice aa n.nodes.toNat ca]⟩) (hp : Knows O p ⟨0, false, [LeftV b]⟩) (hb : Knows O b ⟨0, false, [.slice ag g.length cg]⟩) (hg : Src O 1 (.slice ag g.length cg) g.length (g.map I)) (hgl : g.length = n.edges.length) (h64 : ∀ i, i < g.length → -9223372036854775807 ≤ nth g i ∧ nth g i ≤ 9223372036854775807)
    (har : Src O 1 (.slice aa n.nodes.toNat ca) n.nodes.toNat (rowsV n n.edges.length A C)) (hrow : ∀ u, u < n.nodes.toNat → Src O 3 (.slice (A u) (arcsOf n u).length (C u)) (arcsOf n u).length (flat encA (arcsOf n u))) :
    Spec Try.prog false 50 #[I v, Ptr q 0, Ptr p 0] O fun u O' => u = leaveV n g v ∧ O' = O := by
  have hlen := hn.len
  have hal := arcsTo_len n n.edges.length v.toNat
  have hal2 : (arcsOf n v.toNat).length ≤ n.edges.length := hal
  have hR := hrow v.toNat (by omega)
  have hti : ((v.toNat : Nat) : Int) = v := Int.toNat_of_nonneg hv.1
  have hfind := find_idx (fun r => decide (0 < leftP g r)) (arcsOf n v.toNat)
  have hmap : (arcsOf n v.toNat).find? (fun r => decide (0 < leftP g r)) = (leaveI n g v).map (arcAt n v.toNat) := by
    rw [arcsOf_eq, List.find?_map]
    have := arcs_leave hn g v.toNat
    rw [hti] at this
    rw [← this]
    rfl
  refine Spec.enter (args := [_, _, _]) (m := 23) Try.func50 rfl rfl (by decide +kernel) fun h0 => ?_
  refine WX.seq ?_
  refine WX.region rfl ?_
  refine WXL.alloc (c := [_, _, _]) Met.none zero79 rfl (fun b4 => ?_)
  refine WXL.assign Met.none rfl ?_
  refine WXL.nil ?_
  refine Fin.then_normal ?_
  refine WX.seq ?_
  refine WX.region rfl ?_
  first | refine WXL.ld Met.none rfl agg72 ?_ | refine WXL.ldS Met.none rfl agg72 ?_
  refine WXL.move Met.none rfl ?_
  first | refine WXL.ix Met.none rfl rfl elem72 sz74 ?_ | refine WXL.ixS Met.none rfl rfl elem72 sz74 ?_
  first | refine WXL.ldS Met.none rfl agg74 ?_ (hv := (show _ = some (Value.slice (A v.toNat) (arcsOf n v.toNat).length (C v.toNat)) from cell_range (V := fun u => Value.slice (A u) (arcsTo n n.edges.length u).length (C u)) (u := v.toNat) (by omega)))
  refine WXL.makeFunc Met.none rfl rfl ?_
  refine WXL.cl (O1 := _) Met.none rfl (fnOk_of Try.func51 (by decide +kernel)) rfl (fun _ h => h) (indexArc_ok _ (arcsOf n v.toNat) (A v.toNat) (C v.toNat) 52 #[] _ (fun r => decide (0 < leftP g r)) src_ (by omega) (fnOk_of Try.func52 (by decide +kernel)) (fun N e he => by
  have hee : e.edge < g.length := by
    rw [arcsOf_eq] at he
    obtain ⟨i, hi, rfl⟩ := List.mem_map.1 he
    have h1 := incL_mem hi
    have h2 := (arc_rest hn g hi).2.1
    omega
  exact pred_ok _ g e b p ag cg (Knows.app hp.cons) (Knows.app hb.cons) (Src.app hg.cons) hee (h64 _ hee))) (fun v O' hp => ?_)
  obtain ⟨rfl, hO⟩ := hp
  subst O'
  refine WXL.assign Met.none rfl ?_
  refine WXL.nil ?_
  refine Fin.then_normal ?_
  refine WX.seq ?_
  refine WX.seq ?_
  obtain ⟨ix, hix⟩ : ∃ ix : Int, ix = (if (arcsOf n v.toNat).findIdx (fun r => decide (0 < leftP g r)) < (arcsOf n v.toNat).length then (((arcsOf n v.toNat).findIdx (fun r => decide (0 < leftP g r)) : Nat) : Int) else -1) := ⟨_, rfl⟩
  rw [← hix]
  refine WX.region rfl ?_
  refine WXL.move Met.none rfl ?_
  refine WXL.bin Met.none rfl rfl rfl ?_
  refine WXL.nil ?_
  refine Fin.then_normal ?_
  refine WX.cond rfl (fun hc0 => ?_) (fun hc0 => ?_)
  · try simp only [cnd] at hc0
    refine WX.seq ?_
    refine WX.region rfl ?_
    refine WXL.build (c := [_, _, _]) Met.none rfl zero79 places79 rfl ?_
    refine WXL.st (vs := [_, _, _]) (c' := [_, _, _]) Met.none rfl rfl rfl sz79 ?_
    refine WXL.assign Met.none rfl ?_
    refine WXL.nil ?_
    refine Fin.then_normal ?_
    refine WX.ret ?_
    refine Fin.then_ret ?_
    first
    | (have hge : ¬ (arcsOf n v.toNat).findIdx (fun r => decide (0 < leftP g r)) < (arcsOf n v.toNat).length := fun q => by rw [if_pos q] at hix; omega
       rw [if_neg hge, hmap] at hfind
       have hno : leaveI n g v = none := by
         cases hx : leaveI n g v with
         | none => rfl
         | some i => rw [hx] at hfind; cases hfind
       exact Fin.results (O' := O) (.inr rfl) rfl (vs := [aggA ⟨0, 0, false⟩, .bool false]) ⟨⟨b4, 0, rfl, load_agg (n := 3) (vs := [_, _, _]) at_ agg79 sz79 rfl⟩, rfl, trivial⟩ drop_ ⟨by unfold leaveV; rw [hno]; rfl, rfl⟩)
    | (obtain ⟨i, hi, hia⟩ : ∃ i, leaveI n g v = some i ∧ arcAt n v.toNat i = nth (arcsOf n v.toNat) k := by
         cases hx : leaveI n g v with
         | none => rw [hx] at hfind; cases hfind
         | some i => rw [hx] at hfind; exact ⟨i, rfl, Option.some.inj hfind⟩
       exact Fin.results (O' := O) (.inr rfl) rfl (vs := [aggA (nth (arcsOf n v.toNat) k), .bool true]) ⟨⟨b4, 0, rfl, load_agg (n := 3) (vs := [_, _, _]) at_ agg79 sz79 rfl⟩, rfl, trivial⟩ drop_ ⟨by unfold leaveV; rw [hi, ← hia]; rfl, rfl⟩)
  · try simp only [cnd] at hc0
    refine WX.skip ?_
    refine Fin.then_normal ?_
    refine WX.seq ?_
    have hlt : (arcsOf n v.toNat).findIdx (fun r => decide (0 < leftP g r)) < (arcsOf n v.toNat).length := by
      rcases Classical.em ((arcsOf n v.toNat).findIdx (fun r => decide (0 < leftP g r)) < (arcsOf n v.toNat).length) with q | q
      · exact q
      · rw [if_neg q] at hix; omega
    rw [if_pos hlt] at hix
    rw [if_pos hlt, hmap] at hfind
    obtain ⟨k, hk⟩ : ∃ k, k = (arcsOf n v.toNat).findIdx (fun r => decide (0 < leftP g r)) := ⟨_, rfl⟩
    rw [← hk] at hlt hix hfind
    rw [hix]
    refine WX.region rfl ?_
    first | refine WXL.ld Met.none rfl agg72 ?_ | refine WXL.ldS Met.none rfl agg72 ?_
    refine WXL.move Met.none rfl ?_
    first | refine WXL.ix Met.none rfl rfl elem72 sz74 ?_ | refine WXL.ixS Met.none rfl rfl elem72 sz74 ?_
    first | refine WXL.ldS Met.none rfl agg74 ?_ (hv := (show _ = some (Value.slice (A v.toNat) (arcsOf n v.toNat).length (C v.toNat)) from cell_range (V := fun u => Value.slice (A u) (arcsTo n n.edges.length u).length (C u)) (u := v.toNat) (by omega)))
    refine WXL.move Met.none rfl ?_
    first | refine WXL.ix Met.none rfl rfl elem74 sz79 ?_ | refine WXL.ixS Met.none rfl rfl elem74 sz79 ?_
    first | refine WXL.ldN Met.none rfl agg79 sz79 ?_ (hv := (cellsAt_flat encA_len (arcsOf n v.toNat) k hlt)) | refine WXL.ldNS Met.none rfl agg79 sz79 ?_ (hv := (cellsAt_flat encA_len (arcsOf n v.toNat) k hlt))
    refine WXL.st (vs := [_, _, _]) (c' := [_, _, _]) Met.none rfl rfl rfl sz79 ?_
    refine WXL.assign Met.none rfl ?_
    refine WXL.nil ?_
    refine Fin.then_normal ?_
    refine WX.ret ?_
    first
    | (have hge : ¬ (arcsOf n v.toNat).findIdx (fun r => decide (0 < leftP g r)) < (arcsOf n v.toNat).length := fun q => by rw [if_pos q] at hix; omega
       rw [if_neg hge, hmap] at hfind
       have hno : leaveI n g v = none := by
         cases hx : leaveI n g v with
         | none => rfl
         | some i => rw [hx] at hfind; cases hfind
       exact Fin.results (O' := O) (.inr rfl) rfl (vs := [aggA ⟨0, 0, false⟩, .bool false]) ⟨⟨b4, 0, rfl, load_agg (n := 3) (vs := [_, _, _]) at_ agg79 sz79 rfl⟩, rfl, trivial⟩ drop_ ⟨by unfold leaveV; rw [hno]; rfl, rfl⟩)
    | (obtain ⟨i, hi, hia⟩ : ∃ i, leaveI n g v = some i ∧ arcAt n v.toNat i = nth (arcsOf n v.toNat) k := by
         cases hx : leaveI n g v with
         | none => rw [hx] at hfind; cases hfind
         | some i => rw [hx] at hfind; exact ⟨i, rfl, Option.some.inj hfind⟩
       exact Fin.results (O' := O) (.inr rfl) rfl (vs := [aggA (nth (arcsOf n v.toNat) k), .bool true]) ⟨⟨b4, 0, rfl, load_agg (n := 3) (vs := [_, _, _]) at_ agg79 sz79 rfl⟩, rfl, trivial⟩ drop_ ⟨by unfold leaveV; rw [hi, ← hia]; rfl, rfl⟩)

theorem clone_ok (O : Objs) (l : List Int) (a : Option Addr) (c : Nat) (hlen : Short l) (hnil : a = none → l = []) (hl : Src O 1 (.slice a l.length c) l.length (l.map I)) (hfit : l.length ≤ 1000000000000) :
    Spec Try.prog false 48 #[.slice a l.length c] O fun v O' => ∃ a' c' G, v = .slice a' l.length c' ∧ Grow 1 a' l.length c' (l.map I) G ∧ O' = G ++ O := by
  refine Spec.enter (args := [_]) (m := 8) Try.func48 rfl rfl (by decide +kernel) fun h0 => ?_
  refine WX.seq ?_
  refine WX.region rfl ?_
  refine WXL.assign Met.none rfl ?_
  refine WXL.nil ?_
  refine Fin.then_normal ?_
  refine WX.seq ?_
  refine WX.seq ?_
  refine WX.region rfl ?_
  refine WXL.move Met.none rfl ?_
  refine WXL.eqNil Met.none rfl rfl Try.underlying22 ?_
  refine WXL.nil ?_
  refine Fin.then_normal ?_
  refine WX.cond rfl (fun hc0 => ?_) (fun hc0 => ?_)
  · try simp only [cnd] at hc0
    refine WX.seq ?_
    refine WX.region rfl ?_
    refine WXL.assign Met.none rfl ?_
    refine WXL.nil ?_
    refine Fin.then_normal ?_
    refine WX.ret ?_
    refine Fin.then_ret ?_
    first
    | (have hla : l = [] := hnil (by simpa using hc0)
       subst hla
       exact Fin.result (O' := [] ++ O) (.inr rfl) rfl rfl drop_ ⟨none, 0, [], rfl, .nil, rfl⟩)
    | exact Fin.result (O' := [(b7, ⟨1, false, l.map I⟩)] ++ O) (.inr rfl) rfl rfl (fun _ => Sat.tl [0] 1) ⟨some ⟨b7, 0, none⟩, _, [_], rfl, .row (by simp), rfl⟩
  · try simp only [cnd] at hc0
    refine WX.skip ?_
    refine Fin.then_normal ?_
    refine WX.seq ?_
    refine WX.region rfl ?_
    refine WXL.buildSlice (c := []) Met.none rfl elem22 sz3 zero3 (by decide) (by decide) rfl rfl rfl rfl (fun b5 => ?_)
    refine WXL.move Met.none rfl ?_
    refine WXL.ap Met.none rfl rfl isrow22 elem22 sz3 by3 zero3 src_ (fun b7 => ?_) (hc := (show _ = l.map I from rfl))
    rw [Nat.zero_add l.length]
    refine WXL.assign Met.none rfl ?_
    refine WXL.nil ?_
    refine Fin.then_normal ?_
    refine WX.ret ?_
    first
    | (have hla : l = [] := hnil (by simpa using hc0)
       subst hla
       exact Fin.result (O' := [] ++ O) (.inr rfl) rfl rfl drop_ ⟨none, 0, [], rfl, .nil, rfl⟩)
    | exact Fin.result (O' := [(b7, ⟨1, false, l.map I⟩)] ++ O) (.inr rfl) rfl rfl (fun _ => Sat.tl [0] 1) ⟨some ⟨b7, 0, none⟩, _, [_], rfl, .row (by simp), rfl⟩

theorem clone_q (O : Objs) (l : List Int) (a : Option Addr) (c : Nat) (hlen : Short l) (hnil : a = none → l = []) (hl : Src O 1 (.slice a l.length c) l.length (l.map I)) (hfit : l.length ≤ 1000000000000) :
    Spec Try.prog true 48 #[.slice a l.length c] O fun v O' => ∃ a' c' G, v = .slice a' l.length c' ∧ Grow 1 a' l.length c' (l.map I) G ∧ O' = G ++ O :=
  (Spec.frame (Post := fun v N => ∃ a' c', v = .slice a' l.length c' ∧ Grow 1 a' l.length c' (l.map I) N)
    ((clone_ok (roO O) l a c hlen hnil hl.roh hfit).mono fun v O' ⟨a', c', G, h1, h2, h3⟩ => ⟨G, ⟨a', c', h1, h2⟩, h2.own, h3⟩)).mono fun v O' ⟨N, ⟨a', c', h1, h2⟩, h3⟩ => ⟨a', c', N, h1, h2, h3⟩

def idxZ (l : List Int) (v : Int) : Int := if l.findIdx (fun x => decide (v = x)) < l.length then (l.findIdx (fun x => decide (v = x)) : Int) else -1

theorem index_ok (O : Objs) (l : List Int) (v : Int) (a : Option Addr) (c : Nat) (hlen : l.length ≤ 1000000) (hl : Src O 1 (.slice a l.length c) l.length (l.map I)) :
    Spec Try.prog true 53 #[.slice a l.length c, I v] O fun u O' => u = I (idxZ l v) ∧ O' = O := by
  refine Spec.enter (args := [_, _]) (m := 19) Try.func53 rfl rfl (by decide +kernel) fun h0 => ?_
  refine WX.seq ?_
  refine WX.region rfl ?_
  refine WXL.assign Met.none rfl ?_
  refine WXL.nil ?_
  refine Fin.then_normal ?_
  refine WX.seq ?_
  refine WX.seq ?_
  refine WX.region rfl ?_
  refine WXL.move Met.none rfl ?_
  refine WXL.len Met.none rfl Try.underlying22 ?_
  refine WXL.move Met.none rfl ?_
  refine WXL.nil ?_
  refine Fin.then_normal ?_
  refine WX.block ?_
  refine WX.loop (fun k : Nat => [(0, .slice a l.length c), (1, I v), (7, I (l.length : Int)), (8, I (k : Int))]) (fun _ => O) (fun k => k ≤ l.length ∧ ∀ j, j < k → (fun x => decide (v = x)) (nth l j) = false) (fun k => l.length - k) 0 ⟨Nat.zero_le _, fun j hj => absurd hj (Nat.not_lt_zero _)⟩ (fun s hs => hs.tl [] 0) (fun k hk => ?_)
  refine WX.seq ?_
  refine WX.region rfl ?_
  refine WXL.bin Met.none rfl rfl rfl ?_
  refine WXL.nil ?_
  refine Fin.then_normal ?_
  refine WX.seq ?_
  refine WX.cond rfl (fun hc0 => ?_) (fun hc0 => ?_)
  · try simp only [cnd] at hc0
    refine WX.skip ?_
    refine Fin.then_normal ?_
    refine WX.seq ?_
    refine WX.block ?_
    refine WX.seq ?_
    refine WX.region rfl ?_
    refine WXL.move Met.none rfl ?_
    refine WXL.assign Met.none rfl ?_
    refine WXL.nil ?_
    refine Fin.then_normal ?_
    refine WX.seq ?_
    refine WX.region rfl ?_
    refine WXL.move Met.none rfl ?_
    refine WXL.move Met.none rfl ?_
    refine WXL.move Met.none rfl ?_
    first | refine WXL.ix Met.none rfl rfl elem22 sz3 ?_ | refine WXL.ixS Met.none rfl rfl elem22 sz3 ?_
    first | refine WXL.ld Met.none rfl agg3 ?_ | refine WXL.ldS Met.none rfl agg3 ?_
    refine WXL.bin Met.none rfl rfl rfl ?_
    refine WXL.nil ?_
    refine Fin.then_normal ?_
    refine WX.cond rfl (fun hc1 => ?_) (fun hc1 => ?_)
    · try simp only [cnd] at hc1
      refine WX.seq ?_
      refine WX.region rfl ?_
      refine WXL.move Met.none rfl ?_
      refine WXL.assign Met.none rfl ?_
      refine WXL.nil ?_
      refine Fin.then_normal ?_
      refine WX.ret ?_
      refine Fin.block_ret ?_
      refine Fin.then_ret ?_
      refine Fin.loop_ret ?_
      refine Fin.block_ret ?_
      refine Fin.then_ret ?_
      refine Fin.result (O' := O) (.inr rfl) rfl rfl drop_ ⟨?_, rfl⟩
      unfold idxZ
      first
      | exact congrArg I (by rw [findIdx_found (p := fun x => decide (v = x)) (by omega) hk.2 (decide_eq_true hc1), if_pos (by omega)])
      | exact congrArg I (by
          have e1 : l.findIdx (fun x => decide (v = x)) = l.length := by
            rw [List.findIdx_eq_length]
            intro x hx
            obtain ⟨j, hj, rfl⟩ := List.mem_iff_getElem.1 hx
            rw [← nth_get hj]
            exact hk.2 j (by omega)
          rw [e1, if_neg (by omega)])
    · try simp only [cnd] at hc1
      refine WX.skip ?_
      refine Fin.block_normal ?_
      refine Fin.then_normal ?_
      refine WX.region rfl ?_
      refine WXL.bin Met.none rfl rfl bvA ?_
      refine WXL.move Met.none rfl ?_
      refine WXL.nil ?_
      refine Fin.loop_next (k + 1) ⟨by omega, fun j hj => ?_⟩ (by omega) (fun s hs => hs.tl [] 0)
      rcases Nat.lt_or_ge j k with q | q
      · exact hk.2 j q
      · have e : j = k := by omega
        subst e
        exact decide_eq_false hc1
  · try simp only [cnd] at hc0
    refine WX.exit ?_
    refine Fin.then_exit ?_
    refine Fin.loop_exit ?_
    refine Fin.block_hit rfl ?_
    refine Fin.then_normal ?_
    refine WX.seq ?_
    refine WX.region rfl ?_
    refine WXL.assign Met.none rfl ?_
    refine WXL.nil ?_
    refine Fin.then_normal ?_
    refine WX.ret ?_
    refine Fin.result (O' := O) (.inr rfl) rfl rfl drop_ ⟨?_, rfl⟩
    unfold idxZ
    first
    | exact congrArg I (by rw [findIdx_found (p := fun x => decide (v = x)) (by omega) hk.2 (decide_eq_true hc1), if_pos (by omega)])
    | exact congrArg I (by
        have e1 : l.findIdx (fun x => decide (v = x)) = l.length := by
          rw [List.findIdx_eq_length]
          intro x hx
          obtain ⟨j, hj, rfl⟩ := List.mem_iff_getElem.1 hx
          rw [← nth_get hj]
          exact hk.2 j (by omega)
        rw [e1, if_neg (by omega)])

end Go.Proofs.Ytjmklialkjncaaa.Eng

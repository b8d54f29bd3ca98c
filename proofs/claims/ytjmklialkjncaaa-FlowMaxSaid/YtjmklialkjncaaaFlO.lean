/- The program's lists of arcs. Own work; no condition. -/
import Derived.Test.YtjmklialkjncaaaFlN
set_option linter.unusedVariables false
set_option linter.unusedSimpArgs false
namespace Go.Proofs.Ytjmklialkjncaaa.Eng

section
variable {P : Program} {x : Cx} {L L' : Tmps} {O O' : Objs} {ops : Array Oper} {mq : Mk} {i : Nat} {l : List Oper} {K : ASt → Prop}
  {t u : TypeId} {p : String} {af : Array Edge} {gd : Option (Nat × Bool)} {d : Tmp}

theorem flatten_at {Gs : List Objs} {k : Nat} (h : k < Gs.length) (R : Objs) : Gs.flatten ++ R = (Gs.take k).flatten ++ (nth Gs k ++ ((Gs.drop (k + 1)).flatten ++ R)) := by
  have e : Gs = Gs.take k ++ (Gs[k] :: Gs.drop (k + 1)) := by rw [← List.drop_eq_getElem_cons h, List.take_append_drop]
  conv => lhs; rw [e]
  rw [List.flatten_append, List.flatten_cons, nth_get h]
  simp only [List.append_assoc]

theorem flatten_set {Gs : List Objs} {k : Nat} (h : k < Gs.length) (G R : Objs) : (Gs.set k G).flatten ++ R = (Gs.take k).flatten ++ (G ++ ((Gs.drop (k + 1)).flatten ++ R)) := by
  rw [List.set_eq_take_append_cons_drop, if_pos h, List.flatten_append, List.flatten_cons]
  simp only [List.append_assoc]

/-- `append` to one of several rows that grow. -/
theorem WXL.appendGs {y z : Operand} {ty tz e : TypeId} {a : Option Addr} {n c sz by_ m : Nat} {cs new : List Value} {v zv : Value} {Gs : List Objs} (A : Objs) {R : Objs} (k : Nat) (hk : k < Gs.length) (hw : Met x L ops gd) (hq : x.q = false) (hy : evL L y = some (.slice a n c)) (hz : evL L z = some v) (hr : isRowT P tz = true) (hcl : mq.Z = [])
    (hO : O = A ++ (Gs.flatten ++ R)) (hg : Grow sz a n c cs (nth Gs k)) (hsrc : Src O sz v m new) (he : elemOf P ty = some e) (hs : szOf P e = some sz) (hby : byOf P e = some by_) (hzv : zeroOf P e = some zv) (h3 : zv.cells.size = sz)
    (hf : (n + m) * by_ ≤ 140737488355328) (h1 : 0 < sz) (h2 : 0 < by_) (hm : new.length = m * sz)
    (h : ∀ a' c' G', Grow sz a' (n + m) c' (cs ++ new) G' → WXL P x ops mq (i + 1) l ((d, .slice a' (n + m) c') :: L) (A ++ ((Gs.set k G').flatten ++ R)) K) :
    WXL P x ops mq i ({ dst := some d, op := .call { callee := .builtin .append, args := #[y, z], argTypes := #[ty, tz] }, type := t, pos := p, after := af, guard := gd } :: l) L O K := by
  refine WXL.appendG (A ++ (Gs.take k).flatten) (R := (Gs.drop (k + 1)).flatten ++ R) hw hq hy hz hr hcl ?_ hg hsrc he hs hby hzv h3 hf h1 h2 hm fun a' c' G' hG' => ?_
  · rw [hO, flatten_at hk, List.append_assoc]
  · have := h a' c' G' hG'
    rw [flatten_set hk, ← List.append_assoc] at this
    exact this
end

def arcAt (n : Net4) (u : Nat) (i : Nat) : Arc := if (nth n.edges i).a = u then ⟨i, (nth n.edges i).b, true⟩ else ⟨i, (nth n.edges i).a, false⟩
def touches (n : Net4) (u : Nat) (i : Nat) : Bool := decide ((nth n.edges i).a = u ∨ (nth n.edges i).b = u)
def arcsTo (n : Net4) (k u : Nat) : List Arc := ((List.range k).filter (touches n u)).map (arcAt n u)
def arcsOf (n : Net4) (u : Nat) : List Arc := arcsTo n n.edges.length u
def rowsV (n : Net4) (k : Nat) (A : Nat → Option Addr) (C : Nat → Nat) : List Value := (List.range n.nodes.toNat).map fun u => .slice (A u) (arcsTo n k u).length (C u)

theorem cell_range {V : Nat → Value} {m u : Nat} (h : u < m) : ((List.range m).map V)[u]? = some (V u) := by
  rw [List.getElem?_map, List.getElem?_range h]; rfl

theorem arcsTo_succ (n : Net4) (k u : Nat) : arcsTo n (k + 1) u = arcsTo n k u ++ (if touches n u k = true then [arcAt n u k] else []) := by
  unfold arcsTo
  rw [List.range_succ, List.filter_append, List.map_append]
  congr 1
  rw [List.filter_cons]
  split <;> rfl

theorem arcsTo_len (n : Net4) (k u : Nat) : (arcsTo n k u).length ≤ k := by
  unfold arcsTo
  rw [List.length_map]
  exact Nat.le_trans (List.length_filter_le _ _) (by simp)

/-- The rows of arcs lie in the memory. -/
structure ArcRows (n : Net4) (k : Nat) (A : Nat → Option Addr) (C : Nat → Nat) (Gs : List Objs) : Prop where
  len : Gs.length = n.nodes.toNat
  row : ∀ u, u < n.nodes.toNat → Grow 3 (A u) (arcsTo n k u).length (C u) (flat encA (arcsTo n k u)) (nth Gs u)

theorem zerosL_range (v : Value) (m : Nat) : zerosL [v] m = (List.range m).map fun _ => v := by
  rw [show zerosL [v] m = (List.replicate m v).map id from zerosL_map id v m, List.map_const', List.length_range, List.map_id]

theorem splice_one (l : List Value) (k : Nat) (v : Value) (h : k < l.length) : splice l k [v] = l.set k v := by
  have := splice_map id l k v h
  simpa using this

theorem rows_len (n : Net4) (k : Nat) (A : Nat → Option Addr) (C : Nat → Nat) : (rowsV n k A C).length = n.nodes.toNat := by unfold rowsV; simp

theorem rows_two {n : Net4} (hn : Sound n) {k : Nat} (hk : k < n.edges.length) (A : Nat → Option Addr) (C : Nat → Nat) (a1 a2 : Option Addr) (c1 c2 : Nat) :
    ((rowsV n k A C).set (nth n.edges k).a.toNat (.slice a1 ((arcsTo n k (nth n.edges k).a.toNat).length + 1) c1)).set (nth n.edges k).b.toNat (.slice a2 ((arcsTo n k (nth n.edges k).b.toNat).length + 1) c2) =
      rowsV n (k + 1) (fun x => if x = (nth n.edges k).b.toNat then a2 else if x = (nth n.edges k).a.toNat then a1 else A x) (fun x => if x = (nth n.edges k).b.toNat then c2 else if x = (nth n.edges k).a.toNat then c1 else C x) := by
  have h := hn.at hk
  unfold rowsV
  apply List.ext_getElem?
  intro j
  rcases Nat.lt_or_ge j n.nodes.toNat with hj | hj
  · rw [cell_range hj]
    rw [List.getElem?_set, List.getElem?_set]
    simp only [List.length_set, List.length_map, List.length_range, cell_range hj]
    have hlen : (arcsTo n (k + 1) j).length = (arcsTo n k j).length + (if touches n j k = true then 1 else 0) := by
      rw [arcsTo_succ, List.length_append]
      split <;> rfl
    by_cases hb : (nth n.edges k).b.toNat = j
    · have ht : touches n j k = true := by unfold touches; exact decide_eq_true (by omega)
      rw [if_pos hb, if_pos (by omega), hlen, if_pos ht, if_pos hb.symm, if_pos hb.symm, hb]
    · by_cases ha : (nth n.edges k).a.toNat = j
      · have ht : touches n j k = true := by unfold touches; exact decide_eq_true (by omega)
        rw [if_neg hb, if_pos ha, if_pos (by omega), hlen, if_pos ht, if_neg (fun e => hb e.symm), if_pos ha.symm, if_neg (fun e => hb e.symm), if_pos ha.symm, ha]
      · have ht : touches n j k = false := by unfold touches; exact decide_eq_false (by omega)
        have nb : ¬ j = (nth n.edges k).b.toNat := fun e => hb e.symm
        have na : ¬ j = (nth n.edges k).a.toNat := fun e => ha e.symm
        rw [if_neg hb, if_neg ha, hlen, ht]
        simp only [if_neg nb, if_neg na, Bool.false_eq_true, if_false, Nat.add_zero]
  · rw [List.getElem?_eq_none (by simpa using hj), List.getElem?_eq_none (by simpa using hj)]

theorem ArcRows.next {n : Net4} (hn : Sound n) {k : Nat} (hk : k < n.edges.length) {A : Nat → Option Addr} {C : Nat → Nat} {Gs : List Objs} (h : ArcRows n k A C Gs) {a1 a2 : Option Addr} {c1 c2 : Nat} {G1 G2 : Objs}
    (h1 : Grow 3 a1 ((arcsTo n k (nth n.edges k).a.toNat).length + 1) c1 (flat encA (arcsTo n k (nth n.edges k).a.toNat) ++ encA ⟨k, (nth n.edges k).b, true⟩) G1)
    (h2 : Grow 3 a2 ((arcsTo n k (nth n.edges k).b.toNat).length + 1) c2 (flat encA (arcsTo n k (nth n.edges k).b.toNat) ++ encA ⟨k, (nth n.edges k).a, false⟩) G2) :
    ArcRows n (k + 1) (fun x => if x = (nth n.edges k).b.toNat then a2 else if x = (nth n.edges k).a.toNat then a1 else A x) (fun x => if x = (nth n.edges k).b.toNat then c2 else if x = (nth n.edges k).a.toNat then c1 else C x)
      ((Gs.set (nth n.edges k).a.toNat G1).set (nth n.edges k).b.toNat G2) := by
  have hb := hn.at hk
  refine ⟨by rw [List.length_set, List.length_set]; exact h.len, fun u hu => ?_⟩
  have hlen := h.len
  rw [nth_set (by rw [List.length_set]; omega) (by rw [List.length_set]; omega), nth_set (by omega) (by omega), arcsTo_succ]
  have one : ∀ r : Arc, flat encA [r] = encA r := fun r => by simp [flat]
  by_cases e2 : u = (nth n.edges k).b.toNat
  · subst e2
    have ht : touches n (nth n.edges k).b.toNat k = true := by unfold touches; exact decide_eq_true (by omega)
    have ha : arcAt n (nth n.edges k).b.toNat k = ⟨k, (nth n.edges k).a, false⟩ := by unfold arcAt; rw [if_neg (by omega)]
    simp only [if_true, ht, ha, flat_append, one, List.length_append, List.length_singleton]
    exact h2
  · by_cases e1 : u = (nth n.edges k).a.toNat
    · subst e1
      have ht : touches n (nth n.edges k).a.toNat k = true := by unfold touches; exact decide_eq_true (by omega)
      have ha : arcAt n (nth n.edges k).a.toNat k = ⟨k, (nth n.edges k).b, true⟩ := by unfold arcAt; rw [if_pos (by omega)]
      have n2 : ¬ (nth n.edges k).b.toNat = (nth n.edges k).a.toNat := fun e => e2 e.symm
      simp only [if_neg e2, if_neg n2, if_true, ht, ha, flat_append, one, List.length_append, List.length_singleton]
      exact h1
    · have ht : touches n u k = false := by unfold touches; exact decide_eq_false (by omega)
      have n2 : ¬ (nth n.edges k).b.toNat = u := fun e => e2 e.symm
      have n1 : ¬ (nth n.edges k).a.toNat = u := fun e => e1 e.symm
      simp only [if_neg e2, if_neg n2, if_neg e1, if_neg n1, ht, Bool.false_eq_true, if_false, List.append_nil]
      exact h.row u hu

theorem arcs_ok (O : Objs) (n : Net4) (a : Option Addr) (c : Nat) (hn : Sound n) (hl : Edges O n a c) :
    Spec Try.prog false 36 #[netV n a c] O fun v O' => ∃ b c' A C Gs, v = Row b 0 n.nodes.toNat c' ∧ ArcRows n n.edges.length A C Gs ∧ O' = (b, ⟨1, false, rowsV n n.edges.length A C⟩) :: (Gs.flatten ++ O) := by
  have hnn := hn.nodes
  have hlen := hn.len
  refine Spec.enter (args := [_]) (m := 49) Try.func36 rfl rfl (by decide +kernel) fun h0 => ?_
  refine WX.seq ?_
  refine WX.region rfl ?_
  refine WXL.box (c := [_, _, _, _]) Met.none rfl rfl rfl (fun b1 => ?_)
  refine WXL.assign Met.none rfl ?_
  refine WXL.nil ?_
  refine Fin.then_normal ?_
  refine WX.seq ?_
  refine WX.region rfl ?_
  refine WXL.fieldAddr (off' := 0) Met.none rfl Try.underlying36 rfl sz3 rfl ?_
  first | refine WXL.ld Met.none rfl agg3 ?_ | refine WXL.ldS Met.none rfl agg3 ?_
  refine WXL.makeSlice Met.none rfl rfl elem72 sz74 by74 zero74 (by omega) (by omega) (by omega) rfl (by decide) (by first | rw [Int.toNat_natCast] | exact rfl) (zerosL_range _ _) (fun b8 => ?_)
  refine WXL.assign Met.none rfl ?_
  refine WXL.nil ?_
  refine Fin.then_normal ?_
  refine WX.seq ?_
  refine WX.seq ?_
  refine WX.region rfl ?_
  refine WXL.fieldAddr (off' := 3) Met.none rfl Try.underlying36 rfl sz34 rfl ?_
  first | refine WXL.ld Met.none rfl agg34 ?_ | refine WXL.ldS Met.none rfl agg34 ?_
  refine WXL.len Met.none rfl Try.underlying34 ?_
  refine WXL.move Met.none rfl ?_
  refine WXL.nil ?_
  refine Fin.then_normal ?_
  refine WX.block ?_
  refine WX.loop (fun q : Nat × (Nat → Option Addr) × (Nat → Nat) × List Objs => [(1, Ptr b1 0), (3, Row b8 0 n.nodes.toNat n.nodes.toNat), (10, .slice a n.edges.length c), (11, I (n.edges.length : Int)), (12, I (q.1 : Int))]) (fun q => (b8, ⟨1, false, rowsV n q.1 q.2.1 q.2.2.1⟩) :: (b1, ⟨0, false, [I n.nodes, I n.source, I n.sink, .slice a n.edges.length c]⟩) :: (q.2.2.2.flatten ++ O)) (fun q => q.1 ≤ n.edges.length ∧ ArcRows n q.1 q.2.1 q.2.2.1 q.2.2.2) (fun q => n.edges.length - q.1) (0, fun _ => none, fun _ => 0, List.replicate n.nodes.toNat []) ⟨Nat.zero_le _, by simp, fun u hu => ?_⟩ ?_ (fun q hq => ?_)
  · simp only
    rw [nth_get (by simpa using hu), List.getElem_replicate]
    exact .nil
  · intro s hs
    have := hs.told (L' := [(1, Ptr b1 0), (3, Row b8 0 n.nodes.toNat n.nodes.toNat), (10, .slice a n.edges.length c), (11, I (n.edges.length : Int)), (12, I ((0 : Nat) : Int))]) ⟨rfl, rfl, rfl, rfl, rfl, trivial⟩ [0, 1] 2 (by decide) (by decide) rfl
    simp only [List.flatten_replicate_nil]
    exact this
  obtain ⟨k, A, C, Gs⟩ := q
  obtain ⟨hk1, hR⟩ := hq
  simp only at hk1 hR
  dsimp only
  have hGl := hR.len
  refine WX.seq ?_
  refine WX.region rfl ?_
  refine WXL.bin Met.none rfl rfl rfl ?_
  refine WXL.nil ?_
  refine Fin.then_normal ?_
  refine WX.seq ?_
  refine WX.cond rfl (fun hc0 => ?_) (fun hc0 => ?_)
  · try simp only [cnd] at hc0
    refine WX.skip ?_
    refine Fin.then_normal ?_
    refine WX.seq ?_
    refine WX.block ?_
    refine WX.seq ?_
    refine WX.region rfl ?_
    refine WXL.move Met.none rfl ?_
    first | refine WXL.ix Met.none rfl rfl elem34 sz44 ?_ | refine WXL.ixS Met.none rfl rfl elem34 sz44 ?_
    first | refine WXL.ldN Met.none rfl agg44 sz44 ?_ | refine WXL.ldNS Met.none rfl agg44 sz44 ?_
    refine WXL.alloc (c := [_, _, _, _]) Met.none zero44 rfl (fun b5 => ?_)
    refine WXL.assign Met.none rfl ?_
    refine WXL.st (vs := [_, _, _, _]) (c' := [_, _, _, _]) Met.none rfl rfl rfl sz44 ?_
    refine WXL.nil ?_
    refine Fin.then_normal ?_
    refine WX.seq ?_
    have hk : k < n.edges.length := by omega
    have he := hn.at hk
    have hla := arcsTo_len n k (nth n.edges k).a.toNat
    have hlb := arcsTo_len n k (nth n.edges k).b.toNat
    refine WX.draw rfl ?_
    refine WXL.move Met.none rfl ?_
    refine WXL.fieldAddr (off' := 0) Met.none rfl Try.underlying44 rfl sz3 rfl ?_
    first | refine WXL.ld Met.none rfl agg3 ?_ | refine WXL.ldS Met.none rfl agg3 ?_
    refine WXL.move Met.none rfl ?_
    refine WXL.fieldAddr (off' := 0) Met.none rfl Try.underlying44 rfl sz3 rfl ?_
    first | refine WXL.ld Met.none rfl agg3 ?_ | refine WXL.ldS Met.none rfl agg3 ?_
    first | refine WXL.ix Met.none rfl rfl elem72 sz74 ?_ | refine WXL.ixS Met.none rfl rfl elem72 sz74 ?_
    refine WXL.load1 lz_ Met.none rfl (Knows.at 1 rfl) agg74 (show _ = some (Value.slice (A (nth n.edges k).a.toNat) (arcsTo n k (nth n.edges k).a.toNat).length (C (nth n.edges k).a.toNat)) from cell_range (by omega)) ?_
    refine WXL.move Met.none rfl ?_
    refine WXL.fieldAddr (off' := 1) Met.none rfl Try.underlying44 rfl sz3 rfl ?_
    first | refine WXL.ld Met.none rfl agg3 ?_ | refine WXL.ldS Met.none rfl agg3 ?_
    refine WXL.build (c := [_, _, _]) Met.none rfl zero79 places79 rfl ?_
    refine WXL.buildSlice (c := [_, _, _]) Met.none rfl elem74 sz79 zero79 (by decide) (by decide) rfl rfl rfl rfl (fun b29 => ?_)
    refine WXL.appendGs [_, _, _, _] (nth n.edges k).a.toNat (by omega) Met.none rfl rfl rfl isrow74 rfl rfl (hR.row _ (by omega)) (Src.of (cs := [_, _, _]) (Knows.at 0 rfl) (Nat.le_of_ble_eq_true rfl) rfl) elem74 sz79 by79 zero79 rfl (by omega) (by decide) (by decide) rfl (fun a30 c30 G30 hG30 => ?_)
    first | refine WXL.ix Met.none rfl rfl elem72 sz74 ?_ | refine WXL.ixS Met.none rfl rfl elem72 sz74 ?_
    refine WXL.st (vs := [_]) (j := 2) Met.none rfl rfl rfl sz74 ?_ (hj := rfl) (hl := (by rw [rows_len, List.length_singleton]; omega)) (hc := (splice_one _ _ _ (by rw [rows_len]; omega)))
    refine WXL.nil ?_
    refine Fin.then_normal ?_
    refine WX.draw rfl ?_
    refine WXL.move Met.none rfl ?_
    refine WXL.fieldAddr (off' := 1) Met.none rfl Try.underlying44 rfl sz3 rfl ?_
    first | refine WXL.ld Met.none rfl agg3 ?_ | refine WXL.ldS Met.none rfl agg3 ?_
    refine WXL.move Met.none rfl ?_
    refine WXL.fieldAddr (off' := 1) Met.none rfl Try.underlying44 rfl sz3 rfl ?_
    first | refine WXL.ld Met.none rfl agg3 ?_ | refine WXL.ldS Met.none rfl agg3 ?_
    first | refine WXL.ix Met.none rfl rfl elem72 sz74 ?_ | refine WXL.ixS Met.none rfl rfl elem72 sz74 ?_
    refine WXL.load1 lz_ Met.none rfl (Knows.at 2 rfl) agg74 (show _ = some (Value.slice (A (nth n.edges k).b.toNat) (arcsTo n k (nth n.edges k).b.toNat).length (C (nth n.edges k).b.toNat)) from ((List.getElem?_set_ne (by omega)).trans (cell_range (by omega)))) ?_
    refine WXL.move Met.none rfl ?_
    refine WXL.fieldAddr (off' := 0) Met.none rfl Try.underlying44 rfl sz3 rfl ?_
    first | refine WXL.ld Met.none rfl agg3 ?_ | refine WXL.ldS Met.none rfl agg3 ?_
    refine WXL.build (c := [_, _, _]) Met.none rfl zero79 places79 rfl ?_
    refine WXL.buildSlice (c := [_, _, _]) Met.none rfl elem74 sz79 zero79 (by decide) (by decide) rfl rfl rfl rfl (fun b44 => ?_)
    have hG2 : Grow 3 (A (nth n.edges k).b.toNat) (arcsTo n k (nth n.edges k).b.toNat).length (C (nth n.edges k).b.toNat) (flat encA (arcsTo n k (nth n.edges k).b.toNat)) (nth (Gs.set (nth n.edges k).a.toNat G30) (nth n.edges k).b.toNat) := by
      rw [nth_set (by omega) (by omega), if_neg (by omega)]
      exact hR.row _ (by omega)
    refine WXL.appendGs [_, _, _, _, _] (nth n.edges k).b.toNat (by rw [List.length_set]; omega) Met.none rfl rfl rfl isrow74 rfl rfl hG2 (Src.of (cs := [_, _, _]) (Knows.at 0 rfl) (Nat.le_of_ble_eq_true rfl) rfl) elem74 sz79 by79 zero79 rfl (by omega) (by decide) (by decide) rfl (fun a45 c45 G45 hG45 => ?_)
    first | refine WXL.ix Met.none rfl rfl elem72 sz74 ?_ | refine WXL.ixS Met.none rfl rfl elem72 sz74 ?_
    refine WXL.st (vs := [_]) (j := 3) Met.none rfl rfl rfl sz74 ?_ (hj := rfl) (hl := (by rw [List.length_set, rows_len, List.length_singleton]; omega)) (hc := (splice_one _ _ _ (by rw [List.length_set, rows_len]; omega)))
    refine WXL.nil ?_
    refine Fin.block_normal ?_
    refine Fin.then_normal ?_
    refine WX.region rfl ?_
    refine WXL.bin Met.none rfl rfl bvA ?_
    refine WXL.move Met.none rfl ?_
    refine WXL.nil ?_
    exact Fin.loop_next (k + 1, _, _, _) ⟨by simp only; omega, hR.next hn hk hG30 hG45⟩ (by simp only; omega) (fun s hs => by
      have := hs.told (L' := [(1, Ptr b1 0), (3, Row b8 0 n.nodes.toNat n.nodes.toNat), (10, .slice a n.edges.length c), (11, I (n.edges.length : Int)), (12, I ((k + 1 : Nat) : Int))]) ⟨eq_, eq_, eq_, eq_, eq_, trivial⟩ [3, 4] 5 (by decide) (by decide) rfl
      rw [rows_two hn hk] at this
      exact this)
  · try simp only [cnd] at hc0
    refine WX.exit ?_
    refine Fin.then_exit ?_
    refine Fin.loop_exit ?_
    refine Fin.block_hit rfl ?_
    refine Fin.then_normal ?_
    refine WX.seq ?_
    refine WX.region rfl ?_
    refine WXL.move Met.none rfl ?_
    refine WXL.assign Met.none rfl ?_
    refine WXL.nil ?_
    refine Fin.then_normal ?_
    refine WX.ret ?_
    have hk : k = n.edges.length := by omega
    subst hk
    exact Fin.result (O' := (b8, ⟨1, false, rowsV n n.edges.length A C⟩) :: (Gs.flatten ++ O)) (.inr rfl) rfl rfl (fun _ => Sat.told [0] 2 (by decide) (by decide) rfl) ⟨b8, _, A, C, Gs, rfl, hR, rfl⟩

theorem ArcRows.own {n : Net4} {k : Nat} {A : Nat → Option Addr} {C : Nat → Nat} {Gs : List Objs} (h : ArcRows n k A C Gs) : ∀ p ∈ Gs.flatten, p.2.ro = false := by
  intro p hp
  obtain ⟨G, hG, hp⟩ := List.mem_flatten.1 hp
  obtain ⟨u, hu, rfl⟩ := List.mem_iff_getElem.1 hG
  have := (h.row u (by rw [← h.len]; exact hu)).own
  rw [nth_get hu] at this
  exact this p hp

theorem arcs_q (O : Objs) (n : Net4) (a : Option Addr) (c : Nat) (hn : Sound n) (hl : Edges O n a c) :
    Spec Try.prog true 36 #[netV n a c] O fun v O' => ∃ b c' A C Gs, v = Row b 0 n.nodes.toNat c' ∧ ArcRows n n.edges.length A C Gs ∧ O' = (b, ⟨1, false, rowsV n n.edges.length A C⟩) :: (Gs.flatten ++ O) := by
  have h := Spec.frame (Post := fun v N => ∃ b c' A C Gs, v = Row b 0 n.nodes.toNat c' ∧ ArcRows n n.edges.length A C Gs ∧ N = (b, ⟨1, false, rowsV n n.edges.length A C⟩) :: Gs.flatten) ((arcs_ok (roO O) n a c hn hl.roh).mono fun v O' ⟨b, c', A, C, Gs, e, hR, eo⟩ =>
    ⟨(b, ⟨1, false, rowsV n n.edges.length A C⟩) :: Gs.flatten, ⟨b, c', A, C, Gs, e, hR, rfl⟩, fun p hp => (by
      rcases List.mem_cons.1 hp with rfl | hp
      · rfl
      · exact hR.own p hp), eo⟩)
  exact h.mono fun v O' ⟨N, ⟨b, c', A, C, Gs, e, hR, eN⟩, eo⟩ => ⟨b, c', A, C, Gs, e, hR, by rw [eo, eN]; rfl⟩

end Go.Proofs.Ytjmklialkjncaaa.Eng

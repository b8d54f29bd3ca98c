/- Writing cells, and new objects: how the abstract heap follows. Own work; no condition. -/
import Derived.Test.YtjmklialkjncaaaEngC
set_option linter.unusedVariables false
set_option linter.unusedSimpArgs false
namespace Go.Proofs.Ytjmklialkjncaaa.Eng

variable {P : Program} {base : Nat} {ι : Lay} {h : AHeap} {w : World}

theorem isCell_one {v : Value} (hv : isCell v = true) : v.oneCell' = true := by cases v <;> simp_all [isCell, Value.oneCell']

theorem setCell_cell (w : World) (B o : Nat) (v : Value) (B' o' : Nat) (u : Value) (hu : w.cell? ⟨B', o', none⟩ = some u) :
    (w.setCell ⟨B, o, none⟩ v).cell? ⟨B', o', none⟩ = some (if B' = B ∧ o' = o then v else u) := by
  unfold World.cell? at hu ⊢
  simp only [World.setCell, Array.getElem?_modify]
  by_cases hB : B = B'
  · subst hB
    simp only [if_true]
    cases hg : w.heap[B]? with
    | none => rw [hg] at hu; cases hu
    | some x =>
      rw [hg] at hu
      cases x with
      | cells c el fr =>
        simp only [Option.isSome_none, Bool.false_eq_true, if_false] at hu
        simp only [Option.map_some, Option.isSome_none, Bool.false_eq_true, if_false, Array.getElem?_setIfInBounds, true_and]
        obtain ⟨hlt, _⟩ := Array.getElem?_eq_some_iff.1 hu
        by_cases ho : o = o'
        · subst ho; simp [hlt]
        · rw [if_neg ho, if_neg (fun e => ho e.symm), hu]
      | _ => cases hu
  · rw [if_neg hB, if_neg (fun e => hB e.1.symm)]; exact hu

theorem setCell_frozen (w : World) (a : Addr) (v : Value) (b : Addr) : (w.setCell a v).frozen? b = w.frozen? b := by
  unfold World.frozen?
  simp only [World.setCell, Array.getElem?_modify]
  by_cases hB : a.block = b.block
  · rw [if_pos hB]
    cases hg : w.heap[b.block]? with
    | none => rfl
    | some x => cases x <;> rfl
  · rw [if_neg hB]

theorem setCell_block (w : World) (a : Addr) (v : Value) (B : Nat) (hB : B ≠ a.block) : (w.setCell a v).heap[B]? = w.heap[B]? := by
  simp only [World.setCell, Array.getElem?_modify]
  rw [if_neg (fun e => hB e.symm)]

/-- `w'` is `w` with the cells `vs` written from offset `o` of block `B` on. -/
structure Wrote (w w' : World) (B o : Nat) (vs : List Value) : Prop where
  os : w'.os = w.os
  tape : w'.tape = w.tape
  output : w'.output = w.output
  size : w'.heap.size = w.heap.size
  block : ∀ B', B' ≠ B → w'.heap[B']? = w.heap[B']?
  cell : ∀ B' o' u, w.cell? ⟨B', o', none⟩ = some u → w'.cell? ⟨B', o', none⟩ = some (if B' = B ∧ o ≤ o' ∧ o' < o + vs.length then vs.getD (o' - o) u else u)
  frozen : ∀ a, w'.frozen? a = w.frozen? a
  same : vs = [] → w' = w

theorem run_storeCells (B o : Nat) : ∀ (vs : List Value) (i : Nat) (w : World), (∀ x ∈ vs, isCell x = true) →
    (∀ j, j < vs.length → (∃ u, w.cell? ⟨B, o + (i + j), none⟩ = some u) ∧ w.frozen? ⟨B, o + (i + j), none⟩ = false) →
    ∃ w', (storeCells ⟨B, o, none⟩ vs i).run P w = .ok () w' ∧ Wrote w w' B (o + i) vs := by
  intro vs
  induction vs with
  | nil => intro i w _ _; exact ⟨w, rfl, ⟨rfl, rfl, rfl, rfl, fun _ _ => rfl, fun B' o' u hu => by simp [hu], fun _ => rfl, fun _ => rfl⟩⟩
  | cons v vs ih =>
    intro i w hcell hroom
    obtain ⟨⟨u0, hu0⟩, hf0⟩ := hroom 0 (by simp)
    rw [Nat.add_zero] at hu0 hf0
    obtain ⟨w', hrun, hw⟩ := ih (i + 1) (w.setCell ⟨B, o + i, none⟩ v) (fun x hx => hcell x (List.mem_cons_of_mem _ hx)) (fun j hj => by
      obtain ⟨⟨u, hu⟩, hf⟩ := hroom (j + 1) (by simpa using hj)
      rw [show i + (j + 1) = i + 1 + j by omega] at hu hf
      exact ⟨⟨_, setCell_cell w B (o + i) v _ _ u hu⟩, by rw [setCell_frozen]; exact hf⟩)
    refine ⟨w', ?_, ?_⟩
    · simp only [storeCells, Sem.run_bind, addr_add, run_store P w _ v .plain (isCell_one (hcell v (by simp))), hu0, hf0, Bool.false_eq_true, if_false, Result.andThen_ok]
      exact hrun
    · refine ⟨hw.os, hw.tape, hw.output, by rw [hw.size]; simp [World.setCell], fun B' hB' => ?_, fun B' o' u hu => ?_, fun a => by rw [hw.frozen, setCell_frozen], fun e => by cases e⟩
      · rw [hw.block B' hB', setCell_block _ _ _ _ hB']
      · have h1 := hw.cell B' o' _ (setCell_cell w B (o + i) v B' o' u hu)
        rw [h1]
        congr 1
        simp only [List.length_cons]
        by_cases hB : B' = B
        · subst hB
          by_cases e0 : o' = o + i
          · subst e0
            rw [if_neg (by omega), if_pos ⟨rfl, rfl⟩, if_pos ⟨rfl, by omega, by omega⟩, Nat.sub_self]
            rfl
          · rw [show (if B' = B' ∧ o' = o + i then v else u) = u from if_neg (fun q => e0 q.2)]
            by_cases hin : o + (i + 1) ≤ o' ∧ o' < o + (i + 1) + vs.length
            · rw [if_pos ⟨rfl, hin⟩, if_pos ⟨rfl, by omega, by omega⟩, show o' - (o + i) = (o' - (o + (i + 1))) + 1 by omega]
              simp
            · rw [if_neg (fun q => hin q.2), if_neg (by omega)]
        · simp [hB]

/-- What `rd` says of an object behind another one's turn. -/
theorem rd_eq {h h' : AHeap} {b : Nat} (h0 : h'.o b = h.o b) (h1 : ∀ sz ro f m k c, h.o b = .cells sz ro f (some m) k c → h'.o m = h.o m) : h'.rd b = h.rd b := by
  unfold AHeap.rd
  rw [h0]
  cases hb : h.o b with
  | dead => rfl
  | cells sz ro f st k c =>
    cases st with
    | none => rfl
    | some m => simp only; rw [h1 sz ro f m k c hb]

/-- What can be read, and is not the current one of its row: its cells are those of the current one. -/
theorem rd_cases {h : AHeap} {b : Nat} {c : List Value} (hc : h.rd b = some c) : (∃ sz ro f k, h.o b = .cells sz ro f none k c) ∨ ∃ sz ro f m k sz' ro' f' c', h.o b = .cells sz ro f (some m) k c ∧ h.o m = .cells sz' ro' f' none 0 c' := by
  unfold AHeap.rd at hc
  split at hc
  · rename_i sz ro f k c0 ho; injection hc with hc; subst hc; exact .inl ⟨sz, ro, f, k, ho⟩
  · rename_i sz ro f m k c0 ho
    split at hc
    · rename_i sz' ro' f' c' hm; injection hc with hc; subst hc; exact .inr ⟨sz, ro, f, m, k, sz', ro', f', c', ho, hm⟩
    · cases hc
  · cases hc

theorem length_splice {c cs : List Value} {off : Nat} (hle : off + cs.length ≤ c.length) : (splice c off cs).length = c.length := by
  simp [splice]; omega

theorem getElem?_splice {c cs : List Value} {off : Nat} (hle : off + cs.length ≤ c.length) (i : Nat) :
    (splice c off cs)[i]? = if off ≤ i ∧ i < off + cs.length then cs[i - off]? else c[i]? := by
  unfold splice
  rcases Nat.lt_or_ge i off with h1 | h1
  · rw [if_neg (by omega), List.append_assoc, List.getElem?_append_left (by simp; omega), List.getElem?_take, if_pos h1]
  · rcases Nat.lt_or_ge i (off + cs.length) with h2 | h2
    · rw [if_pos ⟨h1, h2⟩, List.getElem?_append_left (by simp; omega), List.getElem?_append_right (by simp; omega)]
      congr 1; simp; omega
    · rw [if_neg (by omega), List.getElem?_append_right (by simp; omega), List.getElem?_drop]
      congr 1; simp; omega

/-- A current object is written. -/
theorem write_ok (hr : HRel base ι h w) {b : Nat} {e : Ext} {sz f k : Nat} {c cs cs' : List Value} {off : Nat} {w' : World} (hb : ι b = some e) (ho : h.o b = .cells sz false f none k c)
    (hle : off + cs.length ≤ c.length) (hlen : cs'.length = cs.length) (hcell : ∀ x ∈ cs, isCell x = true) (hv : ∀ (i : Nat) v v', cs[i]? = some v → cs'[i]? = some v' → VRel ι v v')
    (hw : Wrote w w' e.block (e.off + off) cs') :
    HRel base ι (h.set b (.cells sz false f none (k + 1) (splice c off cs))) w' ∧ Keeps ι h (h.set b (.cells sz false f none (k + 1) (splice c off cs))) w w' ∧
      More base ι ι h (h.set b (.cells sz false f none (k + 1) (splice c off cs))) w := by
  obtain ⟨hsz, hcap, hbase, hcs⟩ := hr.szs b e _ _ _ _ _ _ hb ho
  generalize hh' : h.set b (.cells sz false f none (k + 1) (splice c off cs)) = h'
  have hset : ∀ b', h'.o b' = if b' = b then .cells sz false f none (k + 1) (splice c off cs) else h.o b' := fun b' => by rw [← hh']; rfl
  have hn' : h'.n = h.n := by rw [← hh']; rfl
  have hlensp := length_splice (c := c) (cs := cs) hle
  -- the same but for what is written
  have hsame : ∀ y sz1 ro1 f1 st1 k1 c1, h'.o y = .cells sz1 ro1 f1 st1 k1 c1 → ∃ k0 c0, h.o y = .cells sz1 ro1 f1 st1 k0 c0 ∧ c1.length = c0.length := by
    intro y sz1 ro1 f1 st1 k1 c1 hy
    rw [hset] at hy
    split at hy
    · rename_i e1; subst e1
      injection hy with e1 e2 e3 e4 e5 e6
      subst e1 e2 e3 e4 e5 e6
      exact ⟨k, c, ho, hlensp⟩
    · exact ⟨k1, c1, hy, rfl⟩
  -- what can be read of another object could be read, and lies apart
  have hrd : ∀ y ey cy, y ≠ b → ι y = some ey → h'.rd y = some cy → h.rd y = some cy ∧ (ey.block = e.block → ey.off + ey.cap ≤ e.off ∨ e.off + e.cap ≤ ey.off) := by
    intro y ey cy hne hy hcy
    have key : ∀ sz1 ro1 f1 st1 k1 c1, h.o y = .cells sz1 ro1 f1 st1 k1 c1 → f1 ≠ f → (ey.block = e.block → ey.off + ey.cap ≤ e.off ∨ e.off + e.cap ≤ ey.off) :=
      fun sz1 ro1 f1 st1 k1 c1 q1 q2 => hr.apart y ey b e _ _ _ _ _ _ _ _ _ _ _ hy hb q1 ho q2
    rcases rd_cases hcy with ⟨sz1, ro1, f1, k1, q1⟩ | ⟨sz1, ro1, f1, m, k1, sz2, ro2, f2, c2, q1, q2⟩
    · rw [hset, if_neg hne] at q1
      refine ⟨by unfold AHeap.rd; rw [q1], key _ _ _ _ _ _ q1 fun e1 => ?_⟩
      subst e1
      have := hr.uniq y b _ _ _ _ _ _ _ _ _ _ q1 ho
      have := hr.uniq b y _ _ _ _ _ _ _ _ _ _ ho q1
      omega
    · rw [hset, if_neg hne] at q1
      have hmb : m ≠ b := by
        intro e1
        rw [hset, if_pos e1] at q2
        injection q2 with _ _ _ _ q2
        omega
      rw [hset, if_neg hmb] at q2
      refine ⟨by unfold AHeap.rd; rw [q1]; simp only; rw [q2]; rfl, key _ _ _ _ _ _ q1 fun e1 => ?_⟩
      subst e1
      obtain ⟨_, sz3, ro3, st3, k3, c3, q3⟩ := hr.wf y _ _ _ _ _ _ q1
      rw [q2] at q3
      injection q3 with _ _ q3
      subst q3
      have := hr.uniq m b _ _ _ _ _ _ _ _ _ _ q2 ho
      have := hr.uniq b m _ _ _ _ _ _ _ _ _ _ ho q2
      omega
  have hrdb : h'.rd b = some (splice c off cs) := by unfold AHeap.rd; rw [hset, if_pos rfl]
  have hrd0 : h.rd b = some c := by unfold AHeap.rd; rw [ho]
  refine ⟨⟨fun b e hb => by rw [hn']; exact hr.lt b e hb, fun b e hb => by rw [hw.size]; exact hr.blk b e hb, ?_, ?_, ?_, ?_, ?_, ?_, ?_, ?_, ?_⟩, ⟨hw.os, hw.tape, hw.output, Nat.le_of_eq hw.size.symm, ?_, ?_, ?_⟩,
    ⟨fun _ _ => rfl, fun y ey hy he => absurd (hr.lt y ey he) (by omega), fun y sz1 ro1 f1 st1 k1 c1 hy hoy => ?_, fun y h1 h2 => absurd h1 (by omega), ?_, by omega⟩⟩
  · intro y ey sz1 ro1 f1 st1 k1 c1 hy hoy
    rw [hset] at hoy
    by_cases hyb : y = b
    · subst hyb
      rw [if_pos rfl] at hoy
      injection hoy with e1 e2 e3 e4 e5 e6
      subst e1 e2 e3 e4 e5 e6
      obtain rfl := Option.some.inj (hb.symm.trans hy)
      refine ⟨hsz, by rw [hlensp]; exact hcap, hbase, fun x hx => ?_⟩
      unfold splice at hx
      simp only [List.mem_append] at hx
      rcases hx with (hx | hx) | hx
      · exact hcs x (List.mem_of_mem_take hx)
      · exact hcell x hx
      · exact hcs x (List.mem_of_mem_drop hx)
    · rw [if_neg hyb] at hoy; exact hr.szs y ey _ _ _ _ _ _ hy hoy
  · intro y ey cy i v hy hry hi
    by_cases hyb : y = b
    · subst hyb
      obtain rfl := Option.some.inj (hb.symm.trans hy)
      rw [hrdb] at hry
      injection hry with hry; subst hry
      rw [getElem?_splice hle] at hi
      split at hi
      · rename_i hin
        have hlt : i - off < cs'.length := by omega
        have hic : i < c.length := by omega
        obtain ⟨v0, hv0, _⟩ := hr.val y e c i c[i] hb hrd0 (List.getElem?_eq_getElem hic)
        have h2 := hw.cell _ _ _ hv0
        rw [if_pos ⟨rfl, by omega, by omega⟩, show e.off + i - (e.off + off) = i - off by omega] at h2
        refine ⟨_, h2, ?_⟩
        have h3 : cs'.getD (i - off) v0 = cs'[i - off] := by simp [List.getD_eq_getElem?_getD, List.getElem?_eq_getElem hlt]
        rw [h3]
        exact hv (i - off) v _ hi (List.getElem?_eq_getElem hlt)
      · rename_i hin
        obtain ⟨v0, hv0, hv1⟩ := hr.val y e c i v hb hrd0 hi
        have h2 := hw.cell _ _ _ hv0
        rw [if_neg (by omega)] at h2
        exact ⟨v0, h2, hv1⟩
    · obtain ⟨h1, h3⟩ := hrd y ey cy hyb hy hry
      obtain ⟨v0, hv0, hv1⟩ := hr.val y ey cy i v hy h1 hi
      have h2 := hw.cell _ _ _ hv0
      have h4 := (hr.isc hy h1).2
      have h5 := (List.getElem?_eq_some_iff.1 hi).1
      rw [if_neg (fun ⟨q1, q2, q3⟩ => by rcases h3 q1 with h3 | h3 <;> omega)] at h2
      exact ⟨v0, h2, hv1⟩
  · intro y ey sz1 f1 st1 k1 c1 i hy hoy hi
    obtain ⟨k0, c0, q1, _⟩ := hsame y _ _ _ _ _ _ hoy
    obtain ⟨⟨v, hv⟩, hf⟩ := hr.room y ey _ _ _ _ _ i hy q1 hi
    exact ⟨⟨_, hw.cell _ _ _ hv⟩, by rw [hw.frozen]; exact hf⟩
  · intro b1 e1 b2 e2 sz1 ro1 f1 st1 k1 c1 sz2 f2 st2 k2 c2 h1 h2 o1 o2
    obtain ⟨_, _, q1, _⟩ := hsame _ _ _ _ _ _ _ o1
    obtain ⟨_, _, q2, _⟩ := hsame _ _ _ _ _ _ _ o2
    exact hr.apart b1 e1 b2 e2 _ _ _ _ _ _ _ _ _ _ _ h1 h2 q1 q2
  · intro b1 e1 b2 e2 f1 sz1 ro1 st1 k1 c1 sz2 ro2 st2 k2 c2 h1 h2 o1 o2 hlt hB
    obtain ⟨_, _, q1, l1⟩ := hsame _ _ _ _ _ _ _ o1
    obtain ⟨_, _, q2, l2⟩ := hsame _ _ _ _ _ _ _ o2
    rw [l1, l2]
    exact hr.link b1 e1 b2 e2 _ _ _ _ _ _ _ _ _ _ _ h1 h2 q1 q2 hlt hB
  · intro y sz1 ro1 f1 m k1 c1 hoy
    rw [hn']
    obtain ⟨_, _, q1, _⟩ := hsame _ _ _ _ _ _ _ hoy
    obtain ⟨q2, sz3, ro3, st3, k3, c3, q3⟩ := hr.wf y _ _ _ _ _ _ q1
    refine ⟨q2, ?_⟩
    rw [hset]
    split
    · rename_i e1; subst e1
      rw [ho] at q3
      injection q3 with _ _ q3
      subst q3
      exact ⟨_, _, _, _, _, rfl⟩
    · exact ⟨_, _, _, _, _, q3⟩
  · intro y sz1 ro1 f1 st1 k1 c1 hoy
    obtain ⟨_, _, q1, _⟩ := hsame _ _ _ _ _ _ _ hoy
    exact hr.fam y _ _ _ _ _ _ q1
  · intro y z f1 sz1 ro1 st1 k1 c1 sz2 ro2 k2 c2 o1 o2
    obtain ⟨_, _, q1, _⟩ := hsame _ _ _ _ _ _ _ o1
    obtain ⟨_, _, q2, _⟩ := hsame _ _ _ _ _ _ _ o2
    exact hr.uniq y z _ _ _ _ _ _ _ _ _ _ q1 q2
  · intro y hy
    rw [hset, if_neg (by rw [hn'] at hy; have := hr.lt b e hb; omega)]
    exact hr.out y (by omega)
  · intro B hB hall
    by_cases hBe : B = e.block
    · subst hBe
      have h1 := hall b e hb rfl
      rw [hset, if_pos rfl, ho] at h1
      injection h1 with _ _ _ _ h1
      omega
    · exact hw.block B hBe
  · intro B o' v hcv hall
    have h2 := hw.cell _ _ _ hcv
    split at h2
    · rename_i hin
      obtain ⟨rfl, q2, q3⟩ := hin
      have h3 := hall b e hb rfl (by omega) (by omega)
      exfalso
      rcases h3 with h3 | ⟨_, _, _, _, _, m, h3, h4, _⟩
      · rw [hset, if_pos rfl, ho] at h3
        injection h3 with _ _ _ _ h3
        omega
      · rw [hset, if_pos rfl] at h4
        rw [ho] at h3
        cases h4
    · exact h2
  · intro B o' v hcv
    exact ⟨⟨_, hw.cell _ _ _ hcv⟩, hw.frozen _⟩
  · obtain ⟨_, _, q1, _⟩ := hsame _ _ _ _ _ _ _ hoy
    rw [hr.out y hy] at q1
    cases q1
  · intro y hy
    rw [hset]
    split
    · rename_i e1; subst e1
      rw [ho]
      exact ⟨none, k + 1, _, rfl, by omega, fun e => by omega, hlensp, fun m e => by cases e⟩
    · exact Evo.refl _

theorem store_ok (hr : HRel base ι h w) {t : TypeId} {b off : Nat} {e : Ext} {v v' : Value} {h' : AHeap} (hb : ι b = some e) (hv : storeA P h t b off v = some h') (hvv : VRel ι v v') :
    ∃ w', (storeVar t ⟨e.block, e.off + off, none⟩ v').run P w = .ok () w' ∧ HRel base ι h' w' ∧ Keeps ι h h' w w' ∧ More base ι ι h h' w := by
  unfold storeA at hv
  split at hv
  · rename_i sz f k c ho
    split at hv
    · rename_i hc
      obtain ⟨hsz, hle, hcell⟩ := hc
      injection hv with hv; subst hv
      -- the cells of related values
      have hcs : v'.cells.size = v.cells.size ∧ ∀ (i : Nat) x x', v.cells[i]? = some x → v'.cells[i]? = some x' → VRel ι x x' := by
        have one : ∀ {x x' : Value}, VRel ι x x' → (∀ (i : Nat) y y', (#[x] : Array Value)[i]? = some y → (#[x'] : Array Value)[i]? = some y' → VRel ι y y') := by
          intro x x' hx i y y' hy hy'
          cases i with
          | zero => simp at hy hy'; subst hy hy'; exact hx
          | succ i => simp at hy
        cases hvv with
        | agg h1 h2 => exact ⟨h1.symm, h2⟩
        | atom h1 =>
          have hc1 : v.cells = #[v] := by cases v <;> first | rfl | (simp [plain1] at h1; done)
          rw [hc1]; exact ⟨rfl, one (.atom h1)⟩
        | ptr h1 => exact ⟨rfl, one (.ptr h1)⟩
        | slice h1 h2 h3 => exact ⟨rfl, one (.slice h1 h2 h3)⟩
        | slice0 h1 => exact ⟨rfl, one (.slice0 h1)⟩
        | tuple h1 h2 => exact ⟨rfl, one (.tuple h1 h2)⟩
        | func h1 h2 h3 h4 => exact ⟨rfl, one (.func h1 h2 h3 h4)⟩
        | iface h1 => exact ⟨rfl, one (.iface h1)⟩
      obtain ⟨hn, hrel⟩ := hcs
      have hcell' : ∀ x ∈ v.cells.toList, isCell x = true := fun x hx => Array.all_eq_true_iff_forall_mem.1 hcell x (Array.mem_toList_iff.1 hx)
      have hcell2 : ∀ x ∈ v'.cells.toList, isCell x = true := by
        intro x hx
        obtain ⟨i, hi, rfl⟩ := List.mem_iff_getElem.1 hx
        have hi' : i < v.cells.toList.length := by simpa [← hn] using hi
        have h1 : v.cells[i]? = some v.cells.toList[i] := by simp
        have h2 : v'.cells[i]? = some v'.cells.toList[i] := by simp
        exact (hrel i _ _ h1 h2).cellOf (hcell' _ (List.getElem_mem hi'))
      have hcap := (hr.szs b e _ _ _ _ _ _ hb ho).2.1
      obtain ⟨w', hrun, hw⟩ := run_storeCells (P := P) e.block (e.off + off) v'.cells.toList 0 w hcell2 (fun j hj => by
        have hj' : j < v.cells.size := by simpa [hn] using hj
        have := hr.room b e _ _ _ _ _ (off + j) hb ho (by omega)
        rw [Nat.zero_add, show e.off + off + j = e.off + (off + j) by omega]
        exact this)
      rw [Nat.add_zero] at hw
      have := write_ok hr hb ho (cs := v.cells.toList) (cs' := v'.cells.toList) (off := off) (by simpa using hle) (by simp [hn]) hcell' (fun i x x' hx hx' => hrel i x x' (by simpa using hx) (by simpa using hx')) hw
      refine ⟨w', ?_, this.1, this.2.1, this.2.2⟩
      simp only [storeVar, Sem.run_bind, sizeOf_run hsz, Result.andThen_ok, hn, ne_eq, not_true_eq_false, if_false]
      exact hrun
    · cases hv
  · cases hv

end Go.Proofs.Ytjmklialkjncaaa.Eng

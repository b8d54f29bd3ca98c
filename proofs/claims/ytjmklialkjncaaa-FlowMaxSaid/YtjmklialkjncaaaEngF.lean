/- The operations, one by one: the abstract machine's step is the model's. Own work; no condition. -/
import Derived.Test.YtjmklialkjncaaaEngE
set_option linter.unusedVariables false
set_option linter.unusedSimpArgs false
namespace Go.Proofs.Ytjmklialkjncaaa.Eng

variable {P : Program} {base : Nat} {ι : Lay} {h h' : AHeap} {w : World}

/-! ### What a related value looks like -/
theorem VRel.ptr_inv {b o : Nat} {v' : Value} (r : VRel ι (.pointer (some ⟨b, o, none⟩)) v') : ∃ e, ι b = some e ∧ v' = .pointer (some ⟨e.block, e.off + o, none⟩) := by
  cases r with
  | atom h => simp [plain1] at h
  | ptr h => exact ⟨_, h, rfl⟩

theorem VRel.slice_inv {b o l c : Nat} {v' : Value} (r : VRel ι (.slice (some ⟨b, o, none⟩) l c) v') :
    ∃ e, ι b = some e ∧ ((∃ c', v' = .slice (some ⟨e.block, e.off + o, none⟩) l c' ∧ l ≤ c' ∧ o + c' * e.sz ≤ e.cap) ∨ (∃ A, v' = .slice (some A) 0 0 ∧ l = 0)) := by
  cases r with
  | atom h => simp [plain1] at h
  | slice h h1 h2 => exact ⟨_, h, .inl ⟨_, rfl, h1, h2⟩⟩
  | slice0 h => exact ⟨_, h, .inr ⟨_, rfl, rfl⟩⟩

theorem VRel.cells {v v' : Value} (hvv : VRel ι v v') : v'.cells.size = v.cells.size ∧ ∀ (i : Nat) x x', v.cells[i]? = some x → v'.cells[i]? = some x' → VRel ι x x' := by
  have one : ∀ {x x' : Value}, VRel ι x x' → (∀ (i : Nat) y y', (#[x] : Array Value)[i]? = some y → (#[x'] : Array Value)[i]? = some y' → VRel ι y y') := by
    intro x x' hx i y y' hy hy'
    cases i with
    | zero => simp at hy hy'; subst hy hy'; exact hx
    | succ i => simp at hy
  cases hvv with
  | agg h1 h2 => exact ⟨h1.symm, h2⟩
  | atom h1 =>
    have hc1 : v.cells = #[v] := by cases v <;> first | rfl | (simp [plain1] at h1; done)
    rw [hc1]; exact ⟨rfl, one (.atom h1)⟩
  | ptr h1 => exact ⟨rfl, one (.ptr h1)⟩
  | slice h1 h2 h3 => exact ⟨rfl, one (.slice h1 h2 h3)⟩
  | slice0 h1 => exact ⟨rfl, one (.slice0 h1)⟩
  | tuple h1 h2 => exact ⟨rfl, one (.tuple h1 h2)⟩
  | func h1 h2 h3 h4 => exact ⟨rfl, one (.func h1 h2 h3 h4)⟩
  | iface h1 => exact ⟨rfl, one (.iface h1)⟩

/-- Arrays that are related place by place. -/
def ARel (ι : Lay) (xs ys : Array Value) : Prop := ys.size = xs.size ∧ ∀ (i : Nat) x y, xs[i]? = some x → ys[i]? = some y → VRel ι x y

theorem ARel.map {f g : Operand → Value} {xs : Array Operand} (hf : ∀ x ∈ xs, VRel ι (f x) (g x)) : ARel ι (xs.map f) (xs.map g) := by
  refine ⟨by simp, fun i x y hx hy => ?_⟩
  simp only [Array.getElem?_map] at hx hy
  cases ho : xs[i]? with
  | none => rw [ho] at hx; cases hx
  | some o =>
    rw [ho] at hx hy
    simp only [Option.map_some, Option.some.injEq] at hx hy
    subst hx hy
    exact hf o (Array.mem_of_getElem? ho)

theorem ARel.plain {xs : Array Value} (h : xs.all plain1 = true) : ARel ι xs xs :=
  ⟨rfl, fun i x y hx hy => by
    obtain rfl := Option.some.inj (hx.symm.trans hy)
    exact .atom (Array.all_eq_true_iff_forall_mem.1 h x (Array.mem_of_getElem? hx))⟩

theorem foldl_set {cs : List Value} : ∀ (n off : Nat) (a : Array Value) (hle : off + n + cs.length ≤ a.size), 
    let r := (cs.zipIdx n).foldl (fun (a : Array Value) (p : Value × Nat) => a.setIfInBounds (off + p.2) p.1) a
    r.size = a.size ∧ ∀ i, r[i]? = if off + n ≤ i ∧ i < off + n + cs.length then cs[i - (off + n)]? else a[i]? := by
  induction cs with
  | nil => intro n off a _; exact ⟨rfl, fun i => by rw [if_neg (by simp)]; rfl⟩
  | cons c cs ih =>
    intro n off a hle
    simp only [List.length_cons] at hle
    obtain ⟨h1, h2⟩ := ih (n + 1) off (a.setIfInBounds (off + n) c) (by simp; omega)
    simp only [List.zipIdx_cons, List.foldl_cons]
    refine ⟨by rw [h1]; simp, fun i => ?_⟩
    rw [h2 i]
    simp only [List.length_cons, Array.getElem?_setIfInBounds]
    by_cases e0 : i = off + n
    · subst e0
      rw [if_neg (by omega), if_pos rfl, if_pos (by omega), if_pos ⟨Nat.le_refl _, by omega⟩]
      simp
    · by_cases hin : off + (n + 1) ≤ i ∧ i < off + (n + 1) + cs.length
      · rw [if_pos hin, if_pos (by omega), show i - (off + n) = (i - (off + (n + 1))) + 1 by omega]
        simp
      · rw [if_neg hin, if_neg (fun e => e0 e.symm), if_neg (by omega)]

theorem fill_step (cs : Array Value) (off : Nat) (a : Array Value) (hle : off + cs.size ≤ a.size) :
    (cs.zipIdx.foldl (fun a (p : Value × Nat) => a.setIfInBounds (off + p.2) p.1) a).size = a.size ∧
    ∀ i, (cs.zipIdx.foldl (fun a (p : Value × Nat) => a.setIfInBounds (off + p.2) p.1) a)[i]? = if off ≤ i ∧ i < off + cs.size then cs[i - off]? else a[i]? := by
  have := foldl_set (cs := cs.toList) 0 off a (by simpa using hle)
  simp only [Nat.add_zero] at this
  have e : cs.zipIdx.foldl (fun a (p : Value × Nat) => a.setIfInBounds (off + p.2) p.1) a = (cs.toList.zipIdx 0).foldl (fun a (p : Value × Nat) => a.setIfInBounds (off + p.2) p.1) a := by
    rw [← Array.foldl_toList, Array.toList_zipIdx]
  rw [e]
  exact ⟨this.1, fun i => by rw [this.2 i]; simp⟩

theorem fill_rel {place placeL : Nat → Option (Nat × Nat)} (hpl : ∀ i x, placeL i = some x → place i = some x) : ∀ (parts parts' : List (Nat × Value)) (cells cells' : Array Value) (r : List Value), ARel ι cells cells' →
    parts'.length = parts.length → (∀ (i : Nat) p p', parts[i]? = some p → parts'[i]? = some p' → p'.1 = p.1 ∧ VRel ι p.2 p'.2) →
    fillL placeL cells.toList parts = some r → ∃ r', Instr.fill place cells' parts' = some r' ∧ ARel ι r.toArray r' := by
  intro parts
  induction parts with
  | nil =>
    intro parts' cells cells' r hc hl _ hr
    obtain rfl := List.length_eq_zero_iff.1 hl
    simp only [fillL, Option.some.injEq] at hr
    subst hr
    exact ⟨cells', rfl, hc⟩
  | cons p ps ih =>
    intro parts' cells cells' r hc hl hp hr
    cases parts' with
    | nil => simp at hl
    | cons p' ps' =>
      obtain ⟨i, v⟩ := p
      obtain ⟨i', v'⟩ := p'
      obtain ⟨h1, h2⟩ := hp 0 _ _ rfl rfl
      simp only at h1 h2
      subst h1
      simp only [fillL] at hr
      split at hr
      · cases hr
      rename_i off size hpi
      obtain ⟨hn, hcs⟩ := h2.cells
      split at hr
      · rename_i hg
        obtain ⟨hg1, hg2⟩ := hg
        simp only [Instr.fill, hpl _ _ hpi]
        rw [hn, hc.1]
        have hle : off + v.cells.size ≤ cells.size := by simp at hg2; omega
        rw [if_neg (by simp only [ne_eq, Bool.or_eq_true, decide_eq_true_eq, not_or]; omega)]
        obtain ⟨s1, g1⟩ := fill_step v.cells off cells hle
        obtain ⟨s2, g2⟩ := fill_step v'.cells off cells' (by rw [hn, hc.1]; exact hle)
        have hsp : (v.cells.zipIdx.foldl (fun a (p : Value × Nat) => a.setIfInBounds (off + p.2) p.1) cells).toList = splice cells.toList off v.cells.toList := by
          apply List.ext_getElem?
          intro j
          rw [getElem?_splice (by simpa using hle)]
          have := g1 j
          simp only [Array.getElem?_toList, Array.length_toList]
          exact this
        rw [← hsp] at hr
        refine ih ps' _ _ r ⟨?_, fun j x y hx hy => ?_⟩ (by simpa using hl) (fun j q q' hq hq' => hp (j + 1) q q' (by simpa using hq) (by simpa using hq')) hr
        · show (v'.cells.zipIdx.foldl (fun a (p : Value × Nat) => a.setIfInBounds (off + p.2) p.1) cells').size = (v.cells.zipIdx.foldl (fun a (p : Value × Nat) => a.setIfInBounds (off + p.2) p.1) cells).size
          rw [s1, s2, hc.1]
        · have hx' : (v.cells.zipIdx.foldl (fun a (p : Value × Nat) => a.setIfInBounds (off + p.2) p.1) cells)[j]? = some x := hx
          have hy' : (v'.cells.zipIdx.foldl (fun a (p : Value × Nat) => a.setIfInBounds (off + p.2) p.1) cells')[j]? = some y := hy
          rw [g1] at hx'
          rw [g2, hn] at hy'
          split at hx'
          · rename_i hin; rw [if_pos hin] at hy'; exact hcs _ _ _ hx' hy'
          · rename_i hin; rw [if_neg hin] at hy'; exact hc.2 _ _ _ hx' hy'
      · cases hr

/-! ### Operations without memory -/
theorem purely_pure {α : Type} (a : α) : purely P (pure a : Sem α) = some a := rfl

theorem run_places : ∀ (fields : List Field) (pl : List (Nat × Nat)), (fields.mapM fun f => (szOf P f.type).map (f.offset, ·)) = some pl →
    (fields.mapM (m := Sem) fun f => do pure (f.offset, ← sizeOf f.type)).run P w = .ok pl w := by
  intro fields
  induction fields with
  | nil => intro pl h; simp at h; subst h; rfl
  | cons f fs ih =>
    intro pl h
    rw [List.mapM_cons] at h ⊢
    cases hs : szOf P f.type with
    | none => rw [hs] at h; simp at h
    | some n =>
      rw [hs] at h
      cases hm : fs.mapM fun f => (szOf P f.type).map (f.offset, ·) with
      | none => rw [hm] at h; simp at h
      | some pl' =>
        rw [hm] at h
        simp at h
        subst h
        simp only [Sem.run_bind, sizeOf_run hs, Result.andThen_ok, Sem.run_pure, ih pl' hm]

theorem build_ok {t : TypeId} {parts parts' : Array (Nat × Value)} {v : Value} (hv : buildA P t parts = some v) (hl : parts'.size = parts.size)
    (hp : ∀ (i : Nat) p p', parts[i]? = some p → parts'[i]? = some p' → p'.1 = p.1 ∧ VRel ι p.2 p'.2) : ∃ v', (Instr.build t parts').run P w = .ok v' w ∧ VRel ι v v' := by
  unfold buildA at hv
  split at hv
  · rename_i z pl hz hpl
    obtain ⟨hz1, hz2⟩ := zero_run hz w
    have hparts : ∀ (i : Nat) p p', parts.toList[i]? = some p → parts'.toList[i]? = some p' → p'.1 = p.1 ∧ VRel ι p.2 p'.2 := fun i p p' a b => hp i p p' (by simpa using a) (by simpa using b)
    cases hf : fillL (pl[·]?) z.cells.toList parts.toList with
    | none => rw [hf] at hv; cases hv
    | some r =>
      rw [hf] at hv
      simp only [Option.map_some, Option.some.injEq] at hv
      subst hv
      unfold placesOf at hpl
      split at hpl
      · rename_i fields hd
        obtain ⟨r', h1, h2⟩ := fill_rel (ι := ι) (place := fun i => (pl.toArray)[i]?) (placeL := (pl[·]?)) (fun i x hx => by simpa using hx) parts.toList parts'.toList z.cells z.cells r (ARel.plain hz2) (by simpa using hl) hparts hf
        have hm : (fields.mapM (m := Sem) fun f => do pure (f.offset, ← sizeOf f.type)).run P w = .ok pl.toArray w := by
          rw [Array.mapM_eq_mapM_toList, Sem.run_map, run_places fields.toList pl hpl]; rfl
        refine ⟨.agg r', ?_, .agg h2.1.symm h2.2⟩
        unfold Instr.build
        simp only [Sem.run_bind, hz1, Result.andThen_ok, under_run hd, hm]
        simp only [h1, Sem.run_pure]
      · rename_i n el hd
        cases hs : szOf P el with
        | none => rw [hs] at hpl; cases hpl
        | some s =>
          rw [hs] at hpl
          simp only [Option.map_some, Option.some.injEq] at hpl
          subst hpl
          obtain ⟨r', h1, h2⟩ := fill_rel (ι := ι) (place := fun i => some (i * s, s)) (placeL := (((List.range n).map fun i => (i * s, s))[·]?)) (fun i x hx => by
            simp only [List.getElem?_map] at hx
            cases hg : (List.range n)[i]? with
            | none => rw [hg] at hx; cases hx
            | some j =>
              rw [hg] at hx
              obtain ⟨hj1, hj2⟩ := List.getElem?_eq_some_iff.1 hg
              simp at hj2 hx
              subst hj2
              simpa using hx) parts.toList parts'.toList z.cells z.cells r (ARel.plain hz2) (by simpa using hl) hparts hf
          refine ⟨.agg r', ?_, .agg h2.1.symm h2.2⟩
          unfold Instr.build
          simp only [Sem.run_bind, hz1, Result.andThen_ok, under_run hd, sizeOf_run hs]
          simp only [h1, Sem.run_pure]
      · cases hpl
  · cases hv

theorem part_ok {t : TypeId} {cs cs' : Array Value} {off : Nat} {v : Value} (hv : partA P t cs off = some v) (hc : ARel ι cs cs') : ∃ v', (part t cs' off).run P w = .ok v' w ∧ VRel ι v v' := by
  unfold partA at hv
  split at hv
  · rename_i ha
    cases hs : szOf P t with
    | none => rw [hs] at hv; cases hv
    | some n =>
      rw [hs] at hv
      simp only [Option.map_some, Option.some.injEq] at hv
      subst hv
      refine ⟨.agg (cs'.extract off (off + n)), ?_, .agg (by simp [hc.1]) fun i x y hx hy => ?_⟩
      · simp only [part, Sem.run_bind, isAgg_run ha, Result.andThen_ok, if_true, sizeOf_run hs, Sem.run_pure]
      · rw [Array.getElem?_extract] at hx hy
        rw [hc.1] at hy
        split at hx
        · rename_i hi; rw [if_pos hi] at hy; exact hc.2 _ _ _ hx hy
        · cases hx
  · rename_i ha
    obtain ⟨hi, _⟩ := Array.getElem?_eq_some_iff.1 hv
    have hi' : off < cs'.size := by rw [hc.1]; exact hi
    refine ⟨cs'[off], ?_, hc.2 off v _ hv (Array.getElem?_eq_getElem hi')⟩
    simp only [part, Sem.run_bind, isAgg_run ha, Result.andThen_ok, Bool.false_eq_true, if_false, Array.getElem?_eq_getElem hi', Sem.run_pure]
  · cases hv

theorem fieldOf_ok {t : TypeId} {x x' v : Value} {f : Nat} (hv : fieldOfA P t x f = some v) (hx : VRel ι x x') : ∃ v', (Instr.field t x' f).run P w = .ok v' w ∧ VRel ι v v' := by
  unfold fieldOfA at hv
  split at hv
  · rename_i cs fields hd
    split at hv
    · rename_i g hg
      cases hx with
      | atom h => simp [plain1] at h
      | agg h1 h2 =>
        rename_i ys
        obtain ⟨v', h3, h4⟩ := part_ok (w := w) hv (⟨h1.symm, h2⟩ : ARel ι cs ys)
        refine ⟨v', ?_, h4⟩
        simp only [Instr.field, Sem.run_bind, under_run hd, Result.andThen_ok, hg, asAgg, Sem.run_pure]
        exact h3
    · cases hv
  · cases hv

theorem fieldA_ok {t : TypeId} {x x' v : Value} {f : Nat} (hv : fieldA P t x f = some v) (hx : VRel ι x x') : ∃ v', (Instr.fieldAt t x' f).run P w = .ok v' w ∧ VRel ι v v' := by
  unfold fieldA at hv
  split at hv
  · rename_i b off fields hd
    split at hv
    · rename_i g hg
      split at hv
      · rename_i n hs
        injection hv with hv; subst hv
        obtain ⟨e, he, rfl⟩ := hx.ptr_inv
        refine ⟨.pointer (some ⟨e.block, e.off + (off + g.offset), none⟩), ?_, .ptr he⟩
        simp only [Instr.fieldAt, Sem.run_bind, under_run hd, Result.andThen_ok, hg, Instr.sureAddr, Sem.run_pure, fieldPlace, sizeOf_run hs, addr_add, Nat.add_assoc]
        rw [if_neg (by omega)]
        rfl
      · cases hv
    · cases hv
  · cases hv

theorem elem_run {t e : TypeId} (he : elemOf P t = some e) : P.underlying t = some (.slice e) := by
  unfold elemOf at he
  split at he
  · rename_i e' hu; injection he with he; subst he; exact hu
  · cases he

theorem indexA_ok {t : TypeId} {x x' i i' v : Value} (hv : indexA P t x i = some v) (hx : VRel ι x x') (hi : VRel ι i i') : ∃ v', (Instr.indexAt t x' i').run P w = .ok v' w ∧ VRel ι v v' := by
  unfold indexA at hv
  split at hv
  · rename_i b off n c k j
    obtain rfl := hi.plain rfl
    cases hel : elemOf P t with
    | none => rw [hel] at hv; simp at hv
    | some el =>
      rw [hel] at hv
      simp only [Option.bind_some] at hv
      split at hv
      · rename_i sz hs
        split at hv
        · rename_i hj
          injection hv with hv; subst hv
          obtain ⟨e, he, ⟨c', rfl, h1, h2⟩ | ⟨A, rfl, rfl⟩⟩ := hx.slice_inv
          · refine ⟨.pointer (some ⟨e.block, e.off + (off + j.toNat * sz), none⟩), ?_, .ptr he⟩
            simp only [Instr.indexAt, asIntOf, Sem.run_bind, Sem.run_pure, Result.andThen_ok, under_run (elem_run hel), hj, and_self, if_true, sizeOf_run hs, addr_add, Nat.add_assoc]
          · exfalso; omega
        · cases hv
      · cases hv
  · cases hv

end Go.Proofs.Ytjmklialkjncaaa.Eng

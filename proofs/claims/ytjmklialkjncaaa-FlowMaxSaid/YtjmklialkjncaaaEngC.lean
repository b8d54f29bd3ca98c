/- Each operation of the abstract machine is what the model's operation does. Own work; no condition. -/
import Derived.Test.YtjmklialkjncaaaEngB
import Derived.Laws.Append
set_option linter.unusedVariables false
set_option linter.unusedSimpArgs false
namespace Go.Proofs.Ytjmklialkjncaaa.Eng

variable {P : Program} {base : Nat} {ι : Lay} {h : AHeap} {w : World}

theorem Keeps.refl (ι : Lay) (h : AHeap) (w : World) : Keeps ι h h w w :=
  ⟨rfl, rfl, rfl, Nat.le_refl _, fun _ _ _ => rfl, fun _ _ _ h _ => h, fun _ _ v h => ⟨⟨v, h⟩, rfl⟩⟩

theorem More.refl (hr : HRel base ι h w) : More base ι ι h h w :=
  ⟨fun _ _ => rfl, fun b e hb he => absurd (hr.lt b e he) (by omega), fun b sz ro f st k c hb ho => (by rw [hr.out b hb] at ho; cases ho), fun b h1 h2 => absurd h1 (by omega), fun _ _ => Evo.refl _, Nat.le_refl _⟩

/-- What has been reached: a layout, the value, the world. -/
def Done (base : Nat) (ι : Lay) (h h' : AHeap) (w w' : World) (v v' : Value) : Prop :=
  ∃ ι', More base ι ι' h h' w ∧ VRel ι' v v' ∧ HRel base ι' h' w' ∧ Keeps ι h h' w w'

theorem Done.same {v v' : Value} (hr : HRel base ι h w) (hv : VRel ι v v') : Done base ι h h w w v v' :=
  ⟨ι, More.refl hr, hv, hr, Keeps.refl ι h w⟩

theorem purely_run {α : Type} {s : Sem α} {a : α} (hs : purely P s = some a) (w : World) : s.run P w = .ok a w := by
  induction s with
  | pure x => simp only [purely, Option.some.injEq] at hs; subst hs; rfl
  | program k ih => simp only [purely] at hs; exact ih P hs
  | _ => simp [purely] at hs

theorem purely_bind {α β : Type} (s : Sem α) (f : α → Sem β) : purely P (s >>= f) = (purely P s).bind fun a => purely P (f a) := by
  show purely P (s.bind f) = _
  induction s with
  | pure x => rfl
  | program k ih => simp only [Sem.bind, purely]; exact ih P
  | _ => simp [Sem.bind, purely]

/-! ### Loads -/
theorem HRel.isc (hr : HRel base ι h w) {b : Nat} {e : Ext} {c : List Value} (hb : ι b = some e) (hc : h.rd b = some c) : (∀ x ∈ c, isCell x = true) ∧ c.length ≤ e.cap := by
  unfold AHeap.rd at hc
  split at hc
  · rename_i sz ro f k c0 ho
    injection hc with hc; subst hc
    exact ⟨(hr.szs b e _ _ _ _ _ _ hb ho).2.2.2, (hr.szs b e _ _ _ _ _ _ hb ho).2.1⟩
  · rename_i sz ro f m k c0 ho
    split at hc
    · injection hc with hc; subst hc
      exact ⟨(hr.szs b e _ _ _ _ _ _ hb ho).2.2.2, (hr.szs b e _ _ _ _ _ _ hb ho).2.1⟩
    · cases hc
  · cases hc

theorem addr_add (B o n : Nat) : (⟨B, o, none⟩ : Addr).add n = ⟨B, o + n, none⟩ := by unfold Addr.add; split <;> simp_all

theorem run_load1 {a : Addr} {v : Value} (hv : w.cell? a = some v) : (load a).run P w = .ok v w := by simp [run_load, hv]

theorem run_loadCells (a : Addr) (n : Nat) : ∀ (i : Nat) (acc : Array Value) (vs : List Value), vs.length = n → (∀ j v, vs[j]? = some v → w.cell? (a.add (i + j)) = some v) →
    (loadCellsFrom a i n acc).run P w = .ok (acc ++ vs.toArray) w := by
  induction n with
  | zero => intro i acc vs hl _; obtain rfl := List.length_eq_zero_iff.1 hl; simp [loadCellsFrom]
  | succ n ih =>
    intro i acc vs hl hc
    cases vs with
    | nil => simp at hl
    | cons v vs =>
      have h0 : w.cell? (a.add i) = some v := by simpa using hc 0 v rfl
      simp only [loadCellsFrom, Sem.run_bind, run_load1 h0, Result.andThen_ok]
      rw [ih (i + 1) (acc.push v) vs (by simpa using hl) (fun j u hj => by rw [show i + 1 + j = i + (j + 1) by omega]; exact hc (j + 1) u (by simpa using hj))]
      simp

theorem isAgg_run {t : TypeId} {x : Bool} (hx : isAggT P t = some x) (w : World) : (isAgg t).run P w = .ok x w := by
  unfold isAggT at hx
  cases hd : P.underlying t with
  | none => rw [hd] at hx; cases hx
  | some d =>
    rw [hd] at hx
    have hu : (underlying t).run P w = .ok d w := by simp [underlying, hd]
    simp only [isAgg, Sem.run_bind, hu, Result.andThen_ok]
    cases d <;> simp_all <;> rfl

theorem sizeOf_run {t : TypeId} {n : Nat} (hs : szOf P t = some n) (w : World) : (sizeOf t).run P w = .ok n w := by
  unfold szOf at hs
  cases hi : P.info? t with
  | none => rw [hi] at hs; simp at hs
  | some i =>
    rw [hi] at hs
    simp only [Option.map_some, Option.some.injEq] at hs
    simp [sizeOf, typeInfo, hi, hs]

theorem bytes_run {t : TypeId} {n : Nat} (hs : byOf P t = some n) : ∃ i, (∀ w : World, (typeInfo t).run P w = .ok i w) ∧ i.bytes = n := by
  unfold byOf at hs
  cases hi : P.info? t with
  | none => rw [hi] at hs; simp at hs
  | some i =>
    rw [hi] at hs
    simp only [Option.map_some, Option.some.injEq] at hs
    exact ⟨i, fun w => by simp [typeInfo, hi], hs⟩

theorem zero_run {t : TypeId} {z : Value} (hz : zeroOf P t = some z) (w : World) : (zeroValue t).run P w = .ok z w ∧ z.cells.all plain1 = true := by
  unfold zeroOf at hz
  cases hi : P.info? t with
  | none => rw [hi] at hz; simp at hz
  | some i =>
    rw [hi] at hz
    simp only [Option.bind_some] at hz
    cases hzz : i.zero with
    | none => rw [hzz] at hz; simp at hz
    | some z0 =>
      rw [hzz] at hz
      simp only [Option.bind_some] at hz
      split at hz
      · rename_i hall
        injection hz with hz; subst hz
        exact ⟨by simp [zeroValue, typeInfo, hi, hzz], hall⟩
      · cases hz

theorem under_run {t : TypeId} {d : TypeDesc} (hd : P.underlying t = some d) (w : World) : (underlying t).run P w = .ok d w := by simp [underlying, hd]

/-- The cells of a readable object, in the world. -/
theorem HRel.list (hr : HRel base ι h w) {b : Nat} {e : Ext} {c : List Value} (hb : ι b = some e) (hc : h.rd b = some c) :
    ∃ c' : List Value, c'.length = c.length ∧ (∀ (i : Nat) v', c'[i]? = some v' → w.cell? ⟨e.block, e.off + i, none⟩ = some v') ∧ ∀ (i : Nat) v v', c[i]? = some v → c'[i]? = some v' → VRel ι v v' := by
  have hex : ∀ i, i < c.length → ∃ v', w.cell? ⟨e.block, e.off + i, none⟩ = some v' ∧ VRel ι (c.getD i Go.undef) v' := fun i hi => by
    have := hr.val b e c i c[i] hb hc (List.getElem?_eq_getElem hi)
    simpa [List.getD_eq_getElem?_getD, List.getElem?_eq_getElem hi] using this
  have hlist : ∀ n, n ≤ c.length → ∃ c' : List Value, c'.length = n ∧ (∀ (i : Nat) v', c'[i]? = some v' → w.cell? ⟨e.block, e.off + i, none⟩ = some v') ∧ ∀ (i : Nat) v v', i < n → c[i]? = some v → c'[i]? = some v' → VRel ι v v' := by
    intro n
    induction n with
    | zero => intro _; exact ⟨[], rfl, by simp, by simp⟩
    | succ n ih =>
      intro hn
      obtain ⟨c', hl, h1, h2⟩ := ih (by omega)
      obtain ⟨v', hv', hr'⟩ := hex n (by omega)
      refine ⟨c' ++ [v'], by simp [hl], fun i u hu => ?_, fun i u u' hi hu hu' => ?_⟩
      · rcases Nat.lt_or_ge i c'.length with hlt | hge
        · rw [List.getElem?_append_left hlt] at hu; exact h1 i u hu
        · rw [List.getElem?_append_right hge] at hu
          have : i = n := by
            have := List.getElem?_eq_some_iff.1 hu
            obtain ⟨hx, _⟩ := this
            simp at hx; omega
          subst this
          rw [hl] at hu; simp at hu; subst hu; exact hv'
      · rcases Nat.lt_or_ge i c'.length with hlt | hge
        · rw [List.getElem?_append_left hlt] at hu'; exact h2 i u u' (by omega) hu hu'
        · have : i = n := by omega
          subst this
          rw [List.getElem?_append_right hge, hl] at hu'
          simp at hu'; subst hu'
          have : c.getD i Go.undef = u := by simp [List.getD_eq_getElem?_getD, hu]
          rw [← this]; exact hr'
  obtain ⟨c', hl, h1, h2⟩ := hlist c.length (Nat.le_refl _)
  exact ⟨c', hl, h1, fun i v v' hv hv' => h2 i v v' (List.getElem?_eq_some_iff.1 hv).1 hv hv'⟩

theorem load_ok (hr : HRel base ι h w) {t : TypeId} {b off : Nat} {e : Ext} {v : Value} (hb : ι b = some e) (hv : loadA P h t b off = some v) :
    ∃ v', (loadVar t ⟨e.block, e.off + off, none⟩).run P w = .ok v' w ∧ VRel ι v v' := by
  unfold loadA at hv
  split at hv
  · cases hv
  rename_i c hc
  obtain ⟨c', hl, h1, h2⟩ := hr.list hb hc
  have hcells := (hr.isc hb hc).1
  split at hv
  · cases hv
  · rename_i hagg
    split at hv
    · cases hv
    rename_i n hn
    split at hv
    · rename_i hle
      injection hv with hv; subst hv
      refine ⟨.agg ((c'.drop off).take n).toArray, ?_, .agg (by simp [hl]) fun i u u' hu' hu'' => ?_⟩
      · have hlc := run_loadCells (P := P) (w := w) ⟨e.block, e.off + off, none⟩ n 0 #[] ((c'.drop off).take n) (by simp; omega) (fun j u hj => by
          rw [addr_add, Nat.zero_add, show e.off + off + j = e.off + (off + j) by omega]
          rw [List.getElem?_take] at hj
          split at hj
          · rw [List.getElem?_drop] at hj; exact h1 _ _ hj
          · cases hj)
        simp only [loadVar, Sem.run_bind, isAgg_run hagg, Result.andThen_ok, if_true, sizeOf_run hn, loadCells, hlc, Sem.run_pure, Array.empty_append]
      · simp only [List.getElem?_toArray, List.getElem?_take] at hu' hu''
        split at hu' <;> rename_i hi
        · rw [if_pos hi] at hu''
          rw [List.getElem?_drop] at hu' hu''
          exact h2 _ _ _ hu' hu''
        · cases hu'
    · cases hv
  · rename_i hagg
    obtain ⟨hi, hvi⟩ := List.getElem?_eq_some_iff.1 hv
    have hi' : off < c'.length := by omega
    refine ⟨c'[off], ?_, h2 off v _ hv (List.getElem?_eq_getElem hi')⟩
    simp only [loadVar, Sem.run_bind, isAgg_run hagg, Result.andThen_ok, Bool.false_eq_true, if_false]
    exact run_load1 (h1 off _ (List.getElem?_eq_getElem hi'))

end Go.Proofs.Ytjmklialkjncaaa.Eng

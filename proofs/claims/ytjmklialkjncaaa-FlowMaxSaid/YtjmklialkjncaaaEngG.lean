/- Slices, literals, make and append: the abstract machine's step is the model's. Own work; no condition. -/
import Derived.Test.YtjmklialkjncaaaEngF
import Derived.IntWalk
set_option linter.unusedVariables false
set_option linter.unusedSimpArgs false
namespace Go.Proofs.Ytjmklialkjncaaa.Eng

variable {P : Program} {base : Nat} {ι : Lay} {h h' : AHeap} {w : World}

def ORel (ι : Lay) : Option Value → Option Value → Prop
  | none, none => True
  | some v, some v' => VRel ι v v'
  | _, _ => False

theorem bound_run {v v' : Value} {d n y : Nat} (hb : boundA (some v) d = some n) (hr : VRel ι v v') (hn : n ≤ y) (code : BoundsCode) : (Instr.sliceBound v' y code).run P w = .ok n w := by
  cases v with
  | int k i =>
    obtain rfl := hr.plain rfl
    simp only [boundA] at hb
    split at hb
    · rename_i hi
      injection hb with hb; subst hb
      simp only [Instr.sliceBound, asIntOf, Sem.run_bind, Sem.run_pure, Result.andThen_ok]
      rw [if_pos ⟨hi, by omega⟩]
      rfl
    · cases hb
  | _ => simp [boundA] at hb

theorem bounds_run {lo lo' hi hi' : Option Value} {n c l hh : Nat} (h1 : boundA lo 0 = some l) (h2 : boundA hi n = some hh) (r1 : ORel ι lo lo') (r2 : ORel ι hi hi') (hl : l ≤ hh) (hc : hh ≤ c) (s : Bool) :
    (Instr.sliceBounds s n c lo' hi' none).run P w = .ok (l, hh, c) w := by
  unfold Instr.sliceBounds
  have low : ∀ (x : Sem (Nat × Nat × Nat)), True := fun _ => trivial
  cases hi with
  | none =>
    cases hi' with
    | some _ => exact r2.elim
    | none =>
      simp only [boundA, Option.some.injEq] at h2; subst h2
      cases lo with
      | none =>
        cases lo' with
        | some _ => exact r1.elim
        | none => simp only [boundA, Option.some.injEq] at h1; subst h1; rfl
      | some v =>
        cases lo' with
        | none => exact r1.elim
        | some v' =>
          simp only [Sem.run_bind, Sem.run_pure, Result.andThen_ok, Option.isSome_none, Bool.false_eq_true, if_false]
          rw [bound_run h1 r1 hl]; rfl
  | some u =>
    cases hi' with
    | none => exact r2.elim
    | some u' =>
      simp only [Sem.run_bind, Sem.run_pure, Result.andThen_ok]
      rw [bound_run h2 r2 hc]
      simp only [Result.andThen_ok]
      cases lo with
      | none =>
        cases lo' with
        | some _ => exact r1.elim
        | none => simp only [boundA, Option.some.injEq] at h1; subst h1; rfl
      | some v =>
        cases lo' with
        | none => exact r1.elim
        | some v' =>
          simp only [Option.isSome_none, Bool.false_eq_true, if_false, Sem.run_bind, Sem.run_pure]
          rw [bound_run h1 r1 hl]; rfl

theorem slice_ok (hr : HRel base ι h w) {t : TypeId} {x x' v : Value} {lo lo' hi hi' : Option Value} (hv : sliceA P h t x lo hi = some v) (hx : VRel ι x x') (r1 : ORel ι lo lo') (r2 : ORel ι hi hi') :
    ∃ v', (Instr.sliceAt t x' lo' hi' none).run P w = .ok v' w ∧ VRel ι v v' := by
  unfold sliceA at hv
  split at hv
  · rename_i s
    obtain rfl := hx.plain rfl
    split at hv
    · rename_i l hh hu hb1 hb2
      split at hv
      · rename_i hle
        injection hv with hv; subst hv
        refine ⟨_, ?_, .atom rfl⟩
        simp only [Instr.sliceAt, Sem.run_bind, under_run hu, Result.andThen_ok, Instr.slice, Option.isSome_none, Bool.false_eq_true, if_false, bounds_run (P := P) (w := w) hb1 hb2 r1 r2 hle.1 hle.2, Sem.run_pure]
      · cases hv
    · cases hv
  · obtain rfl := hx.plain rfl
    split at hv
    · rename_i sz hsz hb1 hb2
      injection hv with hv; subst hv
      refine ⟨.slice none 0 0, ?_, .atom rfl⟩
      cases hel : elemOf P t with
      | none => rw [hel] at hsz; cases hsz
      | some el =>
        rw [hel] at hsz
        simp only [Option.bind_some] at hsz
        simp only [Instr.sliceAt, Sem.run_bind, under_run (elem_run hel), Result.andThen_ok, Instr.slice, bounds_run (P := P) (w := w) hb1 hb2 r1 r2 (Nat.le_refl 0) (Nat.le_refl 0), sizeOf_run hsz, Sem.run_pure, if_true, Nat.sub_self]
    · cases hv
  · rename_i b off n c
    split at hv
    · rename_i sz l hh sz' ro f st k cc hsz hb1 hb2 ho
      split at hv
      · rename_i hle
        obtain ⟨hle1, hle2, rfl⟩ := hle
        injection hv with hv; subst hv
        cases hel : elemOf P t with
        | none => rw [hel] at hsz; cases hsz
        | some el =>
          rw [hel] at hsz
          simp only [Option.bind_some] at hsz
          have hu := elem_run hel
          obtain ⟨e, he, ⟨c', rfl, h1, h2⟩ | ⟨A, rfl, rfl⟩⟩ := hx.slice_inv
          · have hes := (hr.szs b e _ _ _ _ _ _ he ho).1
            have hrun : (Instr.sliceAt t (.slice (some ⟨e.block, e.off + off, none⟩) n c') lo' hi' none).run P w =
                .ok (.slice (if c' = l then some ⟨e.block, e.off + off, none⟩ else some ⟨e.block, e.off + off + l * sz', none⟩) (hh - l) (c' - l)) w := by
              simp only [Instr.sliceAt, Sem.run_bind, under_run hu, Result.andThen_ok, Instr.slice, bounds_run (P := P) (w := w) hb1 hb2 r1 r2 hle1 (Nat.le_trans hle2 h1), sizeOf_run hsz, Sem.run_pure, Option.map_some, addr_add]
            refine ⟨_, hrun, ?_⟩
            by_cases hcl : c' = l
            · rw [if_pos hcl]
              have z1 : hh - l = 0 := by omega
              have z2 : c' - l = 0 := by omega
              rw [z1, z2]
              exact .slice0 he
            · rw [if_neg hcl, Nat.add_assoc]
              refine .slice he (by omega) ?_
              rw [hes] at h2 ⊢
              have : l * sz' + (c' - l) * sz' = c' * sz' := by rw [← Nat.add_mul]; congr 1; omega
              omega
          · have z1 : l = 0 := by omega
            have z2 : hh = 0 := by omega
            subst z1 z2
            have hrun : (Instr.sliceAt t (.slice (some A) 0 0) lo' hi' none).run P w = .ok (.slice (some A) 0 0) w := by
              simp only [Instr.sliceAt, Sem.run_bind, under_run hu, Result.andThen_ok, Instr.slice, bounds_run (P := P) (w := w) hb1 hb2 r1 r2 (Nat.le_refl 0) (Nat.le_refl 0), sizeOf_run hsz, Sem.run_pure, if_true, Nat.sub_self]
            exact ⟨_, hrun, .slice0 he⟩
      · cases hv
    · cases hv
  · cases hv

theorem zerosL_get (z : List Value) : ∀ (n j : Nat), (zerosL z n)[j]? = if j < n * z.length then z[j % z.length]? else none := by
  intro n
  induction n with
  | zero => intro j; simp [zerosL]
  | succ n ih =>
    intro j
    simp only [zerosL]
    rcases Nat.lt_or_ge j z.length with hj | hj
    · rw [List.getElem?_append_left hj, if_pos (by rw [Nat.add_mul, Nat.one_mul]; omega), Nat.mod_eq_of_lt hj]
    · rw [List.getElem?_append_right hj, ih]
      have e1 : (j - z.length) % z.length = j % z.length := by
        conv => rhs; rw [← Nat.sub_add_cancel hj]
        rw [Nat.add_mod_right]
      rw [e1]
      have e2 : (j - z.length < n * z.length) = (j < (n + 1) * z.length) := by
        rw [Nat.add_mul, Nat.one_mul]; apply propext; omega
      simp only [e2]

theorem zerosL_one (v : Value) (n : Nat) : zerosL [v] n = List.replicate n v := by
  induction n with
  | zero => rfl
  | succ n ih => simp [zerosL, ih, List.replicate_succ]

theorem zerosL_eq (z : Array Value) (n : Nat) (hz : 0 < z.size) : (((Array.range (n * z.size)).map (z[· % z.size]!))).toList = zerosL z.toList n := by
  apply List.ext_getElem?
  intro j
  rw [zerosL_get]
  simp only [Array.toList_map, List.getElem?_map, Array.length_toList, Array.toList_range]
  by_cases hj : j < n * z.size
  · rw [if_pos hj, List.getElem?_range hj]
    have hm : j % z.size < z.size := Nat.mod_lt _ hz
    simp [hm]
  · rw [if_neg hj, List.getElem?_eq_none (by simp; omega)]
    rfl

/-- A new row in a new block. -/
theorem row_ok (hr : HRel base ι h w) (hbase : base ≤ w.heap.size) {cn : List Value} {cs' : Array Value} {el : TypeId} {sz n : Nat} (hlen : cn.length ≤ cs'.size) (hcell : ∀ x ∈ cn, isCell x = true)
    (hv : ∀ (i : Nat) v v', cn[i]? = some v → cs'[i]? = some v' → VRel ι v v') :
    let w' : World := { w with heap := w.heap.push (.cells cs' el), drawn := n }
    let en : Ext := ⟨w.heap.size, 0, cs'.size, sz⟩
    HRel base (ι.add h.n en) (h.new (.cells sz false h.n none 0 cn)) w' ∧ Keeps ι h (h.new (.cells sz false h.n none 0 cn)) w w' ∧ More base ι (ι.add h.n en) h (h.new (.cells sz false h.n none 0 cn)) w := by
  intro w' en
  have hc : ∀ i, i < cs'.size → w'.cell? ⟨w.heap.size, 0 + i, none⟩ = cs'[i]? ∧ w'.frozen? ⟨w.heap.size, 0 + i, none⟩ = false := by
    intro i hi
    refine ⟨?_, ?_⟩
    · simp only [World.cell?, w', Array.getElem?_push_size]
      simp
    · simp only [World.frozen?, w', Array.getElem?_push_size]
      simp
  refine new_ok hr hbase (Turned.push w _ _) (en := en) ⟨Nat.le_refl _, by simp [w', en]⟩ rfl hlen hcell (fun i v hi => ?_) (fun i hi => ?_)
  · have hlt := (List.getElem?_eq_some_iff.1 hi).1
    have hlt' : i < cs'.size := by omega
    exact ⟨cs'[i], by rw [(hc i hlt').1]; exact Array.getElem?_eq_getElem hlt', hv i v _ hi (Array.getElem?_eq_getElem hlt')⟩
  · exact ⟨⟨cs'[i], by rw [(hc i hi).1]; exact Array.getElem?_eq_getElem hi⟩, (hc i hi).2⟩

theorem newA_ok (hr : HRel base ι h w) (hbase : base ≤ w.heap.size) {x x' : Value} {el : TypeId} (hx : VRel ι x x') (hc : x.cells.all isCell = true) :
    ∃ v' w', (do pure (Value.pointer (some (← newVar el x'))) : Sem Value).run P w = .ok v' w' ∧ Done base ι h (newA h x.cells).2 w w' (newA h x.cells).1 v' := by
  obtain ⟨hn, hrel⟩ := hx.cells
  obtain ⟨h1, h2, h3⟩ := row_ok (el := el) (sz := 0) (n := w.drawn) hr hbase (cn := x.cells.toList) (cs' := x'.cells) (by simp [hn])
    (fun y hy => Array.all_eq_true_iff_forall_mem.1 hc y (Array.mem_toList_iff.1 hy)) (fun i v v' a b => hrel i v v' (by simpa using a) b)
  refine ⟨.pointer (some ⟨w.heap.size, 0, none⟩), _, rfl, _, h3, ?_, h1, h2⟩
  have : (ι.add h.n ⟨w.heap.size, 0, x'.cells.size, 0⟩) h.n = some ⟨w.heap.size, 0, x'.cells.size, 0⟩ := by simp [Lay.add]
  exact .ptr this

theorem make_ok (hr : HRel base ι h w) (hbase : base ≤ w.heap.size) {t : TypeId} {n v : Value} (hv : makeA P h t n = some (v, h')) :
    ∃ v' w', (Instr.makeSlice t n n).run P w = .ok v' w' ∧ Done base ι h h' w w' v v' := by
  unfold makeA at hv
  split at hv
  · rename_i i el hel
    split at hv
    · rename_i sz by_ z hs hb hz
      split at hv
      · rename_i hc
        obtain ⟨h0, hlt, hby, hzs, hpos⟩ := hc
        injection hv with hv
        injection hv with hv1 hv2
        subst hv1 hv2
        obtain ⟨hz1, hz2⟩ := zero_run hz w
        obtain ⟨ti, hti, htb⟩ := bytes_run hb
        have hw : IntKind.i64.wrap i = i := IntWalk.i64_in i (by omega)
        have hto : ((i.toNat : Nat) : Int) = i := Int.toNat_of_nonneg h0
        have hrow := row_ok (el := el) (sz := sz) (n := w.drawn) hr hbase (cn := zerosL z.cells.toList i.toNat) (cs' := (Array.range (i.toNat * sz)).map (z.cells[· % z.cells.size]!))
          (by rw [← zerosL_eq z.cells i.toNat (by omega), hzs]; simp) (fun y hy => ?_) (fun j v v' hj hj' => ?_)
        · obtain ⟨r1, r2, r3⟩ := hrow
          refine ⟨.slice (some ⟨w.heap.size, 0, none⟩) i.toNat i.toNat, _, ?_, _, r3, ?_, r1, r2⟩
          · simp only [Instr.makeSlice, Sem.run_bind, under_run (elem_run hel), Result.andThen_ok, asInt, asIntOf, Sem.run_pure, hti, htb, hw]
            rw [if_neg (by
              simp only [Bool.or_eq_true, decide_eq_true_eq, not_or]
              have : (by_ : Int) * i = i * by_ := Int.mul_comm _ _
              omega)]
            simp only [Sem.run_bind, run_askRoom, Result.andThen_ok, sizeOf_run hs, newRow]
            split
            · rename_i h00
              have e0 : ∀ (f g : Nat → Value), (Array.range (i.toNat * sz)).map f = (Array.range (i.toNat * sz)).map g := fun f g => by rw [h00]; simp
              simp only [Sem.run_bind, Sem.run_pure, Result.andThen_ok, run_newObj]
              rw [e0 _ (z.cells[· % z.cells.size]!)]
            · simp only [Sem.run_bind, hz1, Result.andThen_ok, Sem.run_pure, run_newObj]
          · refine .slice (e := ⟨w.heap.size, 0, ((Array.range (i.toNat * sz)).map (z.cells[· % z.cells.size]!)).size, sz⟩) (o := 0) (by simp [Lay.add]) (Nat.le_refl _) ?_
            simp
        · rw [← zerosL_eq z.cells i.toNat (by omega)] at hy
          have hy' := Array.mem_toList_iff.1 hy
          obtain ⟨j, _, rfl⟩ := Array.mem_map.1 hy'
          have hm : j % z.cells.size < z.cells.size := Nat.mod_lt _ (by omega)
          have hp := Array.all_eq_true_iff_forall_mem.1 hz2 (z.cells[j % z.cells.size]!) (by simp [hm])
          revert hp
          generalize z.cells[j % z.cells.size]! = u
          cases u <;> simp [plain1, isCell]
        · have e1 : ((Array.range (i.toNat * sz)).map (z.cells[· % z.cells.size]!))[j]? = some v := by
            rw [← zerosL_eq z.cells i.toNat (by omega), hzs] at hj
            rw [hzs, ← Array.getElem?_toList]
            exact hj
          obtain rfl := Option.some.inj (e1.symm.trans hj')
          refine .atom ?_
          obtain ⟨q, _, rfl⟩ := Array.mem_map.1 (Array.mem_of_getElem? e1)
          have hm : q % z.cells.size < z.cells.size := Nat.mod_lt _ (by omega)
          exact Array.all_eq_true_iff_forall_mem.1 hz2 _ (by simp [hm])
      · cases hv
    · cases hv
  · cases hv

end Go.Proofs.Ytjmklialkjncaaa.Eng

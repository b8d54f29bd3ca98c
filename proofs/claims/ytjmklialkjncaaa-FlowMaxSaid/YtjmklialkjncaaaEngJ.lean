/- Append, as a whole. Own work; no condition. -/
import Derived.Test.YtjmklialkjncaaaEngI
set_option linter.unusedVariables false
set_option linter.unusedSimpArgs false
namespace Go.Proofs.Ytjmklialkjncaaa.Eng

variable {P : Program} {base : Nat} {ι : Lay} {h h' : AHeap} {w : World}

/-- The append within the capacity. -/
theorem room_run {t el : TypeId} {sz n l c' : Nat} {x' : Value} {A : Option Addr} {new' : Array Value} {args : Array TypeId} {ty : TypeId} {w' : World} (hel : elemOf P t = some el) (hs : szOf P el = some sz)
    (ht : args[0]? = some t) (hx : ∃ xt d, args[1]? = some xt ∧ P.underlying xt = some d ∧ ((∃ e', d = .slice e') ∨ d = .string))
    (hlen : (Builtin.lenOf x').run P w = .ok n w) (hneed : l + n ≤ c') (hnew : (Builtin.firstCells sz n x').run P w = .ok new' w)
    (hst : ∀ a, A = some a → (storeCells (a.add (l * sz)) new'.toList).run P w = .ok () w') (hno : A = none → w' = w) :
    (Builtin.append_ args ty #[.slice A l c', x']).run P w = .ok (.slice A (l + n) c') w' := by
  obtain ⟨xt, d, hxt, hd, hdi⟩ := hx
  have hu := elem_run hel
  rcases hdi with ⟨e', rfl⟩ | rfl
  all_goals
    simp only [Builtin.append_, ht, hxt, List.getElem?_toArray, List.getElem?_cons_zero, List.getElem?_cons_succ, Sem.run_bind, under_run hu, under_run hd, Result.andThen_ok, sizeOf_run hs, Sem.run_pure, Bool.false_eq_true, if_false, hlen, Bool.not_false, if_true, hneed, hnew]
    cases A with
    | none => obtain rfl := hno rfl; rfl
    | some a => simp only [Sem.run_bind, hst a rfl, Result.andThen_ok, Sem.run_pure]

theorem append_ok (hr : HRel base ι h w) (hbase : base ≤ w.heap.size) {t : TypeId} {s s' x x' v : Value} {args : Array TypeId} {ty : TypeId} (hv : appendA P h t s x = some (v, h')) (hs0 : VRel ι s s') (hx0 : VRel ι x x')
    (ht : args[0]? = some t) (hx : ∃ xt d, args[1]? = some xt ∧ P.underlying xt = some d ∧ ((∃ e', d = .slice e') ∨ d = .string)) :
    ∃ v' w', (Builtin.append_ args ty #[s', x']).run P w = .ok v' w' ∧ Done base ι h h' w w' v v' := by
  unfold appendA at hv
  split at hv
  · cases hv
  rename_i el hel
  split at hv
  case h_2 => cases hv
  rename_i sz by_ hs hb
  split at hv
  case h_2 => cases hv
  rename_i n new zs hsrc hzs
  split at hv
  · cases hv
  rename_i hzs2
  have hz : ∃ z, zeroOf P el = some z ∧ z.cells.size = sz := by
    cases hzz : zeroOf P el with
    | none => rw [hzz] at hzs; cases hzs
    | some z =>
      rw [hzz] at hzs
      simp only [Option.map_some, Option.some.injEq] at hzs
      exact ⟨z, rfl, by omega⟩
  obtain ⟨hnl, hncell, hlen, new', hn1, hn2, hn3⟩ := src_ok (P := P) hr hsrc hx0
  split at hv
  · -- a nil slice
    obtain rfl := hs0.plain rfl
    split at hv
    · rename_i hn0; subst hn0
      injection hv with hv; injection hv with hv1 hv2; subst hv1 hv2
      refine ⟨_, w, room_run (A := none) (l := 0) (c' := 0) (w' := w) hel hs ht hx (hlen w) (Nat.le_refl _) (hn3 w fun _ _ _ h => h) (fun a ha => by cases ha) (fun _ => rfl), ?_⟩
      exact Done.same hr (.atom rfl)
    · rename_i hn0
      split at hv
      · rename_i hc
        obtain ⟨hfit, hpos2, hpos⟩ := hc
        injection hv with hv; injection hv with hv1 hv2; subst hv1 hv2
        obtain ⟨cap, rest, ⟨hcap1, hcap2⟩, cs', hcs1, hcs2, hcs3, d, hrun⟩ := grow_run (w := w) (l := 0) (c' := 0) (A := none) (old' := #[]) (new' := new') (ty := ty) (s' := .slice none 0 0) hel hs hb ht hx rfl hz (hlen w) (by omega) (by simpa using hfit) hpos hpos2
          (fun _ _ => rfl) hn3 ⟨by simp, by rw [hn1, hnl]⟩
        obtain ⟨r1, r2, r3⟩ := row_ok (el := el) (sz := sz) (n := d) hr hbase (cn := new) (cs' := cs') (by simp at hcs1; omega) hncell (fun i y y' hy hy' => by
          have hi := (List.getElem?_eq_some_iff.1 hy).1
          have := hcs3 i (by omega)
          simp only [Array.size_empty, Nat.zero_add] at this
          exact hn2 i y y' hy (by rw [← this]; exact hy'))
        refine ⟨_, _, by simpa using hrun, _, r3, ?_, r1, r2⟩
        refine .slice (e := ⟨w.heap.size, 0, cs'.size, sz⟩) (o := 0) (by simp [Lay.add]) (by omega) ?_
        simp only [Array.size_empty] at hcap2 hcs1
        simp only [Nat.zero_add]
        omega
      · cases hv
  · -- a slice
    rename_i b off l c0
    split at hv
    · rename_i sz' f k c ho
      split at hv
      · rename_i hc
        obtain ⟨rfl, hend, hfit, hpos2, hpos⟩ := hc
        injection hv with hv; injection hv with hv1 hv2; subst hv1 hv2
        obtain ⟨e, he, hcase⟩ := hs0.slice_inv
        obtain ⟨hesz, hecap, hebase, hecell⟩ := hr.szs b e _ _ _ _ _ _ he ho
        have hrd : h.rd b = some c := by unfold AHeap.rd; rw [ho]
        obtain ⟨cl, q1, q2, q3⟩ := hr.list he hrd
        have hcellc : ∀ y ∈ c.drop off ++ new, isCell y = true := fun y hy => by
          rcases List.mem_append.1 hy with hy | hy
          · exact hecell y (List.mem_of_mem_drop hy)
          · exact hncell y hy
        have hdl : (c.drop off).length = l * sz' := by simp; omega
        rcases hcase with ⟨c', rfl, h1, h2⟩ | ⟨A, rfl, rfl⟩
        · by_cases hneed : l + n ≤ c'
          · -- in place
            have hmul : (l + n) * sz' ≤ c' * sz' := Nat.mul_le_mul_right _ hneed
            rw [Nat.add_mul] at hmul
            obtain ⟨w', hrun, hw⟩ := run_storeCells (P := P) e.block (e.off + off + l * sz') new'.toList 0 w (fun y hy => by
              obtain ⟨i, hi, rfl⟩ := List.mem_iff_getElem.1 hy
              have hi' : i < new.length := by simpa [hn1] using hi
              exact (hn2 i new[i] _ (List.getElem?_eq_getElem hi') (by simp)).cellOf (hncell _ (List.getElem_mem hi'))) (fun j hj => by
              have hj' : j < new.length := by simpa [hn1] using hj
              have := hr.room b e _ _ _ _ _ (off + l * sz' + j) he ho (by rw [hesz] at h2; omega)
              rw [Nat.zero_add, show e.off + off + l * sz' + j = e.off + (off + l * sz' + j) by omega]
              exact this)
            rw [Nat.add_zero] at hw
            have hT : Turned w w' fun B o => B = e.block ∧ e.off + c.length ≤ o ∧ o < e.off + e.cap := hw.turned.mono fun B o hz => by
              simp only [Array.length_toList, hn1] at hz
              rw [hesz] at h2
              exact ⟨hz.1, by omega, by omega⟩
            obtain ⟨r1, r2, r3⟩ := app_ok (cn := c.drop off ++ new) hr hbase he ho hT (en := ⟨e.block, e.off + off, c' * sz', sz'⟩) (.inr ⟨rfl, by simp, by simp only; rw [hesz] at h2; omega, by simp only [List.length_append, hdl]; omega⟩) rfl (by simp only [List.length_append, hdl]; omega) hcellc
              (fun i y hy => by
                rcases Nat.lt_or_ge i (l * sz') with hi | hi
                · rw [List.getElem?_append_left (by omega), List.getElem?_drop] at hy
                  obtain ⟨y', hy1, hy2⟩ := hr.val b e c (off + i) y he hrd hy
                  refine ⟨y', hT.cell _ _ _ (by rw [Nat.add_assoc]; exact hy1) ?_, hy2⟩
                  rintro ⟨_, q, _⟩
                  simp only at q
                  omega
                · rw [List.getElem?_append_right (by omega), hdl] at hy
                  have hi' := (List.getElem?_eq_some_iff.1 hy).1
                  obtain ⟨⟨u, hu⟩, _⟩ := hr.room b e _ _ _ _ _ (off + i) he ho (by rw [hesz] at h2; omega)
                  have h3 := hw.cell _ _ _ hu
                  rw [if_pos ⟨rfl, by omega, by simp only [Array.length_toList, hn1]; omega⟩] at h3
                  have h4 : e.off + (off + i) - (e.off + off + l * sz') = i - l * sz' := by omega
                  rw [h4] at h3
                  have h5 : i - l * sz' < new'.size := by omega
                  refine ⟨_, by rw [Nat.add_assoc]; exact h3, ?_⟩
                  have h6 : new'.toList.getD (i - l * sz') u = new'[i - l * sz'] := by simp [List.getD_eq_getElem?_getD, h5]
                  rw [h6]
                  exact hn2 _ y _ hy (Array.getElem?_eq_getElem h5))
              (fun i hi => by
                simp only at hi ⊢
                have := hr.room b e _ _ _ _ _ (off + i) he ho (by rw [hesz] at h2; omega)
                rw [← Nat.add_assoc] at this
                obtain ⟨⟨u, hu⟩, hf⟩ := this
                obtain ⟨h3, h4⟩ := hT.there _ _ _ hu
                exact ⟨h3, by rw [h4]; exact hf⟩)
            refine ⟨_, w', room_run (A := some ⟨e.block, e.off + off, none⟩) (w' := w') hel hs ht hx (hlen w) hneed (hn3 w fun _ _ _ h => h) (fun a ha => by
              injection ha with ha; subst ha
              rw [addr_add]; exact hrun) (fun ha => by cases ha), _, r3, ?_, r1, r2⟩
            have := VRel.slice (ι := ι.add h.n ⟨e.block, e.off + off, c' * sz', sz'⟩) (b := h.n) (o := 0) (l := l + n) (c := l + n) (c' := c') (e := ⟨e.block, e.off + off, c' * sz', sz'⟩) (by simp [Lay.add]) hneed (by simp)
            simpa using this
          · -- in a new block
            have hold : ∀ w1 : World, (∀ B o u, w.cell? ⟨B, o, none⟩ = some u → w1.cell? ⟨B, o, none⟩ = some u) → (Builtin.firstCells sz' l (.slice (some ⟨e.block, e.off + off, none⟩) l c')).run P w1 = .ok ((cl.drop off).take (l * sz')).toArray w1 := by
              intro w1 hw1
              have := run_loadCells (P := P) (w := w1) ⟨e.block, e.off + off, none⟩ (l * sz') 0 #[] ((cl.drop off).take (l * sz')) (by simp; omega) (fun j u hj => by
                rw [addr_add, Nat.zero_add, show e.off + off + j = e.off + (off + j) by omega]
                rw [List.getElem?_take] at hj
                split at hj
                · rw [List.getElem?_drop] at hj; exact hw1 _ _ _ (q2 _ _ hj)
                · cases hj)
              simpa [Builtin.firstCells, loadCells] using this
            have hos : ((cl.drop off).take (l * sz')).toArray.size = l * sz' := by simp; omega
            obtain ⟨cap, rest, ⟨hcap1, hcap2⟩, cs', hcs1, hcs2, hcs3, d, hrun⟩ := grow_run (w := w) (l := l) (c' := c') (new' := new') (ty := ty) hel hs hb ht hx rfl hz (hlen w) hneed hfit hpos hpos2 hold hn3 ⟨hos, by rw [hn1, hnl]⟩
            have hT := (Turned.push w (.cells cs' el) d).mono (Z' := fun B o => B = e.block ∧ e.off + c.length ≤ o ∧ o < e.off + e.cap) fun _ _ hf => hf.elim
            have hcw : ∀ i, i < cs'.size → ({ w with heap := w.heap.push (.cells cs' el), drawn := d } : World).cell? ⟨w.heap.size, 0 + i, none⟩ = cs'[i]? ∧ ({ w with heap := w.heap.push (.cells cs' el), drawn := d } : World).frozen? ⟨w.heap.size, 0 + i, none⟩ = false := by
              intro i hi
              refine ⟨?_, ?_⟩
              · simp only [World.cell?, Array.getElem?_push_size]; simp
              · simp only [World.frozen?, Array.getElem?_push_size]; simp
            rw [hos] at hcs1 hcs2 hcs3 hcap2
            obtain ⟨r1, r2, r3⟩ := app_ok (cn := c.drop off ++ new) hr hbase he ho hT (en := ⟨w.heap.size, 0, cs'.size, sz'⟩) (.inl ⟨Nat.le_refl _, by simp⟩) rfl (by simp only [List.length_append, hdl]; omega) hcellc
              (fun i y hy => by
                have hil := (List.getElem?_eq_some_iff.1 hy).1
                simp only [List.length_append, hdl] at hil
                have hi1 : i < cs'.size := by omega
                refine ⟨cs'[i], by rw [(hcw i hi1).1]; exact Array.getElem?_eq_getElem hi1, ?_⟩
                rcases Nat.lt_or_ge i (l * sz') with hi | hi
                · rw [List.getElem?_append_left (by omega), List.getElem?_drop] at hy
                  have h3 := hcs2 i hi
                  rw [Array.getElem?_eq_getElem hi1] at h3
                  simp only [List.getElem?_toArray, List.getElem?_take, if_pos hi, List.getElem?_drop] at h3
                  exact q3 _ _ _ hy h3.symm
                · rw [List.getElem?_append_right (by omega), hdl] at hy
                  have h3 := hcs3 (i - l * sz') (by omega)
                  rw [show l * sz' + (i - l * sz') = i by omega, Array.getElem?_eq_getElem hi1] at h3
                  exact hn2 _ y _ hy h3.symm)
              (fun i hi => ⟨⟨cs'[i], by rw [(hcw i hi).1]; exact Array.getElem?_eq_getElem hi⟩, (hcw i hi).2⟩)
            refine ⟨_, _, hrun, _, r3, ?_, r1, r2⟩
            exact .slice (e := ⟨w.heap.size, 0, cs'.size, sz'⟩) (o := 0) (by simp [Lay.add]) hcap1 (by simp only [Nat.zero_add]; omega)
        · -- a slice without room at the end
          simp only [Nat.zero_mul, Nat.add_zero] at hend hdl
          have hd0 : c.drop off = [] := List.drop_eq_nil_of_le (by omega)
          by_cases hn0 : n = 0
          · subst hn0
            have hnew0 : new = [] := List.eq_nil_of_length_eq_zero (by simpa using hnl)
            subst hnew0
            have hn'0 : new' = #[] := Array.eq_empty_of_size_eq_zero (by simpa using hn1)
            have hT : Turned w w fun B o => B = e.block ∧ e.off + c.length ≤ o ∧ o < e.off + e.cap := ⟨rfl, rfl, rfl, Nat.le_refl _, fun _ _ _ => rfl, fun _ _ _ h _ => h, fun _ _ u h => ⟨⟨u, h⟩, rfl⟩⟩
            obtain ⟨r1, r2, r3⟩ := app_ok (cn := c.drop off ++ []) hr hbase he ho hT (en := ⟨e.block, e.off + off, 0, sz'⟩) (.inr ⟨rfl, by simp, by simp only; omega, by simp only [hd0, List.append_nil, List.length_nil]; omega⟩) rfl (by simp [hd0]) hcellc
              (fun i y hy => by rw [hd0] at hy; simp at hy) (fun i hi => by simp at hi)
            refine ⟨_, w, room_run (A := some A) (l := 0) (c' := 0) (w' := w) hel hs ht hx (hlen w) (Nat.le_refl _) (hn3 w fun _ _ _ h => h) (fun a ha => by rw [hn'0]; rfl) (fun ha => by cases ha), _, r3, ?_, r1, r2⟩
            exact .slice0 (e := ⟨e.block, e.off + off, 0, sz'⟩) (by simp [Lay.add])
          · obtain ⟨cap, rest, ⟨hcap1, hcap2⟩, cs', hcs1, hcs2, hcs3, d, hrun⟩ := grow_run (w := w) (l := 0) (c' := 0) (old' := #[]) (new' := new') (ty := ty) (s' := .slice (some A) 0 0) hel hs hb ht hx rfl hz (hlen w) (by omega) hfit hpos hpos2
              (fun w1 _ => by simp [Builtin.firstCells, loadCells, loadCellsFrom]) hn3 ⟨by simp, by rw [hn1, hnl]⟩
            have hT := (Turned.push w (.cells cs' el) d).mono (Z' := fun B o => B = e.block ∧ e.off + c.length ≤ o ∧ o < e.off + e.cap) fun _ _ hf => hf.elim
            have hcw : ∀ i, i < cs'.size → ({ w with heap := w.heap.push (.cells cs' el), drawn := d } : World).cell? ⟨w.heap.size, 0 + i, none⟩ = cs'[i]? ∧ ({ w with heap := w.heap.push (.cells cs' el), drawn := d } : World).frozen? ⟨w.heap.size, 0 + i, none⟩ = false := by
              intro i hi
              refine ⟨?_, ?_⟩
              · simp only [World.cell?, Array.getElem?_push_size]; simp
              · simp only [World.frozen?, Array.getElem?_push_size]; simp
            simp only [Array.size_empty, Nat.zero_add] at hcs1 hcs3 hcap1 hcap2
            obtain ⟨r1, r2, r3⟩ := app_ok (cn := c.drop off ++ new) hr hbase he ho hT (en := ⟨w.heap.size, 0, cs'.size, sz'⟩) (.inl ⟨Nat.le_refl _, by simp⟩) rfl (by simp only [hd0, List.nil_append]; omega) hcellc
              (fun i y hy => by
                rw [hd0, List.nil_append] at hy
                have hil := (List.getElem?_eq_some_iff.1 hy).1
                have hi1 : i < cs'.size := by omega
                have h3 := hcs3 i (by omega)
                rw [Array.getElem?_eq_getElem hi1] at h3
                exact ⟨cs'[i], by rw [(hcw i hi1).1]; exact Array.getElem?_eq_getElem hi1, hn2 _ y _ hy h3.symm⟩)
              (fun i hi => ⟨⟨cs'[i], by rw [(hcw i hi).1]; exact Array.getElem?_eq_getElem hi⟩, (hcw i hi).2⟩)
            refine ⟨_, _, hrun, _, r3, ?_, r1, r2⟩
            exact .slice (e := ⟨w.heap.size, 0, cs'.size, sz'⟩) (o := 0) (by simp [Lay.add]) (by omega) (by simp only [Nat.zero_add]; omega)
      · cases hv
    · cases hv
  · cases hv

end Go.Proofs.Ytjmklialkjncaaa.Eng

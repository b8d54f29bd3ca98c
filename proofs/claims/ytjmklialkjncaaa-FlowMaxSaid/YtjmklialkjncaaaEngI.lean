/- Append: the abstract machine's step is the model's. Own work; no condition. -/
import Derived.Test.YtjmklialkjncaaaEngH
set_option linter.unusedVariables false
set_option linter.unusedSimpArgs false
namespace Go.Proofs.Ytjmklialkjncaaa.Eng

variable {P : Program} {base : Nat} {ι : Lay} {h h' : AHeap} {w : World}

theorem src_ok (hr : HRel base ι h w) {sz n : Nat} {x x' : Value} {new : List Value} (hv : srcA h sz x = some (n, new)) (hx : VRel ι x x') :
    new.length = n * sz ∧ (∀ y ∈ new, isCell y = true) ∧ (∀ w1 : World, (Builtin.lenOf x').run P w1 = .ok n w1) ∧
    ∃ new' : Array Value, new'.size = new.length ∧ (∀ (i : Nat) y y', new[i]? = some y → new'[i]? = some y' → VRel ι y y') ∧
      ∀ w1 : World, (∀ B o u, w.cell? ⟨B, o, none⟩ = some u → w1.cell? ⟨B, o, none⟩ = some u) → (Builtin.firstCells sz n x').run P w1 = .ok new' w1 := by
  unfold srcA at hv
  split at hv
  · injection hv with hv; injection hv with h1 h2; subst h1 h2
    obtain rfl := hx.plain rfl
    exact ⟨by simp, by simp, fun _ => rfl, #[], rfl, by simp, fun _ _ => rfl⟩
  · rename_i b off l c0
    split at hv
    · rename_i c hc
      split at hv
      · rename_i hle
        injection hv with hv; injection hv with h1 h2; subst h1 h2
        obtain ⟨e, he, ⟨c', rfl, h1, h2⟩ | ⟨A, rfl, rfl⟩⟩ := hx.slice_inv
        · obtain ⟨cl, q1, q2, q3⟩ := hr.list he hc
          have hcell := (hr.isc he hc).1
          refine ⟨by simp; omega, fun y hy => hcell y (List.mem_of_mem_drop (List.mem_of_mem_take hy)), fun _ => rfl, ((cl.drop off).take (l * sz)).toArray, by simp; omega, fun i y y' hy hy' => ?_, fun w1 hw1 => ?_⟩
          · simp only [List.getElem?_toArray, List.getElem?_take] at hy hy'
            split at hy
            · rename_i hi
              rw [if_pos hi] at hy'
              rw [List.getElem?_drop] at hy hy'
              exact q3 _ _ _ hy hy'
            · cases hy
          · have := run_loadCells (P := P) (w := w1) ⟨e.block, e.off + off, none⟩ (l * sz) 0 #[] ((cl.drop off).take (l * sz)) (by simp; omega) (fun j u hj => by
              rw [addr_add, Nat.zero_add, show e.off + off + j = e.off + (off + j) by omega]
              rw [List.getElem?_take] at hj
              split at hj
              · rw [List.getElem?_drop] at hj; exact hw1 _ _ _ (q2 _ _ hj)
              · cases hj)
            simpa [Builtin.firstCells, loadCells] using this
        · refine ⟨by simp, by simp, fun _ => rfl, #[], by simp, by simp, fun w1 _ => ?_⟩
          simp [Builtin.firstCells, loadCells, loadCellsFrom]
      · cases hv
    · cases hv
  · rename_i s
    obtain rfl := hx.plain rfl
    split at hv
    · rename_i h1; subst h1
      injection hv with hv; injection hv with h1 h2; subst h1 h2
      have e1 : s.data.toList.length = s.size := by simp
      refine ⟨by simp, fun y hy => ?_, fun _ => rfl, s.data.map fun b => .int .u8 b.toNat, by simp, fun i y y' hy hy' => ?_, fun w1 _ => ?_⟩
      · obtain ⟨b, _, rfl⟩ := List.mem_map.1 hy; rfl
      · have e2 : (s.data.map fun b => (Value.int .u8 b.toNat))[i]? = some y := by
          rw [← Array.getElem?_toList, Array.toList_map]; exact hy
        obtain rfl := Option.some.inj (e2.symm.trans hy')
        obtain ⟨b, _, rfl⟩ := Array.mem_map.1 (Array.mem_of_getElem? e2)
        exact .atom rfl
      · have e3 : s.extract 0 s.size = s := by simp
        simp [Builtin.firstCells, e3]
    · cases hv
  · cases hv

theorem Turned.mono {w w' : World} {Z Z' : Nat → Nat → Prop} (hT : Turned w w' Z) (hZ : ∀ B o, Z B o → Z' B o) : Turned w w' Z' :=
  ⟨hT.os, hT.tape, hT.output, hT.size, fun B hB hn => hT.block B hB fun o hz => hn o (hZ B o hz), fun B o u hu hn => hT.cell B o u hu fun hz => hn (hZ B o hz), hT.there⟩

/-- The realloc's world. -/
theorem grow_run {t el : TypeId} {sz by_ n l c' : Nat} {s' x' : Value} {A : Option Addr} {old' new' : Array Value} {args : Array TypeId} {ty : TypeId} (hel : elemOf P t = some el) (hs : szOf P el = some sz)
    (hb : byOf P el = some by_) (ht : args[0]? = some t) (hx : ∃ xt d, args[1]? = some xt ∧ P.underlying xt = some d ∧ ((∃ e', d = .slice e') ∨ d = .string)) (hs' : s' = .slice A l c')
    (hz : ∃ z, zeroOf P el = some z ∧ z.cells.size = sz) (hlen : (Builtin.lenOf x').run P w = .ok n w) (hneed : ¬ l + n ≤ c') (hfit : fitsA by_ (l + n) = true) (hpos : 0 < by_) (hpos2 : 0 < sz)
    (hold : ∀ w1 : World, (∀ B o u, w.cell? ⟨B, o, none⟩ = some u → w1.cell? ⟨B, o, none⟩ = some u) → (Builtin.firstCells sz l s').run P w1 = .ok old' w1)
    (hnew : ∀ w1 : World, (∀ B o u, w.cell? ⟨B, o, none⟩ = some u → w1.cell? ⟨B, o, none⟩ = some u) → (Builtin.firstCells sz n x').run P w1 = .ok new' w1) (hsizes : old'.size = l * sz ∧ new'.size = n * sz) :
    ∃ cap rest, (l + n ≤ cap ∧ old'.size + new'.size + rest = cap * sz) ∧ ∃ cs' : Array Value, cs'.size = old'.size + new'.size + rest ∧ (∀ i, i < old'.size → cs'[i]? = old'[i]?) ∧ (∀ i, i < new'.size → cs'[old'.size + i]? = new'[i]?) ∧
      ∃ d, (Builtin.append_ args ty #[s', x']).run P w = .ok (.slice (some ⟨w.heap.size, 0, none⟩) (l + n) cap) { w with heap := w.heap.push (.cells cs' el), drawn := d } := by
  obtain ⟨xt, d, hxt, hd, hdi⟩ := hx
  obtain ⟨z, hz, hzs⟩ := hz
  obtain ⟨ti, hti, htb⟩ := bytes_run hb
  subst hs'
  simp only [fitsA, decide_eq_true_eq] at hfit
  have hgrow := growslice_fits (need := l + n) (old := c') (bytes := by_) (by omega) hfit
  have hsmall : l + n ≤ 140737488355328 := Nat.le_trans (Nat.le_mul_of_pos_right _ hpos) hfit
  let q := Question.appendCap (l + n) c' el
  let cap := q.cut (w.tape w.drawn q)
  have hcap : l + n ≤ cap := by show l + n ≤ (l + n) + _; omega
  refine ⟨cap, (cap - (l + n)) * sz, ⟨hcap, ?_⟩, old' ++ new' ++ Builtin.zeroCells z.cells (cap - (l + n)), ?_, fun i hi => ?_, fun i hi => ?_, w.drawn + 1, ?_⟩
  · rw [hsizes.1, hsizes.2, ← Nat.add_mul, ← Nat.add_mul]; congr 1; omega
  · simp [Builtin.zeroCells, hzs]; omega
  · rw [Array.append_assoc, Array.getElem?_append_left hi]
  · rw [Array.append_assoc, Array.getElem?_append_right (by omega), Array.getElem?_append_left (by omega)]
    congr 1; omega
  · have hu := elem_run hel
    have hz1 : ∀ w1 : World, (zeroValue el).run P w1 = .ok z w1 := fun w1 => (zero_run hz w1).1
    rcases hdi with ⟨e', rfl⟩ | rfl
    all_goals
      simp only [Builtin.append_, ht, hxt, List.getElem?_toArray, List.getElem?_cons_zero, List.getElem?_cons_succ, Sem.run_bind, under_run hu, under_run hd, Result.andThen_ok, sizeOf_run hs, Sem.run_pure, Bool.false_eq_true, if_false, hlen, Bool.not_false, if_true, hneed]
      rw [hti w]
      simp only [Result.andThen_ok]
      rw [if_neg (by rintro ⟨q1, _⟩; have : IntKind.i64.max = 9223372036854775807 := rfl; omega)]
      simp only [Sem.run_bind]
      rw [hti w]
      simp only [Result.andThen_ok, htb]
      rw [if_neg (by omega)]
      have hch : (choose (Question.appendCap (l + n) c' el)).run P w = .ok cap { w with drawn := w.drawn + 1 } := by
        rw [run_choose, if_neg (by simp [Question.forced])]
      simp only [Sem.run_bind, hch, Result.andThen_ok, hti, htb, run_askRoom, hold { w with drawn := w.drawn + 1 } (fun _ _ _ h => h), hnew { w with drawn := w.drawn + 1 } (fun _ _ _ h => h), hz1, newRow, run_newObj, Sem.run_pure]

end Go.Proofs.Ytjmklialkjncaaa.Eng

/- Literals and append: the abstract machine's step is the model's. Own work; no condition. -/
import Derived.Test.YtjmklialkjncaaaEngG
set_option linter.unusedVariables false
set_option linter.unusedSimpArgs false
namespace Go.Proofs.Ytjmklialkjncaaa.Eng

variable {P : Program} {base : Nat} {ι : Lay} {h h' : AHeap} {w : World}

theorem fill_seq (sz : Nat) : ∀ (ps : List (Nat × Value)) (m : Nat) (a : Array Value), (∀ (i : Nat) p, ps[i]? = some p → p.1 = m + i ∧ p.2.cells.size = sz) → a.size = (m + ps.length) * sz →
    ∃ r, Instr.fill (fun i => some (i * sz, sz)) a ps = some r ∧ r.toList = a.toList.take (m * sz) ++ (ps.map fun p => p.2.cells.toList).flatten := by
  intro ps
  induction ps with
  | nil => intro m a _ ha; exact ⟨a, rfl, by simp at ha; simp; rw [List.take_of_length_le (by simp; omega)]⟩
  | cons p ps ih =>
    intro m a hp ha
    obtain ⟨h1, h2⟩ := hp 0 p rfl
    obtain ⟨i, v⟩ := p
    simp only [Nat.add_zero] at h1 h2
    subst h1
    simp only [List.length_cons] at ha
    have hsz : i * sz + sz ≤ a.size := by
      rw [ha, show i + (ps.length + 1) = ps.length + (i + 1) by omega, Nat.add_mul, Nat.add_mul, Nat.one_mul]; omega
    obtain ⟨s1, g1⟩ := fill_step v.cells (i * sz) a (by omega)
    have hsp : (v.cells.zipIdx.foldl (fun a (p : Value × Nat) => a.setIfInBounds (i * sz + p.2) p.1) a).toList = splice a.toList (i * sz) v.cells.toList := by
      apply List.ext_getElem?
      intro j
      rw [getElem?_splice (by simp; omega)]
      simp only [Array.getElem?_toList, Array.length_toList]
      exact g1 j
    obtain ⟨r, hr1, hr2⟩ := ih (i + 1) (v.cells.zipIdx.foldl (fun a (p : Value × Nat) => a.setIfInBounds (i * sz + p.2) p.1) a) (fun j q hq => by
      have := hp (j + 1) q (by simpa using hq)
      exact ⟨by omega, this.2⟩) (by rw [s1, ha]; congr 1; omega)
    refine ⟨r, ?_, ?_⟩
    · simp only [Instr.fill]
      rw [if_neg (by simp only [ne_eq, Bool.or_eq_true, decide_eq_true_eq, not_or]; omega)]
      exact hr1
    · rw [hr2, hsp]
      simp only [List.map_cons, List.flatten_cons, ← List.append_assoc]
      congr 1
      unfold splice
      have e1 : (a.toList.take (i * sz)).length = i * sz := by simp; omega
      rw [Nat.add_mul, Nat.one_mul, List.append_assoc, List.take_append, e1, List.take_of_length_le (by omega), show i * sz + sz - i * sz = sz by omega, List.take_append]
      simp [h2]
      rw [List.take_of_length_le (by simp; omega)]

theorem lit_ok (hr : HRel base ι h w) (hbase : base ≤ w.heap.size) {t : TypeId} {len : Nat} {parts parts' : Array (Nat × Value)} {v : Value} (hv : litA P h t len parts = some (v, h')) (hl : parts'.size = parts.size)
    (hp : ∀ (i : Nat) p p', parts[i]? = some p → parts'[i]? = some p' → p'.1 = p.1 ∧ VRel ι p.2 p'.2) :
    ∃ v' w', (Instr.buildSlice t len parts').run P w = .ok v' w' ∧ Done base ι h h' w w' v v' := by
  unfold litA at hv
  split at hv
  · rename_i el hel
    split at hv
    · rename_i sz z hs hz
      split at hv
      · rename_i hc
        obtain ⟨hbig, hpos, hzs, hrange, hall⟩ := hc
        injection hv with hv
        injection hv with hv1 hv2
        subst hv1 hv2
        obtain ⟨hz1, hz2⟩ := zero_run hz w
        have hlen : parts.toList.length = len := by have := congrArg List.length hrange; simpa using this
        have hlen' : parts'.toList.length = len := by simpa [hl] using hlen
        have hidx : ∀ (i : Nat) p, parts.toList[i]? = some p → p.1 = i ∧ p.2.cells.size = sz ∧ p.2.cells.all isCell = true := by
          intro i p hpi
          have h1 : (parts.toList.map (·.1))[i]? = some p.1 := by rw [List.getElem?_map, hpi]; rfl
          rw [hrange] at h1
          have h2 := (List.getElem?_eq_some_iff.1 h1)
          obtain ⟨h3, h4⟩ := h2
          simp at h4
          have h5 := List.all_eq_true.1 hall p (List.mem_of_getElem? hpi)
          simp only [Bool.and_eq_true, beq_iff_eq] at h5
          exact ⟨h4.symm, h5.1, h5.2⟩
        have hrel : ∀ (i : Nat) p', parts'.toList[i]? = some p' → ∃ p, parts.toList[i]? = some p ∧ p'.1 = p.1 ∧ VRel ι p.2 p'.2 := by
          intro i p' hpi
          have hi : i < parts.toList.length := by
            have := (List.getElem?_eq_some_iff.1 hpi).1
            omega
          obtain ⟨h1, h2⟩ := hp i parts.toList[i] p' (by simp) (by simpa using hpi)
          exact ⟨_, List.getElem?_eq_getElem hi, h1, h2⟩
        have hseq := fill_seq sz parts'.toList 0 ((Array.range (len * sz)).map (z.cells[· % z.cells.size]!)) (fun i p' hpi => by
          obtain ⟨p, h1, h2, h3⟩ := hrel i p' hpi
          obtain ⟨h4, h5, _⟩ := hidx i p h1
          exact ⟨by omega, by rw [h3.cells.1]; exact h5⟩) (by simp [hlen'])
        obtain ⟨r, hr1, hr2⟩ := hseq
        simp only [Nat.zero_mul, List.take_zero, List.nil_append] at hr2
        -- the two rows, cell by cell
        have hflat : ∀ (ps ps' : List (Nat × Value)), ps'.length = ps.length → (∀ (i : Nat) p p', ps[i]? = some p → ps'[i]? = some p' → VRel ι p.2 p'.2 ∧ p.2.cells.all isCell = true) →
            ((ps'.map fun p => p.2.cells.toList).flatten.length = (ps.map fun p => p.2.cells.toList).flatten.length) ∧ (∀ x ∈ (ps.map fun p => p.2.cells.toList).flatten, isCell x = true) ∧
            ∀ (i : Nat) x x', (ps.map fun p => p.2.cells.toList).flatten[i]? = some x → (ps'.map fun p => p.2.cells.toList).flatten[i]? = some x' → VRel ι x x' := by
          intro ps
          induction ps with
          | nil =>
            intro ps' hl0 _
            obtain rfl := List.length_eq_zero_iff.1 hl0
            exact ⟨rfl, by simp, by simp⟩
          | cons p ps ih =>
            intro ps' hl0 hpp
            cases ps' with
            | nil => simp at hl0
            | cons p' ps' =>
              obtain ⟨hv0, hc0⟩ := hpp 0 p p' rfl rfl
              obtain ⟨hn, hcs⟩ := hv0.cells
              obtain ⟨i1, i2, i3⟩ := ih ps' (by simpa using hl0) (fun i q q' a b => hpp (i + 1) q q' (by simpa using a) (by simpa using b))
              simp only [List.map_cons, List.flatten_cons]
              refine ⟨by simp only [List.length_append, i1, Array.length_toList, hn], fun x hx => ?_, fun i x x' hx hx' => ?_⟩
              · rcases List.mem_append.1 hx with hx | hx
                · exact Array.all_eq_true_iff_forall_mem.1 hc0 x (Array.mem_toList_iff.1 hx)
                · exact i2 x hx
              · rcases Nat.lt_or_ge i p.2.cells.size with hi | hi
                · rw [List.getElem?_append_left (by simpa using hi)] at hx
                  rw [List.getElem?_append_left (by simpa [hn] using hi)] at hx'
                  exact hcs i x x' (by simpa using hx) (by simpa using hx')
                · rw [List.getElem?_append_right (by simpa using hi)] at hx
                  rw [List.getElem?_append_right (by simpa [hn] using hi)] at hx'
                  simp only [Array.length_toList] at hx hx'
                  rw [hn] at hx'
                  exact i3 _ x x' hx hx'
        obtain ⟨f1, f2, f3⟩ := hflat parts.toList parts'.toList (by omega) (fun i p p' a b => by
          obtain ⟨q, h1, h2, h3⟩ := hrel i p' b
          obtain rfl := Option.some.inj (a.symm.trans h1)
          exact ⟨h3, (hidx i p a).2.2⟩)
        have hrsize : r.size = (parts.toList.map fun p => p.2.cells.toList).flatten.length := by rw [← f1, ← hr2]; simp
        have hlensz : (parts.toList.map fun p => p.2.cells.toList).flatten.length = len * sz := by
          have hg : ∀ (ps : List (Nat × Value)), (∀ p ∈ ps, p.2.cells.size = sz) → (ps.map fun p => p.2.cells.toList).flatten.length = ps.length * sz := by
            intro ps
            induction ps with
            | nil => intro _; simp
            | cons p ps ih =>
              intro hps
              simp only [List.map_cons, List.flatten_cons, List.length_append, Array.length_toList, List.length_cons, Nat.add_mul, Nat.one_mul]
              rw [ih (fun q hq => hps q (List.mem_cons_of_mem _ hq)), hps p (by simp)]
              omega
          rw [hg _ (fun p hp => by have := List.all_eq_true.1 hall p hp; simp only [Bool.and_eq_true, beq_iff_eq] at this; exact this.1), hlen]
        obtain ⟨q1, q2, q3⟩ := row_ok (el := el) (sz := sz) (n := w.drawn) hr hbase (cn := (parts.toList.map fun p => p.2.cells.toList).flatten) (cs' := r) (by omega) f2
          (fun i x x' hx hx' => f3 i x x' hx (by rw [← hr2]; simpa using hx'))
        refine ⟨.slice (some ⟨w.heap.size, 0, none⟩) len len, _, ?_, _, q3, ?_, q1, q2⟩
        · simp only [Instr.buildSlice, Sem.run_bind, under_run (elem_run hel), Result.andThen_ok, sizeOf_run hs]
          rw [if_neg (by omega)]
          split
          · rename_i h00
            have e0 : ∀ (f g : Nat → Value), (Array.range (len * sz)).map f = (Array.range (len * sz)).map g := fun f g => by rw [h00]; simp
            simp only [Sem.run_bind, Sem.run_pure, Result.andThen_ok]
            rw [e0 _ (z.cells[· % z.cells.size]!), hr1]
            rfl
          · simp only [Sem.run_bind, hz1, Sem.run_pure, Result.andThen_ok]
            rw [hr1]
            rfl
        · refine .slice (e := ⟨w.heap.size, 0, r.size, sz⟩) (o := 0) (by simp [Lay.add]) (Nat.le_refl _) ?_
          simp only [Nat.zero_add]
          omega
      · cases hv
    · cases hv
  · cases hv

end Go.Proofs.Ytjmklialkjncaaa.Eng

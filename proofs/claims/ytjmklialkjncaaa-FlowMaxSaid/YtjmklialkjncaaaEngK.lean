/- Every operation of the abstract machine is what the model's operation does. Own work; no condition. -/
import Derived.Test.YtjmklialkjncaaaEngJ
set_option linter.unusedVariables false
set_option linter.unusedSimpArgs false
namespace Go.Proofs.Ytjmklialkjncaaa.Eng

variable {P : Program} {base : Nat} {ι : Lay} {h h' : AHeap} {w : World}

/-- What an operation comes to. -/
def Comes (P : Program) (base : Nat) (ι : Lay) (h h' : AHeap) (w : World) (v : Value) (s : Sem Next) : Prop :=
  ∃ v' w' nx, s.run P w = .ok nx w' ∧ (nx = .value v' ∨ (nx = .skip ∧ v' = Go.undef)) ∧ Done base ι h h' w w' v v'

theorem Comes.pure {hr : HRel base ι h w} {v v' : Value} {s : Sem Next} (he : s = (Pure.pure (Next.value v') : Sem Next)) (hv : VRel ι v v') : Comes P base ι h h w v s :=
  ⟨v', w, .value v', by rw [he]; rfl, .inl rfl, Done.same hr hv⟩

theorem Comes.of {v v' : Value} {w' : World} {s : Sem Value} {t : Sem Next} (ht : t = (s >>= fun x => Pure.pure (Next.value x))) (hs : s.run P w = .ok v' w') (hd : Done base ι h h' w w' v v') : Comes P base ι h h' w v t :=
  ⟨v', w', .value v', by rw [ht]; simp only [Sem.run_bind, hs, Result.andThen_ok, Sem.run_pure], .inl rfl, hd⟩

theorem scalar_ok {o : Oper} {ρ ρ' : Operand → Value} {v : Value} (hv : scalarA P o ρ = some v) (hρ : ∀ x ∈ o.op.operands, VRel ι (ρ x) (ρ' x)) : (execOp ρ' o).run P w = .ok (.value v) w ∧ plain1 v = true := by
  unfold scalarA at hv
  split at hv
  · rename_i hall
    split at hv
    · rename_i u hu
      split at hv
      · rename_i hp
        injection hv with hv; subst hv
        refine ⟨?_, hp⟩
        have hsame : ∀ x ∈ o.op.operands, ρ' x = ρ x := fun x hx => (hρ x hx).plain (Array.all_eq_true_iff_forall_mem.1 hall x hx)
        by_cases hsel : ∃ cs b, o.op = .select cs b
        · obtain ⟨cs, b, hs⟩ := hsel
          exfalso
          obtain ⟨dst, op, type, pos, after, guard⟩ := o
          simp only at hs
          subst hs
          simp only [execOp, purely_bind] at hu
          cases hm : purely P (cs.mapM fun s => do pure { chan := ρ s.chan, send := s.send.map ρ, zero := ← zeroValue s.elem : CommCase }) with
          | none => rw [hm] at hu; cases hu
          | some x => rw [hm] at hu; cases hu
        · rw [execOp_congr o (fun cs b hs => hsel ⟨cs, b, hs⟩) hsame]
          exact purely_run hu w
      · cases hv
    · cases hv
  · cases hv

theorem scalar_comes {o : Oper} {s : ASt} {ρ : Operand → Value} {v : Value} (hr : HRel base ι s.h w) (hv : (scalarA P o s.ev).map (·, s.h) = some (v, h')) (hρ : ∀ x ∈ o.op.operands, VRel ι (s.ev x) (ρ x)) :
    Comes P base ι s.h h' w v (execOp ρ o) := by
  cases hs : scalarA P o s.ev with
  | none => rw [hs] at hv; cases hv
  | some u =>
    rw [hs] at hv
    injection hv with hv; injection hv with h1 h2; subst h1 h2
    obtain ⟨h3, h4⟩ := scalar_ok (w := w) hs hρ
    exact ⟨u, w, _, h3, .inl rfl, Done.same hr (.atom h4)⟩

theorem map_pair {α : Type} {o : Option α} {g : AHeap} {v : α} {h' : AHeap} (hv : o.map (·, g) = some (v, h')) : o = some v ∧ h' = g := by
  cases o with
  | none => cases hv
  | some x => injection hv with hv; injection hv with h1 h2; subst h1 h2; exact ⟨rfl, rfl⟩

theorem pairs_rel {parts : Array (Nat × Operand)} {f g : Operand → Value} (hf : ∀ p ∈ parts, VRel ι (f p.2) (g p.2)) :
    (parts.map fun (i, x) => (i, g x)).size = (parts.map fun (i, x) => (i, f x)).size ∧
    ∀ (i : Nat) (p p' : Nat × Value), (parts.map fun (i, x) => (i, f x))[i]? = some p → (parts.map fun (i, x) => (i, g x))[i]? = some p' → p'.1 = p.1 ∧ VRel ι p.2 p'.2 := by
  refine ⟨by simp, fun i p p' hp hp' => ?_⟩
  simp only [Array.getElem?_map] at hp hp'
  cases hq : parts[i]? with
  | none => rw [hq] at hp; cases hp
  | some q =>
    rw [hq] at hp hp'
    simp only [Option.map_some, Option.some.injEq] at hp hp'
    subst hp hp'
    exact ⟨rfl, hf q (Array.mem_of_getElem? hq)⟩

theorem parts_mem {ps : Array (Nat × Operand)} {p : Nat × Operand} (hp : p ∈ ps) : p.2 ∈ (ps.toList.map (·.2)).toArray := by
  rw [List.mem_toArray]
  exact List.mem_map.2 ⟨p, Array.mem_toList_iff.2 hp, rfl⟩

theorem aop_ok {o : Oper} {s : ASt} {v : Value} {ρ : Operand → Value} (hv : aop P o s = some (v, h')) (hr : HRel base ι s.h w) (hbase : base ≤ w.heap.size) (hρ : ∀ x ∈ o.op.operands, VRel ι (s.ev x) (ρ x)) :
    Comes P base ι s.h h' w v (execOp ρ o) := by
  have hv0 := hv
  unfold aop at hv
  simp only at hv
  obtain ⟨dst, op, type, pos, after, guard⟩ := o
  simp only at hρ hv
  split at hv
  · -- move
    rename_i x
    injection hv with hv; injection hv with h1 h2; subst h1 h2
    exact Comes.pure (hr := hr) rfl (hρ x (by simp [Op.operands]))
  · rename_i x
    injection hv with hv; injection hv with h1 h2; subst h1 h2
    exact Comes.pure (hr := hr) rfl (hρ x (by simp [Op.operands]))
  · -- pick
    rename_i c a b
    have hc := hρ c (by simp [Op.operands])
    split at hv
    · rename_i hb
      injection hv with hv; injection hv with h1 h2; subst h1 h2
      rw [hb] at hc
      have hc' := hc.plain rfl
      exact ⟨ρ a, w, .value (ρ a), by simp only [execOp, hc', asBool, Sem.run_bind, Sem.run_pure, Result.andThen_ok, if_true], .inl rfl, Done.same hr (hρ a (by simp [Op.operands]))⟩
    · rename_i hb
      injection hv with hv; injection hv with h1 h2; subst h1 h2
      rw [hb] at hc
      have hc' := hc.plain rfl
      exact ⟨ρ b, w, .value (ρ b), by simp only [execOp, hc', asBool, Sem.run_bind, Sem.run_pure, Result.andThen_ok, Bool.false_eq_true, if_false], .inl rfl, Done.same hr (hρ b (by simp [Op.operands]))⟩
    · cases hv
  · -- alloc
    rename_i t
    cases hz : zeroOf P t with
    | none => rw [hz] at hv; cases hv
    | some z =>
      rw [hz] at hv
      injection hv with hv; injection hv with h1 h2; subst h1 h2
      obtain ⟨hz1, hz2⟩ := zero_run hz w
      have hrel : VRel ι z z := by
        cases z <;> first | exact .const hz2 | exact .atom (by simpa [Value.cells] using hz2)
      have hcell : z.cells.all isCell = true := by
        rw [Array.all_eq_true_iff_forall_mem] at hz2 ⊢
        intro x hx
        have := hz2 x hx
        revert this
        cases x <;> simp [plain1, isCell]
      obtain ⟨v', w', hrun, hd⟩ := newA_ok (P := P) (el := t) hr hbase hrel hcell
      refine Comes.of (s := Instr.alloc t true (.tuple #[])) rfl (v' := v') ?_ hd
      simp only [Instr.alloc, Sem.run_bind, hz1, Result.andThen_ok]
      exact hrun
  · -- box
    rename_i t x
    split at hv
    · rename_i hc
      injection hv with hv; injection hv with h1 h2; subst h1 h2
      obtain ⟨v', w', hrun, hd⟩ := newA_ok (P := P) (el := t) hr hbase (hρ x (by simp [Op.operands])) hc
      exact Comes.of (s := Instr.box t (ρ x)) rfl hrun hd
    · cases hv
  · -- build
    rename_i t parts
    obtain ⟨hb, rfl⟩ := map_pair hv
    obtain ⟨p1, p2⟩ := pairs_rel (ι := ι) (parts := parts) (f := s.ev) (g := ρ) fun p hp => hρ p.2 (parts_mem hp)
    obtain ⟨v', hrun, hv'⟩ := build_ok (w := w) hb p1 p2
    exact Comes.of rfl hrun (Done.same hr hv')
  · -- buildSlice
    rename_i t len parts
    obtain ⟨p1, p2⟩ := pairs_rel (ι := ι) (parts := parts) (f := s.ev) (g := ρ) fun p hp => hρ p.2 (parts_mem hp)
    obtain ⟨v', w', hrun, hd⟩ := lit_ok hr hbase hv p1 p2
    exact Comes.of rfl hrun hd
  · -- load
    rename_i t x
    split at hv
    · rename_i b off hb
      obtain ⟨hl, rfl⟩ := map_pair hv
      have hx := hρ x (by simp [Op.operands])
      rw [hb] at hx
      obtain ⟨e, he, hx'⟩ := hx.ptr_inv
      obtain ⟨v', hrun, hv'⟩ := load_ok (P := P) hr he hl
      refine Comes.of (s := Instr.loadAt t (ρ x)) rfl (v' := v') ?_ (Done.same hr hv')
      simp only [Instr.loadAt, hx', Instr.sureAddr, Sem.run_bind, Sem.run_pure, Result.andThen_ok]
      exact hrun
    · cases hv
  · -- store
    rename_i t x y
    split at hv
    · rename_i b off hb
      have hx := hρ x (by simp [Op.operands])
      rw [hb] at hx
      obtain ⟨e, he, hx'⟩ := hx.ptr_inv
      cases hst : storeA P s.h t b off (s.ev y) with
      | none => rw [hst] at hv; cases hv
      | some h1 =>
        rw [hst] at hv
        injection hv with hv; injection hv with e1 e2; subst e1 e2
        obtain ⟨w', hrun, r1, r2, r3⟩ := store_ok (P := P) hr he hst (hρ y (by simp [Op.operands]))
        refine ⟨Go.undef, w', .skip, ?_, .inr ⟨rfl, rfl⟩, ι, r3, VRel.undef, r1, r2⟩
        simp only [execOp, Instr.storeAt, hx', Instr.sureAddr, Sem.run_bind, Sem.run_pure, Result.andThen_ok]
        rw [hrun]; rfl
    · cases hv
  · -- nilCheck
    rename_i x
    split at hv
    · rename_i a hb
      injection hv with hv; injection hv with h1 h2; subst h1 h2
      have hx := hρ x (by simp [Op.operands])
      rw [hb] at hx
      generalize hvx : ρ x = vx at hx
      cases hx with
      | atom h => simp [plain1] at h
      | ptr he => exact Comes.pure (hr := hr) (by simp only [execOp, hvx]) (.ptr he)
    · cases hv
  · -- makeFunc
    rename_i f first captured
    injection hv with hv; injection hv with h1 h2; subst h1 h2
    refine Comes.pure (hr := hr) (v' := .func (.func f) (first.map ρ) (captured.map ρ)) rfl ?_
    obtain ⟨a1, a2⟩ := ARel.map (ι := ι) (f := s.ev) (g := ρ) (xs := first) fun x hx => hρ x (by simp [Op.operands, hx])
    obtain ⟨b1, b2⟩ := ARel.map (ι := ι) (f := s.ev) (g := ρ) (xs := captured) fun x hx => hρ x (by simp [Op.operands, hx])
    exact .func a1.symm a2 b1.symm b2
  · -- makeSlice
    rename_i t n c
    split at hv
    · rename_i a b hn hc
      split at hv
      · rename_i hab
        subst hab
        have hx := hρ n (by simp [Op.operands])
        have hy := hρ c (by simp [Op.operands])
        rw [hn] at hx
        rw [hc] at hy
        obtain ⟨v', w', hrun, hd⟩ := make_ok hr hbase hv
        refine Comes.of (s := Instr.makeSlice t (ρ n) (ρ c)) rfl (v' := v') ?_ hd
        rw [hx.plain rfl, hy.plain rfl]; exact hrun
      · cases hv
    · cases hv
  · -- slice
    rename_i t x lo hi
    obtain ⟨hsl, rfl⟩ := map_pair hv
    have ho : ∀ (o : Option Operand), (∀ x, o = some x → VRel ι (s.ev x) (ρ x)) → ORel ι (o.map s.ev) (o.map ρ) := by
      intro o ho
      cases o with
      | none => trivial
      | some x => exact ho x rfl
    obtain ⟨v', hrun, hv'⟩ := slice_ok (P := P) hr hsl (hρ x (by simp [Op.operands])) (ho lo fun y hy => hρ y (by simp [Op.operands, hy])) (ho hi fun y hy => hρ y (by simp [Op.operands, hy]))
    exact Comes.of rfl hrun (Done.same hr hv')
  · -- fieldAddr
    rename_i t x f
    obtain ⟨hf, rfl⟩ := map_pair hv
    obtain ⟨v', hrun, hv'⟩ := fieldA_ok (w := w) hf (hρ x (by simp [Op.operands]))
    exact Comes.of rfl hrun (Done.same hr hv')
  · rename_i t x f
    obtain ⟨hf, rfl⟩ := map_pair hv
    obtain ⟨v', hrun, hv'⟩ := fieldOf_ok (w := w) hf (hρ x (by simp [Op.operands]))
    exact Comes.of rfl hrun (Done.same hr hv')
  · rename_i t x i
    obtain ⟨hf, rfl⟩ := map_pair hv
    obtain ⟨v', hrun, hv'⟩ := indexA_ok (w := w) hf (hρ x (by simp [Op.operands])) (hρ i (by simp [Op.operands]))
    exact Comes.of rfl hrun (Done.same hr hv')
  · -- extract
    rename_i x i
    split at hv
    · rename_i vs hb
      obtain ⟨hf, rfl⟩ := map_pair hv
      have hx := hρ x (by simp [Op.operands])
      rw [hb] at hx
      generalize hvx : ρ x = vx at hx
      cases hx with
      | atom h => simp [plain1] at h
      | tuple h1 h2 =>
        rename_i ys
        obtain ⟨hi, _⟩ := Array.getElem?_eq_some_iff.1 hf
        have hi' : i < ys.size := by omega
        refine Comes.of (s := Instr.extract (ρ x) i) rfl (v' := ys[i]) ?_ (Done.same hr (h2 i v _ hf (Array.getElem?_eq_getElem hi')))
        rw [hvx]
        simp only [Instr.extract, Array.getElem?_eq_getElem hi', Sem.run_pure]
    · cases hv
  · -- len
    rename_i args argTypes
    split at hv
    · rename_i x t ha ht
      obtain ⟨hl, rfl⟩ := map_pair hv
      obtain rfl : args = #[x] := Array.toList_inj.1 ha
      obtain rfl : argTypes = #[t] := Array.toList_inj.1 ht
      have hrel := hρ x (by simp [Op.operands, Call.operands])
      unfold lenA at hl
      split at hl
      · rename_i e A n c hu hs
        injection hl with hl; subst hl
        rw [hs] at hrel
        have hex : ∃ A' c', ρ x = .slice A' n c' := by
          generalize ρ x = vx at hrel
          cases hrel with
          | atom h => exact ⟨_, _, rfl⟩
          | slice => exact ⟨_, _, rfl⟩
          | slice0 => exact ⟨_, _, rfl⟩
        obtain ⟨A', c', hex⟩ := hex
        refine ⟨_, w, .value (.int .i64 n), ?_, .inl rfl, Done.same hr (.atom rfl)⟩
        simp [execOp, resolve, invoke, builtin, Builtin.len_, hex, under_run hu, goInt]
      · rename_i st hu hs
        injection hl with hl; subst hl
        rw [hs] at hrel
        refine ⟨_, w, .value (.int .i64 st.size), ?_, .inl rfl, Done.same hr (.atom rfl)⟩
        simp [execOp, resolve, invoke, builtin, Builtin.len_, hrel.plain rfl, under_run hu, goInt]
      · cases hl
    · cases hv
  · -- append
    rename_i args argTypes
    split at hv
    · rename_i x y t u ha ht
      obtain rfl : args = #[x, y] := Array.toList_inj.1 ha
      obtain rfl : argTypes = #[t, u] := Array.toList_inj.1 ht
      split at hv
      · rename_i hrow
        have hx : ∃ xt d, (#[t, u] : Array TypeId)[1]? = some xt ∧ P.underlying xt = some d ∧ ((∃ e', d = .slice e') ∨ d = .string) := by
          unfold isRowT at hrow
          split at hrow
          · rename_i e hu; exact ⟨u, _, rfl, hu, .inl ⟨e, rfl⟩⟩
          · rename_i hu; exact ⟨u, _, rfl, hu, .inr rfl⟩
          · cases hrow
        obtain ⟨v', w', hrun, hd⟩ := append_ok (args := #[t, u]) (ty := type) hr hbase hv (hρ x (by simp [Op.operands, Call.operands])) (hρ y (by simp [Op.operands, Call.operands])) rfl hx
        refine ⟨v', w', .value v', ?_, .inl rfl, hd⟩
        simp only [execOp, resolve, invoke, builtin, Sem.run_bind, Sem.run_pure, Result.andThen_ok, List.map_toArray, List.map_cons, List.map_nil, hrun]
      · cases hv
    · cases hv
  · cases hv
  · cases hv
  · exact scalar_comes hr hv hρ

end Go.Proofs.Ytjmklialkjncaaa.Eng

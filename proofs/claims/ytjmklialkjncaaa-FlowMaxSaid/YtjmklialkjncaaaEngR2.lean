/- Symbolic runs: rows that grow, results that lie in cells. Own work; no condition. -/
import Derived.Test.YtjmklialkjncaaaEngZ
set_option linter.unusedVariables false
set_option linter.unusedSimpArgs false
namespace Go.Proofs.Ytjmklialkjncaaa.Eng

variable {P : Program} {x : Cx} {L L' : Tmps} {O O' : Objs} {ops : Array Oper} {mq : Mk} {i : Nat} {l : List Oper} {K : ASt → Prop}
  {t u : TypeId} {p : String} {af : Array Edge} {gd : Option (Nat × Bool)} {d : Tmp}

/-- A row of one's own, nil or not, and its object. -/
def Grow (sz : Nat) (a : Option Addr) (n c : Nat) (cs : List Value) (G : Objs) : Prop :=
  (a = none ∧ n = 0 ∧ c = 0 ∧ cs = [] ∧ G = []) ∨ (∃ b, a = some ⟨b, 0, none⟩ ∧ G = [(b, ⟨sz, false, cs⟩)] ∧ cs.length = n * sz)

theorem Grow.nil {sz : Nat} : Grow sz none 0 0 [] [] := .inl ⟨rfl, rfl, rfl, rfl, rfl⟩
theorem Grow.row {sz b n c : Nat} {cs : List Value} (h : cs.length = n * sz) : Grow sz (some ⟨b, 0, none⟩) n c cs [(b, ⟨sz, false, cs⟩)] := .inr ⟨b, rfl, rfl, h⟩

theorem Grow.src {sz : Nat} {a : Option Addr} {n c : Nat} {cs : List Value} {G R : Objs} (hg : Grow sz a n c cs G) : Src (G ++ R) sz (.slice a n c) n cs := by
  rcases hg with ⟨rfl, rfl, rfl, rfl, rfl⟩ | ⟨b, rfl, rfl, hl⟩
  · exact Src.nil
  · refine Src.of (Knows.at 0 rfl) ?_ ?_
    · show 0 + n * sz ≤ cs.length
      omega
    · show (cs.drop 0).take (n * sz) = cs
      rw [List.drop_zero, List.take_of_length_le (by omega)]

theorem Grow.src0 {sz : Nat} {a : Option Addr} {n c : Nat} {cs : List Value} {G : Objs} (hg : Grow sz a n c cs G) : Src G sz (.slice a n c) n cs := by
  have := hg.src (R := [])
  rw [List.append_nil] at this
  exact this

theorem Sat.swap {h : AHeap} {G A R : Objs} (hs : Sat h (G ++ (A ++ R))) : Sat h (A ++ (G ++ R)) := by
  refine hs.perm ?_
  rw [← List.append_assoc, ← List.append_assoc]
  exact (List.perm_append_comm (l₁ := G) (l₂ := A)).append_right R

theorem St.swap {s : ASt} {G R : Objs} (A : Objs) (hs : St x L (G ++ (A ++ R)) s) : St x L (A ++ (G ++ R)) s := ⟨hs.m, hs.t, hs.sat.swap, hs.old⟩

/-- `append` to a row that grows. -/
theorem WXL.appendG {y z : Operand} {ty tz e : TypeId} {a : Option Addr} {n c sz by_ m : Nat} {cs new : List Value} {v zv : Value} {G : Objs} (A : Objs) {R : Objs} (hw : Met x L ops gd) (hq : x.q = false) (hy : evL L y = some (.slice a n c)) (hz : evL L z = some v) (hr : isRowT P tz = true)
    (hcl : mq.Z = []) (hO : O = A ++ (G ++ R)) (hg : Grow sz a n c cs G) (hsrc : Src O sz v m new) (he : elemOf P ty = some e) (hs : szOf P e = some sz) (hby : byOf P e = some by_) (hzv : zeroOf P e = some zv) (h3 : zv.cells.size = sz)
    (hf : (n + m) * by_ ≤ 140737488355328) (h1 : 0 < sz) (h2 : 0 < by_) (hm : new.length = m * sz)
    (h : ∀ a' c' G', Grow sz a' (n + m) c' (cs ++ new) G' → WXL P x ops mq (i + 1) l ((d, .slice a' (n + m) c') :: L) (A ++ (G' ++ R)) K) :
    WXL P x ops mq i ({ dst := some d, op := .call { callee := .builtin .append, args := #[y, z], argTypes := #[ty, tz] }, type := t, pos := p, after := af, guard := gd } :: l) L O K := by
  have hfit : fitsA by_ (n + m) = true := by unfold fitsA; exact decide_eq_true hf
  rcases hg with ⟨rfl, rfl, rfl, rfl, rfl⟩ | ⟨b, rfl, rfl, hl⟩
  · rcases Nat.eq_zero_or_pos m with hm0 | hm0
    · subst hm0
      have hnew : new = [] := List.length_eq_zero_iff.1 (by rw [hm, Nat.zero_mul])
      subst hnew
      refine WXL.append00 hw hy hz hr hsrc he hs hby hzv h3 ?_
      rw [hO]
      exact h none 0 [] (.inl ⟨rfl, rfl, rfl, rfl, rfl⟩)
    · refine WXL.append0 hw hy hz hr hsrc he hs hby hzv h3 hm0 (by rw [Nat.zero_add] at hf; exact hf) h1 h2 fun b => ?_
      have := h (some ⟨b, 0, none⟩) m [(b, ⟨sz, false, new⟩)] (.inr ⟨b, rfl, rfl, by rw [Nat.zero_add]; exact hm⟩)
      simp only [Nat.zero_add, List.nil_append] at this
      rw [hO]
      refine WXL.of (fun s hs => ?_) this
      exact St.swap (G := [(b, ⟨sz, false, new⟩)]) A hs
  · refine WXL.stepG (.inl rfl) hw fun s hst hzz => ?_
    have hj : O[A.length]? = some (b, ⟨sz, false, cs⟩) := by rw [hO, List.getElem?_append_right (Nat.le_refl _), Nat.sub_self]; rfl
    obtain ⟨f, k, hb⟩ := hst.sat.at hj
    have hb' : s.h.o b = .cells sz false f none k cs := hb
    have hset : O.set A.length (s.h.n, ⟨sz, false, cs ++ new⟩) = A ++ ([(s.h.n, ⟨sz, false, cs ++ new⟩)] ++ R) := by
      rw [hO, List.set_append_right _ _ (Nat.le_refl _), Nat.sub_self]; rfl
    refine ⟨Row s.h.n 0 (n + m) (n + m), (s.h.set b (.cells sz false f (some s.h.n) k cs)).new (.cells sz false f none 0 (cs ++ new)), ?_, fun _ => Quiet.app hb', fun z hm => (by rw [hcl] at hm; simp at hm), (d, Row s.h.n 0 (n + m) (n + m)) :: L, _,
      ⟨hst.m, hst.t.put _ _ _, hst.sat.app hj hb _, fun hx => (by rw [hq] at hx; cases hx)⟩, ?_⟩
    · simp only [aop, hst.t.ev hy, hst.t.ev hz, hr, if_true]
      unfold appendA
      simp only [he, hs, hby, hzv, Option.map_some, hsrc _ hst.sat, h3, hb', ne_eq, not_true_eq_false, if_false]
      rw [if_pos ⟨trivial, by omega, hfit, h1, h2⟩, List.drop_zero]
    · rw [hset]
      exact h (some ⟨s.h.n, 0, none⟩) (n + m) [(s.h.n, ⟨sz, false, cs ++ new⟩)] (.inr ⟨s.h.n, rfl, rfl, by rw [List.length_append, hl, hm, Nat.add_mul]⟩)

theorem off_succ (n : Nat) : ((n : Int) + 1).toNat = n + 1 := by omega

theorem tmod_range {a b : Int} (ha : 0 ≤ a) (hb : 0 < b) : 0 ≤ a.tmod b ∧ a.tmod b < b := by
  rw [Int.tmod_eq_emod_of_nonneg ha]
  exact ⟨Int.emod_nonneg _ (by omega), Int.emod_lt_of_pos _ hb⟩

theorem Knows.app {N : Objs} {b : Nat} {y : Ent} (h : Knows O b y) : Knows (N ++ O) b y := fun g hg => h g hg.app_right

def evs (L : Tmps) : List Operand → Option (List Value)
  | [] => some []
  | y :: ys => match evL L y, evs L ys with
    | some v, some vs => some (v :: vs)
    | _, _ => none

theorem Has.evs {s : ASt} (h : Has s.t L) : ∀ {ys : List Operand} {vs : List Value}, Eng.evs L ys = some vs → ys.map s.ev = vs
  | [], vs, hp => by simp [Eng.evs] at hp; subst hp; rfl
  | y :: r, vs, hp => by
    unfold Eng.evs at hp
    split at hp
    · rename_i v us h1 h2
      obtain rfl := Option.some.inj hp
      rw [List.map_cons, Has.evs h h2, h.ev h1]
    · cases hp

theorem WXL.makeFunc {f : FuncId} {as cs : Array Operand} {vs us : List Value} (hw : Met x L ops gd) (ha : evs L as.toList = some vs) (hc : evs L cs.toList = some us) (h : WXL P x ops mq (i + 1) l ((d, .func (.func f) vs.toArray us.toArray) :: L) O K) :
    WXL P x ops mq i ({ dst := some d, op := .makeFunc (.func f) as cs, type := t, pos := p, after := af, guard := gd } :: l) L O K :=
  WXL.val (.inl rfl) hw (fun s hs => by
    have e1 : as.map s.ev = vs.toArray := by apply Array.toList_inj.1; rw [Array.toList_map, hs.t.evs ha]
    have e2 : cs.map s.ev = us.toArray := by apply Array.toList_inj.1; rw [Array.toList_map, hs.t.evs hc]
    simp only [aop, e1, e2]) h

/-! ### Results that lie in cells -/
def ResOk (P : Program) (L : Tmps) (O : Objs) : List ResultVar → List Value → Prop
  | [], [] => True
  | .tmp t :: rs, v :: vs => getT L t = some v ∧ ResOk P L O rs vs
  | .cell a t :: rs, v :: vs => (∃ b off, getT L a = some (Ptr b off) ∧ ∀ h, Sat h O → loadA P h t b off = some v) ∧ ResOk P L O rs vs
  | _, _ => False

theorem ResOk.ok {s : ASt} (hs : St x L O s) : ∀ {rs : List ResultVar} {vs : List Value}, ResOk P L O rs vs → rs.mapM (resF P s) = some vs
  | [], [], _ => rfl
  | .tmp t :: rs, v :: vs, h => by
    rw [List.mapM_cons, ResOk.ok hs h.2]
    show (some (s.t t)).bind _ = _
    rw [hs.t t v h.1]; rfl
  | .cell a t :: rs, v :: vs, h => by
    obtain ⟨⟨b, off, h1, h2⟩, h3⟩ := h
    rw [List.mapM_cons, ResOk.ok hs h3]
    have : resF P s (.cell a t) = some v := by
      unfold resF
      simp only [hs.t a _ h1]
      exact h2 _ hs.sat
    rw [this]; rfl
  | [], _ :: _, h => h.elim
  | .tmp _ :: _, [], h => h.elim
  | .cell _ _ :: _, [], h => h.elim

theorem Fin.results {fn : Func} {Post : Value → Objs → Prop} {rs : List ResultVar} {vs : List Value} {e : Exit} (he : e = .normal ∨ e = .ret) (hr : fn.results.toList = rs) (hv : ResOk P L O rs vs) (hO : ∀ h, Sat h O → Sat h O') (hp : Post (tupleA vs) O') :
    Fin x L O e (bodyW P fn x Post) := by
  intro s hs
  have : ∃ vs O', resultsA P fn s = some vs ∧ Post (tupleA vs) O' ∧ Sat s.h O' ∧ (x.q = true → Old x.h0 s.h) :=
    ⟨vs, O', by unfold resultsA; rw [hr]; exact hv.ok hs, hp, hO _ hs.sat, hs.old⟩
  rcases he with rfl | rfl <;> exact this

theorem load_agg {b off n : Nat} {e : Ent} {vs : List Value} (hk : Knows O b e) (ht : isAggT P t = some true) (hn : szOf P t = some n) (hv : cellsAt e.c off n = some vs) : ∀ h, Sat h O → loadA P h t b off = some (.agg vs.toArray) := by
  intro h hh
  unfold cellsAt at hv
  split at hv
  · rename_i hlen
    obtain rfl := Option.some.inj hv
    unfold loadA
    simp only [(hk h hh).rd, ht, hn]
    rw [if_pos hlen]
  · cases hv

theorem load_one {b off : Nat} {e : Ent} {v : Value} (hk : Knows O b e) (ht : isAggT P t = some false) (hv : e.c[off]? = some v) : ∀ h, Sat h O → loadA P h t b off = some v := by
  intro h hh
  unfold loadA
  simp only [(hk h hh).rd, ht, hv]

/-- What is known of the objects of some places, in another order, and of the rest behind the first ones. -/
theorem Sat.told {h : AHeap} (is : List Nat) (n : Nat) (hnd : is.Nodup) (hlt : ∀ i ∈ is, i < n) (hO : Eng.pick O is ++ O.drop n = O') (hs : Sat h O) : Sat h O' := hO ▸ hs.pick is n hnd hlt

end Go.Proofs.Ytjmklialkjncaaa.Eng

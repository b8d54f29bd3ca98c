/- The rest of an edge, and how a flow is changed. Own work; no condition. -/
import Derived.Test.YtjmklialkjncaaaFlE
set_option linter.unusedVariables false
set_option linter.unusedSimpArgs false
namespace Go.Proofs.Ytjmklialkjncaaa.Eng

structure Arc where
  edge : Nat
  to : Int
  fwd : Bool
  deriving Inhabited

def encA (a : Arc) : List Value := [I a.edge, I a.to, .bool a.fwd]
theorem encA_len (a : Arc) : (encA a).length = 3 := rfl
def aggA (a : Arc) : Value := .agg (encA a).toArray

theorem cell_flatE (l : List E4) (k j : Nat) {v : Value} (h : k < l.length) (hv : (encE (nth l k))[j]? = some v) : (flat encE l)[k * 4 + j]? = some v := by
  rw [cell_flat encE_len l k j h, hv]
  have := (List.getElem?_eq_some_iff.1 hv).1
  rw [encE_len] at this
  exact this

def restP (n : Net4) (f : List Int) (a : Arc) : Int := if a.fwd = true then (nth n.edges a.edge).cap - nth f a.edge else (nth n.edges a.edge).back + nth f a.edge

theorem rest_ok (O : Objs) (n : Net4) (f : List Int) (r : Arc) (a af : Option Addr) (c cf : Nat) (hl : Edges O n a c) (hf : Src O 1 (.slice af f.length cf) f.length (f.map I)) (hlen : f.length = n.edges.length) (hr : r.edge < f.length)
    (h1 : r.fwd = true → In64 ((nth n.edges r.edge).cap - nth f r.edge)) (h2 : r.fwd = false → In64 ((nth n.edges r.edge).back + nth f r.edge)) :
    Spec Try.prog true 38 #[netV n a c, .slice af f.length cf, aggA r] O fun v O' => v = I (restP n f r) ∧ O' = O := by
  unfold In64 at h1 h2
  refine Spec.enter (args := [_, _, _]) (m := 35) Try.func38 rfl rfl (by decide +kernel) fun h0 => ?_
  refine WX.seq ?_
  refine WX.region rfl ?_
  refine WXL.box (c := [_, _, _, _]) Met.none rfl rfl rfl (fun b3 => ?_)
  refine WXL.box (c := [_, _, _]) Met.none rfl rfl rfl (fun b5 => ?_)
  refine WXL.assign Met.none rfl ?_
  refine WXL.nil ?_
  refine Fin.then_normal ?_
  refine WX.seq ?_
  refine WX.seq ?_
  refine WX.region rfl ?_
  refine WXL.fieldAddr (off' := 2) Met.none rfl Try.underlying79 rfl sz4 rfl ?_
  first | refine WXL.ld Met.none rfl agg4 ?_ | refine WXL.ldS Met.none rfl agg4 ?_
  refine WXL.nil ?_
  refine Fin.then_normal ?_
  refine WX.cond rfl (fun hc0 => ?_) (fun hc0 => ?_)
  · try simp only [cnd] at hc0
    have h1 := h1 hc0
    refine WX.seq ?_
    refine WX.draw rfl ?_
    refine WXL.fieldAddr (off' := 3) Met.none rfl Try.underlying36 rfl sz34 rfl ?_
    first | refine WXL.ld Met.none rfl agg34 ?_ | refine WXL.ldS Met.none rfl agg34 ?_
    refine WXL.fieldAddr (off' := 0) Met.none rfl Try.underlying79 rfl sz3 rfl ?_
    first | refine WXL.ld Met.none rfl agg3 ?_ | refine WXL.ldS Met.none rfl agg3 ?_
    first | refine WXL.ix Met.none rfl rfl elem34 sz44 ?_ | refine WXL.ixS Met.none rfl rfl elem34 sz44 ?_
    first | refine WXL.fieldAddr Met.none rfl Try.underlying44 rfl sz3 rfl ?_ | refine WXL.faS Met.none rfl Try.underlying44 rfl sz3 ?_
    first | refine WXL.ld Met.none rfl agg3 ?_ | refine WXL.ldS Met.none rfl agg3 ?_
    refine WXL.move Met.none rfl ?_
    refine WXL.fieldAddr (off' := 0) Met.none rfl Try.underlying79 rfl sz3 rfl ?_
    first | refine WXL.ld Met.none rfl agg3 ?_ | refine WXL.ldS Met.none rfl agg3 ?_
    first | refine WXL.ix Met.none rfl rfl elem22 sz3 ?_ | refine WXL.ixS Met.none rfl rfl elem22 sz3 ?_
    first | refine WXL.ld Met.none rfl agg3 ?_ | refine WXL.ldS Met.none rfl agg3 ?_
    refine WXL.bin Met.none rfl rfl bvS ?_
    refine WXL.assign Met.none rfl ?_
    refine WXL.nil ?_
    refine Fin.then_normal ?_
    refine WX.ret ?_
    refine Fin.then_ret ?_
    refine Fin.result (O' := O) (.inr rfl) rfl rfl drop_ ⟨?_, rfl⟩
    unfold restP
    first | (rw [if_pos hc0]; exact rfl) | (rw [if_neg (by rw [hc0]; decide)]; exact rfl)
  · try simp only [cnd] at hc0
    have h2 := h2 hc0
    refine WX.skip ?_
    refine Fin.then_normal ?_
    refine WX.seq ?_
    refine WX.draw rfl ?_
    refine WXL.fieldAddr (off' := 3) Met.none rfl Try.underlying36 rfl sz34 rfl ?_
    first | refine WXL.ld Met.none rfl agg34 ?_ | refine WXL.ldS Met.none rfl agg34 ?_
    refine WXL.fieldAddr (off' := 0) Met.none rfl Try.underlying79 rfl sz3 rfl ?_
    first | refine WXL.ld Met.none rfl agg3 ?_ | refine WXL.ldS Met.none rfl agg3 ?_
    first | refine WXL.ix Met.none rfl rfl elem34 sz44 ?_ | refine WXL.ixS Met.none rfl rfl elem34 sz44 ?_
    first | refine WXL.fieldAddr Met.none rfl Try.underlying44 rfl sz3 rfl ?_ | refine WXL.faS Met.none rfl Try.underlying44 rfl sz3 ?_
    first | refine WXL.ld Met.none rfl agg3 ?_ | refine WXL.ldS Met.none rfl agg3 ?_
    refine WXL.move Met.none rfl ?_
    refine WXL.fieldAddr (off' := 0) Met.none rfl Try.underlying79 rfl sz3 rfl ?_
    first | refine WXL.ld Met.none rfl agg3 ?_ | refine WXL.ldS Met.none rfl agg3 ?_
    first | refine WXL.ix Met.none rfl rfl elem22 sz3 ?_ | refine WXL.ixS Met.none rfl rfl elem22 sz3 ?_
    first | refine WXL.ld Met.none rfl agg3 ?_ | refine WXL.ldS Met.none rfl agg3 ?_
    refine WXL.bin Met.none rfl rfl bvA ?_
    refine WXL.assign Met.none rfl ?_
    refine WXL.nil ?_
    refine Fin.then_normal ?_
    refine WX.ret ?_
    refine Fin.result (O' := O) (.inr rfl) rfl rfl drop_ ⟨?_, rfl⟩
    unfold restP
    first | (rw [if_pos hc0]; exact rfl) | (rw [if_neg (by rw [hc0]; decide)]; exact rfl)

theorem Grow.row_of {sz : Nat} {a : Option Addr} {n c : Nat} {cs : List Value} {G : Objs} (hg : Grow sz a n c cs G) (h : 0 < n) : ∃ b, a = some ⟨b, 0, none⟩ ∧ G = [(b, ⟨sz, false, cs⟩)] ∧ cs.length = n * sz := by
  rcases hg with ⟨_, h1, _⟩ | h2
  · omega
  · exact h2

def pushP (f : List Int) (r : Arc) (d : Int) : List Int := f.set r.edge (nth f r.edge + if r.fwd = true then d else -d)

theorem push_ok (R G : Objs) (f : List Int) (r : Arc) (d : Int) (a : Option Addr) (c : Nat) (hg : Grow 1 a f.length c (f.map I) G) (hr : r.edge < f.length) (hd : -9223372036854775807 ≤ d ∧ d ≤ 9223372036854775807)
    (h1 : In64 (nth f r.edge + if r.fwd = true then d else -d)) :
    Spec Try.prog false 39 #[.slice a f.length c, aggA r, I d] (G ++ R) fun v O' => ∃ G', Grow 1 a f.length c ((pushP f r d).map I) G' ∧ O' = G' ++ R := by
  obtain ⟨b, rfl, rfl, hlen⟩ := hg.row_of (by omega)
  unfold In64 at h1
  refine Spec.enter (args := [_, _, _]) (m := 19) Try.func39 rfl rfl (by decide +kernel) fun h0 => ?_
  refine WX.seq ?_
  refine WX.region rfl ?_
  refine WXL.box (c := [_, _, _]) Met.none rfl rfl rfl (fun b4 => ?_)
  refine WXL.nil ?_
  refine Fin.then_normal ?_
  refine WX.seq ?_
  refine WX.seq ?_
  refine WX.region rfl ?_
  refine WXL.fieldAddr (off' := 2) Met.none rfl Try.underlying79 rfl sz4 rfl ?_
  first | refine WXL.ld Met.none rfl agg4 ?_ | refine WXL.ldS Met.none rfl agg4 ?_
  refine WXL.not Met.none rfl ?_
  refine WXL.nil ?_
  refine Fin.then_normal ?_
  refine WX.cond rfl (fun hc0 => ?_) (fun hc0 => ?_)
  · try simp only [cnd] at hc0
    rw [if_neg (by rw [hc0]; decide)] at h1
    refine WX.region rfl ?_
    refine WXL.move Met.none rfl ?_
    refine WXL.neg Met.none rfl (by first | exact wrap_neg (by omega) (by omega) | exact rfl) ?_
    refine WXL.assign Met.none rfl ?_
    refine WXL.nil ?_
    refine Fin.then_normal ?_
    refine WX.region rfl ?_
    refine WXL.move Met.none rfl ?_
    refine WXL.fieldAddr (off' := 0) Met.none rfl Try.underlying79 rfl sz3 rfl ?_
    first | refine WXL.ld Met.none rfl agg3 ?_ | refine WXL.ldS Met.none rfl agg3 ?_
    first | refine WXL.ix Met.none rfl rfl elem22 sz3 ?_ | refine WXL.ixS Met.none rfl rfl elem22 sz3 ?_
    first | refine WXL.ld Met.none rfl agg3 ?_ | refine WXL.ldS Met.none rfl agg3 ?_
    refine WXL.move Met.none rfl ?_
    refine WXL.bin Met.none rfl rfl bvA ?_
    first | refine WXL.ix Met.none rfl rfl elem22 sz3 ?_ | refine WXL.ixS Met.none rfl rfl elem22 sz3 ?_
    refine WXL.st (vs := [_]) Met.none rfl rfl rfl sz3 ?_
    refine WXL.nil ?_
    refine Fin.results (O' := [(b, ⟨1, false, (pushP f r d).map I⟩)] ++ R) (.inl rfl) rfl (vs := []) trivial ?_ ⟨_, .inr ⟨b, rfl, rfl, by unfold pushP; simp⟩, rfl⟩
    intro h hs
    unfold pushP
    first | rw [if_pos hc0] | rw [if_neg (by rw [hc0]; decide)]
    exact hs.tail
  · try simp only [cnd] at hc0
    rw [if_pos hc0] at h1
    refine WX.skip ?_
    refine Fin.then_normal ?_
    refine WX.region rfl ?_
    refine WXL.move Met.none rfl ?_
    refine WXL.fieldAddr (off' := 0) Met.none rfl Try.underlying79 rfl sz3 rfl ?_
    first | refine WXL.ld Met.none rfl agg3 ?_ | refine WXL.ldS Met.none rfl agg3 ?_
    first | refine WXL.ix Met.none rfl rfl elem22 sz3 ?_ | refine WXL.ixS Met.none rfl rfl elem22 sz3 ?_
    first | refine WXL.ld Met.none rfl agg3 ?_ | refine WXL.ldS Met.none rfl agg3 ?_
    refine WXL.move Met.none rfl ?_
    refine WXL.bin Met.none rfl rfl bvA ?_
    first | refine WXL.ix Met.none rfl rfl elem22 sz3 ?_ | refine WXL.ixS Met.none rfl rfl elem22 sz3 ?_
    refine WXL.st (vs := [_]) Met.none rfl rfl rfl sz3 ?_
    refine WXL.nil ?_
    refine Fin.results (O' := [(b, ⟨1, false, (pushP f r d).map I⟩)] ++ R) (.inl rfl) rfl (vs := []) trivial ?_ ⟨_, .inr ⟨b, rfl, rfl, by unfold pushP; simp⟩, rfl⟩
    intro h hs
    unfold pushP
    first | rw [if_pos hc0] | rw [if_neg (by rw [hc0]; decide)]
    exact hs.tail

def otherR (e : E4) (v : Int) : Int := if e.a = v then e.b else e.a

theorem other_ok (O : Objs) (e : E4) (v : Int) : Spec Try.prog true 41 #[aggE e, I v] O fun u O' => u = I (otherR e v) ∧ O' = O := by
  refine Spec.enter (args := [_, _]) (m := 13) Try.func41 rfl rfl (by decide +kernel) fun h0 => ?_
  refine WX.seq ?_
  refine WX.region rfl ?_
  refine WXL.box (c := [_, _, _, _]) Met.none rfl rfl rfl (fun b2 => ?_)
  refine WXL.assign Met.none rfl ?_
  refine WXL.nil ?_
  refine Fin.then_normal ?_
  refine WX.seq ?_
  refine WX.seq ?_
  refine WX.region rfl ?_
  refine WXL.fieldAddr (off' := 0) Met.none rfl Try.underlying63 rfl sz3 rfl ?_
  first | refine WXL.ld Met.none rfl agg3 ?_ | refine WXL.ldS Met.none rfl agg3 ?_
  refine WXL.move Met.none rfl ?_
  refine WXL.bin Met.none rfl rfl rfl ?_
  refine WXL.nil ?_
  refine Fin.then_normal ?_
  refine WX.cond rfl (fun hc0 => ?_) (fun hc0 => ?_)
  · try simp only [cnd] at hc0
    refine WX.seq ?_
    refine WX.region rfl ?_
    refine WXL.fieldAddr (off' := 1) Met.none rfl Try.underlying63 rfl sz3 rfl ?_
    first | refine WXL.ld Met.none rfl agg3 ?_ | refine WXL.ldS Met.none rfl agg3 ?_
    refine WXL.assign Met.none rfl ?_
    refine WXL.nil ?_
    refine Fin.then_normal ?_
    refine WX.ret ?_
    refine Fin.then_ret ?_
    refine Fin.result (O' := O) (.inr rfl) rfl rfl drop_ ⟨?_, rfl⟩
    unfold otherR
    first | (rw [if_pos hc0]; exact rfl) | (rw [if_neg hc0]; exact rfl)
  · try simp only [cnd] at hc0
    refine WX.skip ?_
    refine Fin.then_normal ?_
    refine WX.seq ?_
    refine WX.region rfl ?_
    refine WXL.fieldAddr (off' := 0) Met.none rfl Try.underlying63 rfl sz3 rfl ?_
    first | refine WXL.ld Met.none rfl agg3 ?_ | refine WXL.ldS Met.none rfl agg3 ?_
    refine WXL.assign Met.none rfl ?_
    refine WXL.nil ?_
    refine Fin.then_normal ?_
    refine WX.ret ?_
    refine Fin.result (O' := O) (.inr rfl) rfl rfl drop_ ⟨?_, rfl⟩
    unfold otherR
    first | (rw [if_pos hc0]; exact rfl) | (rw [if_neg hc0]; exact rfl)

def restR (e : E4) (f v : Int) : Int × Int := if e.a = v then (e.b, e.cap - f) else if e.b = v then (e.a, e.back + f) else (0, 0)

theorem refRest_ok (O : Objs) (e : E4) (f v : Int) (h1 : In64 (e.cap - f)) (h2 : In64 (e.back + f)) : Spec Try.prog true 42 #[aggE e, I f, I v] O fun u O' => u = .tuple #[I (restR e f v).1, I (restR e f v).2] ∧ O' = O := by
  unfold In64 at h1 h2
  refine Spec.enter (args := [_, _, _]) (m := 28) Try.func42 rfl rfl (by decide +kernel) fun h0 => ?_
  refine WX.seq ?_
  refine WX.region rfl ?_
  refine WXL.box (c := [_, _, _, _]) Met.none rfl rfl rfl (fun b3 => ?_)
  refine WXL.assign Met.none rfl ?_
  refine WXL.assign Met.none rfl ?_
  refine WXL.nil ?_
  refine Fin.then_normal ?_
  refine WX.seq ?_
  refine WX.seq ?_
  refine WX.region rfl ?_
  refine WXL.fieldAddr (off' := 0) Met.none rfl Try.underlying63 rfl sz3 rfl ?_
  first | refine WXL.ld Met.none rfl agg3 ?_ | refine WXL.ldS Met.none rfl agg3 ?_
  refine WXL.move Met.none rfl ?_
  refine WXL.bin Met.none rfl rfl rfl ?_
  refine WXL.nil ?_
  refine Fin.then_normal ?_
  refine WX.cond rfl (fun hc0 => ?_) (fun hc0 => ?_)
  · try simp only [cnd] at hc0
    refine WX.seq ?_
    refine WX.draw rfl ?_
    refine WXL.fieldAddr (off' := 1) Met.none rfl Try.underlying63 rfl sz3 rfl ?_
    first | refine WXL.ld Met.none rfl agg3 ?_ | refine WXL.ldS Met.none rfl agg3 ?_
    refine WXL.fieldAddr (off' := 2) Met.none rfl Try.underlying63 rfl sz3 rfl ?_
    first | refine WXL.ld Met.none rfl agg3 ?_ | refine WXL.ldS Met.none rfl agg3 ?_
    refine WXL.move Met.none rfl ?_
    refine WXL.bin Met.none rfl rfl bvS ?_
    refine WXL.assign Met.none rfl ?_
    refine WXL.assign Met.none rfl ?_
    refine WXL.nil ?_
    refine Fin.then_normal ?_
    refine WX.ret ?_
    refine Fin.then_ret ?_
    refine Fin.result (O' := O) (.inr rfl) rfl rfl drop_ ⟨?_, rfl⟩
    unfold restR
    first | (rw [if_pos hc0]; exact rfl) | (rw [if_neg hc0, if_pos hc1]; exact rfl) | (rw [if_neg hc0, if_neg hc1]; exact rfl)
  · try simp only [cnd] at hc0
    refine WX.skip ?_
    refine Fin.then_normal ?_
    refine WX.seq ?_
    refine WX.seq ?_
    refine WX.region rfl ?_
    refine WXL.fieldAddr (off' := 1) Met.none rfl Try.underlying63 rfl sz3 rfl ?_
    first | refine WXL.ld Met.none rfl agg3 ?_ | refine WXL.ldS Met.none rfl agg3 ?_
    refine WXL.move Met.none rfl ?_
    refine WXL.bin Met.none rfl rfl rfl ?_
    refine WXL.nil ?_
    refine Fin.then_normal ?_
    refine WX.cond rfl (fun hc1 => ?_) (fun hc1 => ?_)
    · try simp only [cnd] at hc1
      refine WX.seq ?_
      refine WX.draw rfl ?_
      refine WXL.fieldAddr (off' := 0) Met.none rfl Try.underlying63 rfl sz3 rfl ?_
      first | refine WXL.ld Met.none rfl agg3 ?_ | refine WXL.ldS Met.none rfl agg3 ?_
      refine WXL.fieldAddr (off' := 3) Met.none rfl Try.underlying63 rfl sz3 rfl ?_
      first | refine WXL.ld Met.none rfl agg3 ?_ | refine WXL.ldS Met.none rfl agg3 ?_
      refine WXL.move Met.none rfl ?_
      refine WXL.bin Met.none rfl rfl bvA ?_
      refine WXL.assign Met.none rfl ?_
      refine WXL.assign Met.none rfl ?_
      refine WXL.nil ?_
      refine Fin.then_normal ?_
      refine WX.ret ?_
      refine Fin.then_ret ?_
      refine Fin.result (O' := O) (.inr rfl) rfl rfl drop_ ⟨?_, rfl⟩
      unfold restR
      first | (rw [if_pos hc0]; exact rfl) | (rw [if_neg hc0, if_pos hc1]; exact rfl) | (rw [if_neg hc0, if_neg hc1]; exact rfl)
    · try simp only [cnd] at hc1
      refine WX.skip ?_
      refine Fin.then_normal ?_
      refine WX.seq ?_
      refine WX.region rfl ?_
      refine WXL.assign Met.none rfl ?_
      refine WXL.assign Met.none rfl ?_
      refine WXL.nil ?_
      refine Fin.then_normal ?_
      refine WX.ret ?_
      refine Fin.result (O' := O) (.inr rfl) rfl rfl drop_ ⟨?_, rfl⟩
      unfold restR
      first | (rw [if_pos hc0]; exact rfl) | (rw [if_neg hc0, if_pos hc1]; exact rfl) | (rw [if_neg hc0, if_neg hc1]; exact rfl)

def changeR (n : Net4) (f : List Int) (i : Nat) (to d : Int) : List Int := f.set i (if (nth n.edges i).b = to then nth f i + d else nth f i - d)

theorem change_ok (R G : Objs) (n : Net4) (f : List Int) (i : Nat) (to d : Int) (a af : Option Addr) (c cf : Nat) (hl : Edges R n a c) (hg : Grow 1 af f.length cf (f.map I) G) (hi : i < f.length) (hlen : f.length = n.edges.length)
    (h1 : (nth n.edges i).b = to → In64 (nth f i + d)) (h2 : (nth n.edges i).b ≠ to → In64 (nth f i - d)) :
    Spec Try.prog false 43 #[netV n a c, .slice af f.length cf, I i, I to, I d] (G ++ R) fun v O' => ∃ G', Grow 1 af f.length cf ((changeR n f i to d).map I) G' ∧ O' = G' ++ R := by
  obtain ⟨b, rfl, rfl, hgl⟩ := hg.row_of (by omega)
  unfold In64 at h1 h2
  refine Spec.enter (args := [_, _, _, _, _]) (m := 36) Try.func43 rfl rfl (by decide +kernel) fun h0 => ?_
  refine WX.seq ?_
  refine WX.region rfl ?_
  refine WXL.box (c := [_, _, _, _]) Met.none rfl rfl rfl (fun b5 => ?_)
  refine WXL.nil ?_
  refine Fin.then_normal ?_
  refine WX.seq ?_
  refine WX.region rfl ?_
  refine WXL.fieldAddr (off' := 3) Met.none rfl Try.underlying25 rfl sz23 rfl ?_
  first | refine WXL.ld Met.none rfl agg23 ?_ | refine WXL.ldS Met.none rfl agg23 ?_
  refine WXL.move Met.none rfl ?_
  first | refine WXL.ix Met.none rfl rfl elem23 sz63 ?_ | refine WXL.ixS Met.none rfl rfl elem23 sz63 ?_
  first | refine WXL.fieldAddr Met.none rfl Try.underlying63 rfl sz3 rfl ?_ | refine WXL.faS Met.none rfl Try.underlying63 rfl sz3 ?_
  first | refine WXL.ld Met.none rfl agg3 ?_ | refine WXL.ldS Met.none rfl agg3 ?_
  refine WXL.move Met.none rfl ?_
  refine WXL.bin Met.none rfl rfl rfl ?_
  refine WXL.nil ?_
  refine Fin.then_normal ?_
  refine WX.cond rfl (fun hc0 => ?_) (fun hc0 => ?_)
  · try simp only [cnd] at hc0
    have h1 := h1 hc0
    refine WX.region rfl ?_
    refine WXL.move Met.none rfl ?_
    refine WXL.move Met.none rfl ?_
    refine WXL.move Met.none rfl ?_
    refine WXL.move Met.none rfl ?_
    first | refine WXL.ix Met.none rfl rfl elem22 sz3 ?_ | refine WXL.ixS Met.none rfl rfl elem22 sz3 ?_
    first | refine WXL.ld Met.none rfl agg3 ?_ | refine WXL.ldS Met.none rfl agg3 ?_
    refine WXL.move Met.none rfl ?_
    refine WXL.bin Met.none rfl rfl bvA ?_
    first | refine WXL.ix Met.none rfl rfl elem22 sz3 ?_ | refine WXL.ixS Met.none rfl rfl elem22 sz3 ?_
    refine WXL.st (vs := [_]) Met.none rfl rfl rfl sz3 ?_
    refine WXL.nil ?_
    refine Fin.results (O' := [(b, ⟨1, false, (changeR n f i to d).map I⟩)] ++ R) (.inl rfl) rfl (vs := []) trivial ?_ ⟨_, .inr ⟨b, rfl, rfl, by unfold changeR; simp⟩, rfl⟩
    intro h hs
    unfold changeR
    first | rw [if_pos hc0] | rw [if_neg hc0]
    exact hs.tail
  · try simp only [cnd] at hc0
    have h2 := h2 hc0
    refine WX.region rfl ?_
    refine WXL.move Met.none rfl ?_
    refine WXL.move Met.none rfl ?_
    refine WXL.move Met.none rfl ?_
    refine WXL.move Met.none rfl ?_
    first | refine WXL.ix Met.none rfl rfl elem22 sz3 ?_ | refine WXL.ixS Met.none rfl rfl elem22 sz3 ?_
    first | refine WXL.ld Met.none rfl agg3 ?_ | refine WXL.ldS Met.none rfl agg3 ?_
    refine WXL.move Met.none rfl ?_
    refine WXL.bin Met.none rfl rfl bvS ?_
    first | refine WXL.ix Met.none rfl rfl elem22 sz3 ?_ | refine WXL.ixS Met.none rfl rfl elem22 sz3 ?_
    refine WXL.st (vs := [_]) Met.none rfl rfl rfl sz3 ?_
    refine WXL.nil ?_
    refine Fin.results (O' := [(b, ⟨1, false, (changeR n f i to d).map I⟩)] ++ R) (.inl rfl) rfl (vs := []) trivial ?_ ⟨_, .inr ⟨b, rfl, rfl, by unfold changeR; simp⟩, rfl⟩
    intro h hs
    unfold changeR
    first | rw [if_pos hc0] | rw [if_neg hc0]
    exact hs.tail

end Go.Proofs.Ytjmklialkjncaaa.Eng

/- Abstract values over the worlds of the model: rules by which a function is walked; plain lemmas. -/
import Derived.Test.YtkbpafipbhaknaaDoorQ4A5
namespace Go.Av
open Go

section
variable {X : Cx} {N : Nat} {σ σ' : Hp} {T T' : Tm} {Q : Exit → Hp → Tm → Prop} {ops : Array Oper} {c : Code}

/-- The function, called with these, over blocks of the caller's own: it returns r and leaves them so. -/
def Work (X : Cx) (f : FuncId) (args : List V) (σ σ' : Hp) (r : V) : Prop :=
  ∀ w G m (vs : List Value), St X w G m σ → VRs G m args vs → Calls X.P f vs.toArray w fun e w' => ∃ v G' m', e = .returned v ∧ St X w' G' m' σ' ∧ Tran w G m σ w' G' m' σ' ∧ VRV G' m' r v

def QWork (X : Cx) (N : Nat) (fn : Func) (σo : Hp) (r : V) (e : Exit) (σ : Hp) (T : Tm) : Prop :=
  (e = .ret ∨ e = .normal) ∧ ∃ T2 vs us, Ent X N σ T σo T2 ∧ evRs X σo T2 fn.results.toList = some vs ∧ resV (upVs us vs) = r
theorem qwork_r {fn : Func} {σo : Hp} {r : V} (T2 : Tm) (vs : List V) (us : List Up) (h : Ent X N σ T σo T2) (h1 : evRs X σo T2 fn.results.toList = some vs) (h2 : resV (upVs us vs) = r) : QWork X N fn σo r .ret σ T := ⟨.inl rfl, T2, vs, us, h, h1, h2⟩
theorem qwork_n {fn : Func} {σo : Hp} {r : V} (T2 : Tm) (vs : List V) (us : List Up) (h : Ent X N σ T σo T2) (h1 : evRs X σo T2 fn.results.toList = some vs) (h2 : resV (upVs us vs) = r) : QWork X N fn σo r .normal σ T := ⟨.inr rfl, T2, vs, us, h, h1, h2⟩

theorem Work_of_W {f : FuncId} {fn : Func} {args : List V} {σo : Hp} {r : V} (hf : X.P.funcs[f]? = some fn) (hb : fn.body = some c) (hN : fn.ntmps = N) (hl : args.length ≤ N) (h : W X N c σ (argsT 0 args) (QWork X N fn σo r)) : Work X f args σ σo r := by
  intro w G m vs s hv
  refine calls_of_wp hf hb (wp_mono (h w G m _ s ⟨?_, rfl, fun k x hx => ?_⟩) ?_)
  · simp [hN, hv.1]; omega
  · obtain ⟨-, h1⟩ := get_argsT hx
    simp only [Nat.sub_zero] at h1
    have hk : k < args.length := (List.getElem?_eq_some_iff.1 h1).1
    obtain ⟨u, hu, hr⟩ := hv.2 k x h1
    refine ⟨by omega, ?_⟩
    have hk' : k < vs.length := by rw [hv.1]; exact hk
    have : (vs.toArray ++ Array.replicate (fn.ntmps - vs.toArray.size) undef).getD k undef = u := by
      rw [List.getElem?_eq_getElem hk'] at hu
      obtain rfl := Option.some.inj hu
      simp [Array.getD, hk', Array.getElem_append]
      omega
    rw [this]; exact hr
  · rintro e a' w' ⟨G2, m2, σ2, T2, s2, t2, tr2, he, T3, xs, us, hent, h1, rfl⟩
    obtain ⟨G3, m3, s3, t3, tr3⟩ := hent w' G2 m2 a' s2 t2
    have hres : ∃ u, (results fn a'.tmps).run X.P w' = .ok u w' ∧ VRV G3 m3 (resV (upVs us xs)) u := by
      obtain ⟨ys, g1, g2⟩ := results_run s3 t3 fn.results.toList xs h1
      refine ⟨_, ?_, resV_ok (us := ys) (upVs_ok g2)⟩
      unfold results
      rw [Array.mapM_eq_mapM_toList]
      simp only [Sem.run_bind, Sem.run_map]
      erw [g1]
      rfl
    obtain ⟨u, g1, g2⟩ := hres
    rcases he with rfl | rfl
    · exact ⟨t3.defers, u, g1, u, G3, m3, rfl, s3, tr2.trans tr3, g2⟩
    · exact ⟨t3.defers, u, g1, u, G3, m3, rfl, s3, tr2.trans tr3, g2⟩

/-! ### the callee's numbers of blocks and the caller's -/
/-- callee's block b of version v: the caller's block pos b of version vm b -/
def rn (pos vm : List Nat) : A → A
  | .op b _ z i j => .op (pos.getD b 0) (vm.getD b 0) z i j
  | .sl b _ n => .sl (pos.getD b 0) (vm.getD b 0) n
  | a => a
def clI (n : Nat) (ov : List Nat) : A → Bool
  | .c _ => true
  | .op b v _ _ _ => Nat.blt b n && Nat.beq v (ov.getD b 0)
  | .sl b v _ => Nat.blt b n && Nat.beq v (ov.getD b 0)
  | .clos _ q cap => (List.range q).all fun i => clI n ov (cap i)
def clIV (n : Nat) (ov : List Nat) : V → Bool
  | .cell a => clI n ov a
  | .agg cs => cs.all (clI n ov)
  | .tup q f => (List.range q).all fun i => clIV n ov (f i)
def clIB (n : Nat) (ov : List Nat) : Option Blk → Bool
  | some (.lit _ _ cs) => cs.all (clI n ov)
  | some _ => true
  | none => false
def setV (v : Nat) : Option Blk → Option Blk
  | some (.rows _ e sz n r) => some (.rows v e sz n r)
  | some (.lit _ e cs) => some (.lit v e cs)
  | none => none
def verO : Option Blk → Nat | some B => B.ver | none => 0

def seeM (pos vm : List Nat) (m : OM) : OM := fun i u => if i < pos.length ∧ u = 1000 then m (pos.getD i 0) (vm.getD i 0) else none
def ovrM (pos nv ov : List Nat) (m mo : OM) : OM := fun i u => if pos.idxOf i < pos.length then (if u = nv.getD (pos.idxOf i) 0 then mo (pos.idxOf i) (ov.getD (pos.idxOf i) 0) else none) else m i u
def wrB (pos nv : List Nat) (σ σo : Hp) : Hp := (List.range σ.length).map fun i => bif Nat.blt (pos.idxOf i) pos.length then setV (nv.getD (pos.idxOf i) 0) (mpB (rn pos nv) (σo.getD (pos.idxOf i) none)) else σ.getD i none
/-- untouched, or staying where it was -/
def ntA (pos vm ov : List Nat) : A → Bool
  | .c _ => true
  | .op b v _ _ _ => !(pos.contains b) || (Nat.beq (ov.getD (pos.idxOf b) 0) 1000 && Nat.beq v (vm.getD (pos.idxOf b) 0))
  | .sl b v _ => !(pos.contains b) || (Nat.beq (ov.getD (pos.idxOf b) 0) 1000 && Nat.beq v (vm.getD (pos.idxOf b) 0))
  | .clos _ q cap => (List.range q).all fun i => ntA pos vm ov (cap i)
def ntV (pos vm ov : List Nat) : V → Bool
  | .cell a => ntA pos vm ov a
  | .agg cs => cs.all (ntA pos vm ov)
  | .tup q f => (List.range q).all fun i => ntV pos vm ov (f i)
def ntB (pos vm ov : List Nat) : Option Blk → Bool
  | some (.lit _ _ cs) => cs.all (ntA pos vm ov)
  | _ => true

theorem blt_lt {a b : Nat} (h : Nat.blt a b = true) : a < b := Nat.le_of_ble_eq_true h
theorem lt_blt {a b : Nat} (h : a < b) : Nat.blt a b = true := Nat.ble_eq_true_of_le h

section
variable {pos vm : List Nat} {G : GM} {m : OM} {n : Nat}
/-- all of version 1000 -/
abbrev th (n : Nat) : List Nat := List.replicate n 1000
theorem th_at {n b : Nat} (h : b < n) : (th n).getD b 0 = 1000 := by
  rw [List.getD_eq_getElem?_getD, List.getElem?_replicate, if_pos h]; rfl
theorem rn_see (hn : n = pos.length) : ∀ (a : A) (u : Value), clI n (th n) a = true → VRA G m (mpA (rn pos vm) a) u → VRA G (seeM pos vm m) a u := by
  subst hn
  have key : ∀ b v x, b < pos.length → v = 1000 → m (pos.getD b 0) (vm.getD b 0) = some x → seeM pos vm m b v = some x := fun b v x hb hv hx => by
    unfold seeM; rw [if_pos ⟨hb, hv⟩]; exact hx
  intro a
  induction a with
  | c x => intro u _ h; exact h
  | op b v z i j =>
    intro u hc h
    simp only [clI, Bool.and_eq_true] at hc
    have hb := blt_lt hc.1
    have hv := Nat.eq_of_beq_eq_true hc.2
    rw [th_at hb] at hv
    obtain ⟨g, k, cp, h1, h2⟩ := h
    exact ⟨g, k, cp, key _ _ _ hb hv h1, h2⟩
  | sl b v n =>
    intro u hc h
    simp only [clI, Bool.and_eq_true] at hc
    have hb := blt_lt hc.1
    have hv := Nat.eq_of_beq_eq_true hc.2
    rw [th_at hb] at hv
    obtain ⟨h1, h2⟩ := h
    exact ⟨key _ _ _ hb hv h1, h2⟩
  | clos f q cap ih =>
    intro u hc h
    obtain ⟨vs, rfl, h1, h2⟩ := h
    refine ⟨vs, rfl, h1, fun i hi => ?_⟩
    obtain ⟨y, hy, hr⟩ := h2 i hi
    have e : ((List.range q).map fun i => mpA (rn pos vm) (cap i)).getD i (.c .jk) = mpA (rn pos vm) (cap i) := by
      rw [List.getD_eq_getElem?_getD, List.getElem?_map, List.getElem?_range hi]; rfl
    have hr : VRA G m (((List.range q).map fun i => mpA (rn pos vm) (cap i)).getD i (.c .jk)) y := hr
    rw [e] at hr
    exact ⟨y, hy, ih i y (List.all_eq_true.1 hc i (List.mem_range.2 hi)) hr⟩
theorem rnV_see (hn : n = pos.length) : ∀ (x : V) (u : Value), clIV n (th n) x = true → VRV G m (mpV (rn pos vm) x) u → VRV G (seeM pos vm m) x u := by
  intro x
  induction x with
  | cell a => intro u hc h; exact rn_see hn a u hc h
  | agg cs =>
    intro u hc h
    obtain ⟨vs, rfl, h1, h2⟩ := h
    refine ⟨vs, rfl, by simpa using h1, fun i a ha => ?_⟩
    obtain ⟨y, hy, hr⟩ := h2 i (mpA (rn pos vm) a) (by rw [List.getElem?_map, ha]; rfl)
    exact ⟨y, hy, rn_see hn a y (List.all_eq_true.1 hc a (List.mem_of_getElem? ha)) hr⟩
  | tup q f ih =>
    intro u hc h
    obtain ⟨vs, rfl, h1, h2⟩ := h
    refine ⟨vs, rfl, h1, fun i hi => ?_⟩
    obtain ⟨y, hy, hr⟩ := h2 i hi
    exact ⟨y, hy, ih i y (List.all_eq_true.1 hc i (List.mem_range.2 hi)) hr⟩
theorem rnVs_see (hn : n = pos.length) {xs : List V} {vs : List Value} (hc : xs.all (clIV n (th n)) = true) (h : VRs G m (xs.map (mpV (rn pos vm))) vs) : VRs G (seeM pos vm m) xs vs := by
  refine ⟨by simpa using h.1, fun i x hx => ?_⟩
  obtain ⟨u, hu, hr⟩ := h.2 i (mpV (rn pos vm) x) (by rw [List.getElem?_map, hx]; rfl)
  exact ⟨u, hu, rnV_see hn x u (List.all_eq_true.1 hc x (List.mem_of_getElem? hx)) hr⟩
end

theorem idx_getD {pos : List Nat} (hnd : pos.Nodup) {j : Nat} (hj : j < pos.length) : pos.idxOf (pos.getD j 0) = j := by
  rw [List.getD_eq_getElem?_getD, List.getElem?_eq_getElem hj]
  exact hnd.idxOf_getElem j hj
theorem getD_idx {pos : List Nat} {i : Nat} (h : pos.idxOf i < pos.length) : pos.getD (pos.idxOf i) 0 = i := by
  rw [List.getD_eq_getElem?_getD, List.getElem?_eq_getElem h]
  exact List.getElem_idxOf h
theorem idx_lt {pos : List Nat} {i : Nat} (h : pos.contains i = true) : pos.idxOf i < pos.length := List.idxOf_lt_length_of_mem (List.contains_iff_mem.1 h)
theorem idx_not {pos : List Nat} {i : Nat} (h : (!(pos.contains i)) = true) : ¬ pos.idxOf i < pos.length := fun hl => by
  have : i ∈ pos := by rw [← getD_idx hl, List.getD_eq_getElem?_getD, List.getElem?_eq_getElem hl]; exact List.getElem_mem hl
  rw [List.contains_iff_mem.2 this] at h
  cases h

section
variable {pos vm nv ov : List Nat} {G G' : GM} {m mo : OM} {n : Nat}
/-- what the callee leaves, in the caller's numbers -/
theorem rn_ovr (hnd : pos.Nodup) (hn : n = pos.length) : ∀ (a : A) (u : Value), clI n ov a = true → VRA G mo a u → VRA G (ovrM pos nv ov m mo) (mpA (rn pos nv) a) u := by
  subst hn
  have key : ∀ b v x, b < pos.length → v = ov.getD b 0 → mo b v = some x → ovrM pos nv ov m mo (pos.getD b 0) (nv.getD b 0) = some x := fun b v x hb hv hx => by
    unfold ovrM
    rw [idx_getD hnd hb, if_pos hb, if_pos rfl, ← hv]
    exact hx
  intro a
  induction a with
  | c x => intro u _ h; exact h
  | op b v z i j =>
    intro u hc h
    simp only [clI, Bool.and_eq_true] at hc
    obtain ⟨g, k, cp, h1, h2⟩ := h
    exact ⟨g, k, cp, key _ _ _ (blt_lt hc.1) (Nat.eq_of_beq_eq_true hc.2) h1, h2⟩
  | sl b v n =>
    intro u hc h
    simp only [clI, Bool.and_eq_true] at hc
    obtain ⟨h1, h2⟩ := h
    exact ⟨key _ _ _ (blt_lt hc.1) (Nat.eq_of_beq_eq_true hc.2) h1, h2⟩
  | clos f q cap ih =>
    intro u hc h
    obtain ⟨vs, rfl, h1, h2⟩ := h
    refine ⟨vs, rfl, h1, fun i hi => ?_⟩
    obtain ⟨y, hy, hr⟩ := h2 i hi
    have e : ((List.range q).map fun i => mpA (rn pos nv) (cap i)).getD i (.c .jk) = mpA (rn pos nv) (cap i) := by
      rw [List.getD_eq_getElem?_getD, List.getElem?_map, List.getElem?_range hi]; rfl
    refine ⟨y, hy, ?_⟩
    show VRA G (ovrM pos nv ov m mo) (((List.range q).map fun i => mpA (rn pos nv) (cap i)).getD i (.c .jk)) y
    rw [e]
    exact ih i y (List.all_eq_true.1 hc i (List.mem_range.2 hi)) hr
theorem rnV_ovr (hnd : pos.Nodup) (hn : n = pos.length) : ∀ (x : V) (u : Value), clIV n ov x = true → VRV G mo x u → VRV G (ovrM pos nv ov m mo) (mpV (rn pos nv) x) u := by
  intro x
  induction x with
  | cell a => intro u hc h; exact rn_ovr hnd hn a u hc h
  | agg cs =>
    intro u hc h
    obtain ⟨vs, rfl, h1, h2⟩ := h
    refine ⟨vs, rfl, by simpa using h1, fun i a ha => ?_⟩
    rw [List.getElem?_map, Option.map_eq_some_iff] at ha
    obtain ⟨b, hb, rfl⟩ := ha
    obtain ⟨y, hy, hr⟩ := h2 i b hb
    exact ⟨y, hy, rn_ovr hnd hn b y (List.all_eq_true.1 hc b (List.mem_of_getElem? hb)) hr⟩
  | tup q f ih =>
    intro u hc h
    obtain ⟨vs, rfl, h1, h2⟩ := h
    refine ⟨vs, rfl, h1, fun i hi => ?_⟩
    obtain ⟨y, hy, hr⟩ := h2 i hi
    exact ⟨y, hy, ih i y (List.all_eq_true.1 hc i (List.mem_range.2 hi)) hr⟩

theorem nt_ovr (hG : ∀ b arr, G b = some arr → G' b = some arr) (hst : ∀ b, b < pos.length → ov.getD b 0 = 1000 → nv.getD b 0 = vm.getD b 0 ∧ mo b 1000 = m (pos.getD b 0) (vm.getD b 0)) : ∀ (a : A) (u : Value), ntA pos vm ov a = true → VRA G m a u → VRA G' (ovrM pos nv ov m mo) a u := by
  have key : ∀ b v x, (!(pos.contains b) || (Nat.beq (ov.getD (pos.idxOf b) 0) 1000 && Nat.beq v (vm.getD (pos.idxOf b) 0))) = true → m b v = some x → ovrM pos nv ov m mo b v = some x := fun b v x hb hx => by
    unfold ovrM
    cases hc : pos.contains b with
    | false => rw [if_neg (idx_not (by rw [hc]; rfl))]; exact hx
    | true =>
      rw [hc] at hb
      simp only [Bool.not_true, Bool.false_or, Bool.and_eq_true] at hb
      have hl := idx_lt hc
      have h1 := Nat.eq_of_beq_eq_true hb.1
      have h2 := Nat.eq_of_beq_eq_true hb.2
      obtain ⟨h3, h4⟩ := hst _ hl h1
      rw [if_pos hl, if_pos (by rw [h3]; exact h2), h1, h4, getD_idx hl, ← h2]
      exact hx
  intro a
  induction a with
  | c x => intro u _ h; exact VRC.mono hG _ _ h
  | op b v z i j =>
    intro u hc h
    obtain ⟨g, k, cp, h1, h2⟩ := h
    exact ⟨g, k, cp, key _ _ _ hc h1, h2⟩
  | sl b v n =>
    intro u hc h
    obtain ⟨h1, h2⟩ := h
    exact ⟨key _ _ _ hc h1, h2⟩
  | clos f q cap ih =>
    intro u hc h
    obtain ⟨vs, rfl, h1, h2⟩ := h
    refine ⟨vs, rfl, h1, fun i hi => ?_⟩
    obtain ⟨y, hy, hr⟩ := h2 i hi
    exact ⟨y, hy, ih i y (List.all_eq_true.1 hc i (List.mem_range.2 hi)) hr⟩
theorem ntV_ovr (hG : ∀ b arr, G b = some arr → G' b = some arr) (hst : ∀ b, b < pos.length → ov.getD b 0 = 1000 → nv.getD b 0 = vm.getD b 0 ∧ mo b 1000 = m (pos.getD b 0) (vm.getD b 0)) : ∀ (x : V) (u : Value), ntV pos vm ov x = true → VRV G m x u → VRV G' (ovrM pos nv ov m mo) x u := by
  intro x
  induction x with
  | cell a => intro u hc h; exact nt_ovr hG hst a u hc h
  | agg cs =>
    intro u hc h
    obtain ⟨vs, rfl, h1, h2⟩ := h
    refine ⟨vs, rfl, h1, fun i a ha => ?_⟩
    obtain ⟨y, hy, hr⟩ := h2 i a ha
    exact ⟨y, hy, nt_ovr hG hst a y (List.all_eq_true.1 hc a (List.mem_of_getElem? ha)) hr⟩
  | tup q f ih =>
    intro u hc h
    obtain ⟨vs, rfl, h1, h2⟩ := h
    refine ⟨vs, rfl, h1, fun i hi => ?_⟩
    obtain ⟨y, hy, hr⟩ := h2 i hi
    exact ⟨y, hy, ih i y (List.all_eq_true.1 hc i (List.mem_range.2 hi)) hr⟩
end

theorem get_keepT2 {ks : List Nat} {T : Tm} {k : Nat} {x : V} (h : get (keepT ks T) k = some x) : get T k = some x := get_keepT h

/-- vm: the caller's versions; nv: those behind the call; ov: the callee's -/
structure WorkOK (pos vm nv ov : List Nat) (σ σin σo : Hp) (n : Nat) : Prop where
  len : pos.length = n
  nd : pos.Nodup
  inl : σin.length = n
  outl : σo.length = n
  inv : σin.map verO = th n
  outv : σo.map verO = ov
  new : nv = (List.range n).map fun b => bif Nat.beq (ov.getD b 0) 1000 then vm.getD b 0 else vm.getD b 0 + 1
  no : (vm.all fun v => !(Nat.beq v 999)) = true
  inp : ((List.range n).map fun b => setV (vm.getD b 0) (mpB (rn pos vm) (σin.getD b none))) = pos.map fun p => σ.getD p none
  cl : σin.all (clIB n (th n)) = true
  clo : σo.all (clIB n ov) = true
  nt : ((List.range σ.length).all fun i => pos.contains i || ntB pos vm ov (σ.getD i none)) = true

section
variable {pos vm nv ov : List Nat} {σin σo : Hp} {n : Nat} {w : World} {G : GM} {m : OM}

theorem setV_at {w : World} {G : GM} {m : OM} {v : Value} {u : Nat} {B B' : Blk} (h : setV u (some B) = some B') : (BlkAt w G m v B ↔ BlkAt w G m v B') ∧ B'.ver = u := by
  cases B <;> (obtain rfl := Option.some.inj h; exact ⟨Iff.rfl, rfl⟩)
theorem setV_ver {u : Nat} {B B' : Blk} (h : setV u (some B) = some B') : B'.ver = u := by
  cases B <;> (obtain rfl := Option.some.inj h; rfl)
theorem setV_some {u : Nat} {ob : Option Blk} {B' : Blk} (h : setV u ob = some B') : ∃ B, ob = some B := by
  cases ob with
  | none => cases h
  | some B => exact ⟨B, rfl⟩

theorem WorkOK.nvAt (h : WorkOK pos vm nv ov σ σin σo n) {b : Nat} (hb : b < n) : nv.getD b 0 = bif Nat.beq (ov.getD b 0) 1000 then vm.getD b 0 else vm.getD b 0 + 1 := by
  rw [h.new, List.getD_eq_getElem?_getD, List.getElem?_map, List.getElem?_range hb]; rfl
theorem WorkOK.no999 (h : WorkOK pos vm nv ov σ σin σo n) (b : Nat) : vm.getD b 0 ≠ 999 := by
  rw [List.getD_eq_getElem?_getD]
  cases hg : vm[b]? with
  | none => simp
  | some v =>
    have := List.all_eq_true.1 h.no v (List.mem_of_getElem? hg)
    intro e
    have e : v = 999 := e
    subst e
    cases this
theorem WorkOK.at (h : WorkOK pos vm nv ov σ σin σo n) {j : Nat} {B : Blk} (hB : σin[j]? = some (some B)) : j < pos.length ∧ B.ver = 1000 ∧ ∃ B1 B2, mpB (rn pos vm) (some B) = some B1 ∧ setV (vm.getD j 0) (some B1) = some B2 ∧ σ[pos.getD j 0]? = some (some B2) := by
  have hj : j < σin.length := lt_of hB
  have hjn : j < n := by rw [← h.inl]; exact hj
  have hj' : j < pos.length := by rw [h.len]; exact hjn
  refine ⟨hj', ?_, ?_⟩
  · have h1 := congrArg (·[j]?) h.inv
    simp only [List.getElem?_map, hB, Option.map_some, List.getElem?_replicate, if_pos hjn] at h1
    exact Option.some.inj h1
  obtain ⟨B1, hB1⟩ : ∃ B1, mpB (rn pos vm) (some B) = some B1 := by cases B <;> exact ⟨_, rfl⟩
  obtain ⟨B2, hB2⟩ : ∃ B2, setV (vm.getD j 0) (some B1) = some B2 := by cases B1 <;> exact ⟨_, rfl⟩
  refine ⟨B1, B2, hB1, hB2, ?_⟩
  have h1 := congrArg (·[j]?) h.inp
  simp only [List.getElem?_map, List.getElem?_range hjn, Option.map_some, List.getElem?_eq_getElem hj'] at h1
  have h2 := Option.some.inj h1
  rw [show σin.getD j none = some B by rw [List.getD_eq_getElem?_getD, hB]; rfl, hB1, hB2] at h2
  rw [List.getD_eq_getElem?_getD, List.getElem?_eq_getElem hj']
  show σ[pos[j]]? = _
  cases hg : σ[pos[j]]? with
  | none => rw [List.getD_eq_getElem?_getD, hg] at h2; cases h2
  | some ob => rw [List.getD_eq_getElem?_getD, hg] at h2; exact congrArg some h2.symm
theorem WorkOK.lt (h : WorkOK pos vm nv ov σ σin σo n) {j : Nat} (hj : j < pos.length) : pos.getD j 0 < σ.length := by
  have hj2 : j < σin.length := by rw [h.inl, ← h.len]; exact hj
  have h1 := List.all_eq_true.1 h.cl σin[j] (List.getElem_mem hj2)
  cases hB : σin[j] with
  | none => rw [hB] at h1; cases h1
  | some B =>
    obtain ⟨_, _, B1, B2, _, _, h2⟩ := h.at (j := j) (B := B) (by rw [List.getElem?_eq_getElem hj2, hB])
    exact lt_of h2
theorem WorkOK.see (h : WorkOK pos vm nv ov σ σin σo n) (s : St X w G m σ) : St X w G (seeM pos vm m) σin := by
  have hm : ∀ j, j < pos.length → seeM pos vm m j 1000 = m (pos.getD j 0) (vm.getD j 0) := fun j hj => by unfold seeM; rw [if_pos ⟨hj, rfl⟩]
  refine ⟨s.fro, s.glob, fun j B hB => ?_, fun i j B B' v v' hij h1 h2 h3 h4 => ?_, fun j B u hB hu => ?_, fun i u hi => ?_⟩
  · obtain ⟨hj, hver, B1, B2, hB1, hB2, hσ⟩ := h.at hB
    obtain ⟨v, h1, h2, h3⟩ := s.own _ B2 hσ
    obtain ⟨hat, hv2⟩ := setV_at (w := w) (G := G) (m := m) (v := v) hB2
    refine ⟨v, by rw [hver, hm j hj, ← hv2]; exact h1, ?_, h3⟩
    obtain ⟨xs, g1, g2⟩ := hat.2 h2
    cases B with
    | rows ver e sz k row => obtain rfl := Option.some.inj hB1; exact ⟨xs, g1, g2⟩
    | lit ver e cs =>
      obtain rfl := Option.some.inj hB1
      refine ⟨xs, by simpa [Blk.sz, Blk.e, Blk.len] using g1, fun i hi q hq => ?_⟩
      have hq' : q < cs.length := hq
      obtain ⟨u, hu, hr⟩ := g2 i hi q (by simpa [Blk.sz] using hq')
      refine ⟨u, by simpa [Blk.sz] using hu, ?_⟩
      have hr : VRA G m ((cs.map (mpA (rn pos vm))).getD q (.c .jk)) u := hr
      rw [List.getD_eq_getElem?_getD, List.getElem?_map, List.getElem?_eq_getElem hq'] at hr
      show VRA G (seeM pos vm m) (cs.getD q (.c .jk)) u
      rw [List.getD_eq_getElem?_getD, List.getElem?_eq_getElem hq']
      refine rn_see h.len.symm _ u ?_ hr
      have h5 := List.all_eq_true.1 h.cl _ (List.mem_of_getElem? hB)
      exact List.all_eq_true.1 h5 _ (List.getElem_mem hq')
  · obtain ⟨hi, hver1, C1, C2, hC1, hC2, hσ1⟩ := h.at h1
    obtain ⟨hj, hver2, D1, D2, hD1, hD2, hσ2⟩ := h.at h2
    rw [hver1, hm i hi, ← setV_ver hC2] at h3
    rw [hver2, hm j hj, ← setV_ver hD2] at h4
    refine s.sep _ _ C2 D2 v v' (fun e => hij ?_) hσ1 hσ2 h3 h4
    rw [← idx_getD h.nd hi, ← idx_getD h.nd hj, e]
  · obtain ⟨hj, hver, B1, B2, hB1, hB2, hσ⟩ := h.at hB
    unfold seeM
    rw [if_neg (by rintro ⟨_, rfl⟩; omega)]
  · unfold seeM
    rw [if_neg (by rw [h.len, ← h.inl]; omega)]
theorem WorkOK.img (h : WorkOK pos vm nv ov σ σin σo n) {k : Nat} (hk : Img (seeM pos vm m) σin k) : ∃ j B v, j < pos.length ∧ σ[pos.getD j 0]? = some (some B) ∧ m (pos.getD j 0) B.ver = some v ∧ v.ownBlock = some k := by
  obtain ⟨j, B, v, h1, h2, h3⟩ := hk
  obtain ⟨hj, hver, B1, B2, hB1, hB2, hσ⟩ := h.at h1
  rw [hver] at h2
  unfold seeM at h2
  rw [if_pos ⟨hj, rfl⟩] at h2
  exact ⟨j, B2, v, hj, hσ, by rw [setV_ver hB2]; exact h2, h3⟩

theorem WorkOK.stay (h : WorkOK pos vm nv ov σ σin σo n) {w' : World} {G' : GM} {mo : OM} (tr : Tran w G (seeM pos vm m) σin w' G' mo σo) : ∀ b, b < pos.length → ov.getD b 0 = 1000 → nv.getD b 0 = vm.getD b 0 ∧ mo b 1000 = m (pos.getD b 0) (vm.getD b 0) := by
  intro b hb ho
  have hbn : b < n := by rw [← h.len]; exact hb
  refine ⟨by rw [h.nvAt hbn, ho]; rfl, ?_⟩
  have hbo : b < σo.length := by rw [h.outl]; exact hbn
  have h1 := List.all_eq_true.1 h.clo σo[b] (List.getElem_mem hbo)
  cases hB : σo[b] with
  | none => rw [hB] at h1; cases h1
  | some B =>
    have h2 := congrArg (·[b]?) h.outv
    simp only [List.getElem?_map, List.getElem?_eq_getElem hbo, hB, Option.map_some] at h2
    have h3 : B.ver = 1000 := by
      rw [← ho, List.getD_eq_getElem?_getD, ← h2]; rfl
    obtain ⟨_, h4⟩ := tr.keep b B (by rw [List.getElem?_eq_getElem hbo, hB]) h3
    rw [h4]
    unfold seeM
    rw [if_pos ⟨hb, rfl⟩]

theorem WorkOK.back (h : WorkOK pos vm nv ov σ σin σo n) (s : St X w G m σ) {w' : World} {G' : GM} {mo : OM} (so : St X w' G' mo σo) (tr : Tran w G (seeM pos vm m) σin w' G' mo σo) :
    St X w' G' (ovrM pos nv ov m mo) (wrB pos nv σ σo) ∧ Tran w G m σ w' G' (ovrM pos nv ov m mo) (wrB pos nv σ σo) := by
  have hwl : (wrB pos nv σ σo).length = σ.length := by simp [wrB]
  have hst := h.stay tr
  have hget : ∀ (i : Nat) B, (wrB pos nv σ σo)[i]? = some (some B) → (pos.idxOf i < pos.length ∧ ∃ B1 B2, σo[pos.idxOf i]? = some (some B1) ∧ mpB (rn pos nv) (some B1) = some B2 ∧ setV (nv.getD (pos.idxOf i) 0) (some B2) = some B) ∨ (¬ pos.idxOf i < pos.length ∧ σ[i]? = some (some B) ∧ ntB pos vm ov (some B) = true) := by
    intro i B hB
    have hi : i < σ.length := by rw [← hwl]; exact lt_of hB
    unfold wrB at hB
    rw [List.getElem?_map, List.getElem?_range hi] at hB
    simp only [Option.map_some, Option.some.injEq] at hB
    cases hb : Nat.blt (pos.idxOf i) pos.length with
    | true =>
      rw [hb] at hB
      simp only [cond_true] at hB
      obtain ⟨B2, hB2⟩ := setV_some hB
      rw [hB2] at hB
      obtain ⟨B1, hB1⟩ := mpB_some hB2
      refine .inl ⟨blt_lt hb, B1, B2, ?_, by rw [← hB1]; exact hB2, hB⟩
      rw [List.getD_eq_getElem?_getD] at hB1
      cases hg : σo[pos.idxOf i]? with
      | none => rw [hg] at hB1; cases hB1
      | some ob => rw [hg] at hB1; exact congrArg some hB1
    | false =>
      rw [hb] at hB
      simp only [cond_false] at hB
      have hn : ¬ pos.idxOf i < pos.length := fun hl => by rw [lt_blt hl] at hb; cases hb
      refine .inr ⟨hn, ?_, ?_⟩
      · rw [List.getD_eq_getElem?_getD, List.getElem?_eq_getElem hi] at hB
        rw [List.getElem?_eq_getElem hi]
        exact congrArg some hB
      · have h1 := List.all_eq_true.1 h.nt i (List.mem_range.2 hi)
        rw [hB, Bool.or_eq_true] at h1
        rcases h1 with h1 | h1
        · exact absurd (idx_lt h1) hn
        · exact h1
  -- a block that came back
  have hback : ∀ i B B1 B2, pos.idxOf i < pos.length → σo[pos.idxOf i]? = some (some B1) → mpB (rn pos nv) (some B1) = some B2 → setV (nv.getD (pos.idxOf i) 0) (some B2) = some B → ovrM pos nv ov m mo i B.ver = mo (pos.idxOf i) B1.ver := by
    intro i B B1 B2 hi h1 h2 h3
    unfold ovrM
    rw [if_pos hi, setV_ver h3, if_pos rfl]
    have h4 := congrArg (·[pos.idxOf i]?) h.outv
    simp only [List.getElem?_map, h1, Option.map_some] at h4
    congr 1
    rw [List.getD_eq_getElem?_getD, ← h4]
    rfl
  have hnot : ∀ i, ¬ pos.idxOf i < pos.length → ∀ u, ovrM pos nv ov m mo i u = m i u := fun i hi u => by unfold ovrM; rw [if_neg hi]
  -- blocks that the callee did not see
  have other : ∀ i B v g, ¬ pos.idxOf i < pos.length → σ[i]? = some (some B) → m i B.ver = some v → v.ownBlock = some g → g < w.heap.size ∧ ¬ Img (seeM pos vm m) σin g := by
    intro i B v g hn hB hv hg
    obtain ⟨v', h1, h2, h3⟩ := s.own i B hB
    obtain rfl := Option.some.inj (hv.symm.trans h1)
    refine ⟨h2.lt hg, fun hI => ?_⟩
    obtain ⟨j, B2, v2, hj, g1, g2, g3⟩ := h.img hI
    have hne : i ≠ pos.getD j 0 := fun e => by subst e; rw [idx_getD h.nd hj] at hn; exact hn hj
    rcases s.sep i _ B B2 v v2 hne hB g1 hv g2 with h4 | h4
    · rw [h4] at hg; cases hg
    · exact h4 (hg.trans g3.symm)
  have himgo : ∀ i B v g, σo[pos.idxOf i]? = some (some B) → mo (pos.idxOf i) B.ver = some v → v.ownBlock = some g → Img (seeM pos vm m) σin g ∨ w.heap.size ≤ g :=
    fun i B v g hB hv hg => tr.img g ⟨_, B, v, hB, hv, hg⟩
  refine ⟨⟨so.fro, so.glob, fun i B hB => ?_, fun i j B B' v v' hij h1 h2 h3 h4 => ?_, fun i B u hB hu => ?_, fun i u hi => ?_⟩, ⟨tr.os, tr.tape, tr.output, tr.size, fun k hk hn => tr.frame k hk fun hI => hn ?_, tr.gext, fun b arr hb => ?_, fun k hk => ?_, fun i B hB hv => ?_⟩⟩
  · rcases hget i B hB with ⟨hi, B1, B2, h1, h2, h3⟩ | ⟨hi, h1, h2⟩
    · obtain ⟨v, g1, g2, g3⟩ := so.own _ B1 h1
      refine ⟨v, by rw [hback i B B1 B2 hi h1 h2 h3]; exact g1, ?_, g3⟩
      refine (setV_at (w := w') (G := G') (m := ovrM pos nv ov m mo) (v := v) h3).1.1 ?_
      have hcl := List.all_eq_true.1 h.clo _ (List.mem_of_getElem? h1)
      obtain ⟨xs, k1, k2⟩ := g2
      cases B1 with
      | rows ver e sz k row => obtain rfl := Option.some.inj h2; exact ⟨xs, k1, k2⟩
      | lit ver e cs =>
        obtain rfl := Option.some.inj h2
        refine ⟨xs, by simpa [Blk.sz, Blk.e, Blk.len] using k1, fun p hp q hq => ?_⟩
        have hq' : q < cs.length := by simpa [Blk.sz] using hq
        obtain ⟨u, hu, hr⟩ := k2 p hp q hq'
        refine ⟨u, by simpa [Blk.sz] using hu, ?_⟩
        have hr : VRA G' mo (cs.getD q (.c .jk)) u := hr
        rw [List.getD_eq_getElem?_getD, List.getElem?_eq_getElem hq'] at hr
        show VRA G' (ovrM pos nv ov m mo) ((cs.map (mpA (rn pos nv))).getD q (.c .jk)) u
        rw [List.getD_eq_getElem?_getD, List.getElem?_map, List.getElem?_eq_getElem hq']
        exact rn_ovr h.nd h.len.symm _ u (List.all_eq_true.1 hcl _ (List.getElem_mem hq')) hr
    · obtain ⟨v, g1, g2, g3⟩ := s.own i B h1
      refine ⟨v, by rw [hnot i hi]; exact g1, ?_, fun g hg => ?_⟩
      · obtain ⟨xs, k1, k2⟩ := g2
        refine ⟨xs, ownsRow_frame k1 (fun g hg => tr.frame g (other i B v g hi h1 g1 hg).1 (other i B v g hi h1 g1 hg).2), fun p hp q hq => ?_⟩
        obtain ⟨u, hu, hr⟩ := k2 p hp q hq
        refine ⟨u, hu, ?_⟩
        cases B with
        | rows ver e sz k row => exact VRC.mono tr.gext _ _ hr
        | lit ver e cs =>
          refine nt_ovr tr.gext hst _ u ?_ hr
          show ntA pos vm ov (cs.getD q (.c .jk)) = true
          rw [List.getD_eq_getElem?_getD]
          cases hq' : cs[q]? with
          | none => rfl
          | some a => exact List.all_eq_true.1 h2 a (List.mem_of_getElem? hq')
      · obtain ⟨o1, o2⟩ := other i B v g hi h1 g1 hg
        cases hG : G' g with
        | none => rfl
        | some arr =>
          rcases tr.gnew g arr hG with k | k | k
          · rw [g3 g hg] at k; cases k
          · exact absurd k o2
          · omega
  · rcases hget i B h1 with ⟨hi, B1, B2, i1, i2, i3⟩ | ⟨hi, i1, i2⟩ <;> rcases hget j B' h2 with ⟨hj, D1, D2, j1, j2, j3⟩ | ⟨hj, j1, j2⟩
    · rw [hback i B B1 B2 hi i1 i2 i3] at h3
      rw [hback j B' D1 D2 hj j1 j2 j3] at h4
      exact so.sep _ _ B1 D1 v v' (fun e => hij (by rw [← getD_idx hi, ← getD_idx hj, e])) i1 j1 h3 h4
    · rw [hback i B B1 B2 hi i1 i2 i3] at h3
      rw [hnot j hj] at h4
      cases hv : v.ownBlock with
      | none => exact .inl rfl
      | some g =>
        refine .inr fun hg => ?_
        obtain ⟨o1, o2⟩ := other j B' v' g hj j1 h4 hg.symm
        rcases himgo i B1 v g i1 h3 hv with k | k
        · exact o2 k
        · omega
    · rw [hback j B' D1 D2 hj j1 j2 j3] at h4
      rw [hnot i hi] at h3
      cases hv : v.ownBlock with
      | none => exact .inl rfl
      | some g =>
        refine .inr fun hg => ?_
        obtain ⟨o1, o2⟩ := other i B v g hi i1 h3 hv
        rcases himgo j D1 v' g j1 h4 hg.symm with k | k
        · exact o2 k
        · omega
    · rw [hnot i hi] at h3
      rw [hnot j hj] at h4
      exact s.sep i j B B' v v' hij i1 j1 h3 h4
  · rcases hget i B hB with ⟨hi, B1, B2, h1, h2, h3⟩ | ⟨hi, h1, h2⟩
    · rw [setV_ver h3] at hu
      unfold ovrM
      rw [if_pos hi, if_neg (by omega)]
    · rw [hnot i hi]
      exact s.top i B u h1 hu
  · rw [hwl] at hi
    rw [hnot i (fun hl => by have := h.lt hl; rw [getD_idx hl] at this; omega)]
    exact s.lim i u hi
  · obtain ⟨j, B, v, hj, g1, g2, g3⟩ := h.img hI
    exact ⟨_, B, v, g1, g2, g3⟩
  · rcases tr.gnew b arr hb with k | k | k
    · exact .inl k
    · obtain ⟨j, B, v, hj, g1, g2, g3⟩ := h.img k
      exact .inr (.inl ⟨_, B, v, g1, g2, g3⟩)
    · exact .inr (.inr k)
  · obtain ⟨i, B, v, h1, h2, h3⟩ := hk
    rcases hget i B h1 with ⟨hi, B1, B2, i1, i2, i3⟩ | ⟨hi, i1, i2⟩
    · rw [hback i B B1 B2 hi i1 i2 i3] at h2
      rcases himgo i B1 v k i1 h2 h3 with q | q
      · obtain ⟨j, C, v2, hj, g1, g2, g3⟩ := h.img q
        exact .inl ⟨_, C, v2, g1, g2, g3⟩
      · exact .inr q
    · rw [hnot i hi] at h2
      exact .inl ⟨i, B, v, i1, h2, h3⟩
  · rcases hget i B hB with ⟨hi, B1, B2, i1, i2, i3⟩ | ⟨hi, i1, i2⟩
    · have hv2 := setV_ver i3
      rw [hv] at hv2
      have hin : pos.idxOf i < n := by rw [← h.len]; exact hi
      have hnv := h.nvAt hin
      cases hb : Nat.beq (ov.getD (pos.idxOf i) 0) 1000 with
      | false =>
        rw [hb, ← hv2] at hnv
        exact absurd (by simp only [cond_false] at hnv; omega) (h.no999 (pos.idxOf i))
      | true =>
        rw [hb, ← hv2] at hnv
        simp only [cond_true] at hnv
        obtain ⟨_, hmo⟩ := hst _ hi (Nat.eq_of_beq_eq_true hb)
        have hio : pos.idxOf i < σin.length := by rw [h.inl]; exact hin
        have hc := List.all_eq_true.1 h.cl σin[pos.idxOf i] (List.getElem_mem hio)
        cases hD : σin[pos.idxOf i] with
        | none => rw [hD] at hc; cases hc
        | some D =>
          obtain ⟨_, _, D1, D2, _, d2, d3⟩ := h.at (j := pos.idxOf i) (B := D) (by rw [List.getElem?_eq_getElem hio, hD])
          rw [getD_idx hi] at d3 hmo
          refine ⟨⟨D2, d3, ?_⟩, ?_⟩
          · rw [setV_ver d2, ← hnv]
          · unfold ovrM
            rw [if_pos hi, if_pos hv2, Nat.eq_of_beq_eq_true hb, hmo, ← hnv]
    · exact ⟨⟨B, i1, hv⟩, hnot i hi _⟩
end

/-- at a call through a function or a closure: the callee, the arguments with what it captured, the temporary -/
def capsA (n : Nat) (cap : Nat → A) : List V := (List.range n).map fun i => .cell (cap i)
def atCallW (X : Cx) (N : Nat) (ops : Array Oper) (k : Nat) (T : Tm) : Option (FuncId × List V × Option Tmp) :=
  match ops[k]? with
  | some o =>
    match o.op with
    | .call ⟨.value fo, args, _⟩ =>
      match allSome (args.toList.map (evO X T)) with
      | some avs =>
        bif fitD N o.dst && isYes (wantedA ops T o) then
          match evO X T fo with
          | some (.cell (.c (.fn f n cap))) => some (f, avs ++ capsC n cap, o.dst)
          | some (.cell (.clos f n cap)) => some (f, avs ++ capsA n cap, o.dst)
          | _ => none
        else none
      | _ => none
    | _ => none
  | none => none

theorem capsA_ok {G : GM} {m : OM} {n : Nat} {cap : Nat → A} {vs : Array Value} (hs : vs.size = n) (h : ∀ i, i < n → ∃ u, vs[i]? = some u ∧ VRA G m (cap i) u) : VRs G m (capsA n cap) vs.toList := by
  refine ⟨by simp [capsA, hs], fun i x hi => ?_⟩
  simp only [capsA, List.getElem?_map, Option.map_eq_some_iff] at hi
  obtain ⟨q, hq, rfl⟩ := hi
  obtain ⟨h2, rfl⟩ := List.getElem?_eq_some_iff.1 hq
  simp only [List.length_range] at h2
  simp only [List.getElem_range]
  obtain ⟨u, hu, hr⟩ := h i h2
  exact ⟨u, by simpa using hu, hr⟩

theorem atCallW_run {k : Nat} {f : FuncId} {all : List V} {d : Option Tmp} (h : atCallW X N ops k T = some (f, all, d)) (hc : ∀ (as : Array Value) (w : World), (callFunc f as).run X.P w = .ok (.enter f as) w) : ∃ o, ops[k]? = some o ∧ o.dst = d ∧ wantedA ops T o = some true ∧ fitD N d = true ∧
    ∀ w G m a, St X w G m σ → TR N G m a T → ∃ vs : List Value, (execOp a.eval o).run X.P w = .ok (.enter f vs.toArray) w ∧ VRs G m all vs := by
  unfold atCallW at h
  split at h
  case h_2 => cases h
  rename_i o hk
  split at h
  case h_2 => cases h
  rename_i fo args ts ho
  split at h
  case h_2 => cases h
  rename_i avs hav
  cases hb : (fitD N o.dst && isYes (wantedA ops T o)) with
  | false => rw [hb] at h; cases h
  | true =>
    rw [hb] at h
    rw [Bool.and_eq_true] at hb
    simp only [cond_true] at h
    split at h
    · rename_i f' n cap hfo
      simp only [Option.some.injEq, Prod.mk.injEq] at h
      obtain ⟨rfl, rfl, rfl⟩ := h
      refine ⟨o, hk, rfl, isYes_ok hb.2, hb.1, fun w G m a s t => ?_⟩
      obtain ⟨caps, hfv, hs, hcv⟩ := evO_ok s t hfo
      exact ⟨_, run_call ho hfv hc, (allSome_ok hav fun x _ v hv => evO_ok s t hv).append (capsC_ok hs hcv)⟩
    · rename_i f' n cap hfo
      simp only [Option.some.injEq, Prod.mk.injEq] at h
      obtain ⟨rfl, rfl, rfl⟩ := h
      refine ⟨o, hk, rfl, isYes_ok hb.2, hb.1, fun w G m a s t => ?_⟩
      obtain ⟨caps, hfv, hs, hcv⟩ := evO_ok s t hfo
      exact ⟨_, run_call ho hfv hc, (allSome_ok hav fun x _ v hv => evO_ok s t hv).append (capsA_ok hs hcv)⟩
    · cases h

theorem WO_work {k : Nat} {f : FuncId} {all args : List V} {d : Option Tmp} {r : V} (pos vm nv ov ks : List Nat) {σin σo : Hp} {n : Nat} (h : atCallW X N ops k T = some (f, all, d)) (hc : ∀ (as : Array Value) (w : World), (callFunc f as).run X.P w = .ok (.enter f as) w)
    (hp : Work X f args σin σo r) (ha : args.map (mpV (rn pos vm)) = all) (hca : args.all (clIV n (th n)) = true) (hcr : clIV n ov r = true) (hok : WorkOK pos vm nv ov σ σin σo n) {T1 : Tm} (hT1 : keepT ks T = T1) (hnt : (T1.all fun p => ntV pos vm ov p.2) = true)
    (hσ : wrB pos nv σ σo = σ') (hT : put T1 d (mpV (rn pos nv) r) = T') (hw : WO X N ops (k + 1) σ' T' Q) : WO X N ops k σ T Q := by
  subst hσ; subst ha; subst hT1; subst hT
  obtain ⟨o, hk, rfl, hg, hd, hrun⟩ := atCallW_run (σ := σ) h hc
  intro w0 G0 μ σ0 w G m a s t tr
  rw [drop_cons hk]
  refine wpList_step fun K hK => ?_
  rw [if_pos (wanted_ok t hg)]
  obtain ⟨vs, hrun, hvs⟩ := hrun w G m a s t
  unfold Oper.wp
  rw [hrun]
  refine (hp w G _ vs (hok.see s) (rnVs_see hok.len.symm hca hvs)).mono ?_
  rintro e w' ⟨v, G', mo, rfl, so, tro, hv⟩
  obtain ⟨s', tr'⟩ := hok.back s so tro
  have t1 : TR N G' (ovrM pos nv ov m mo) a (keepT ks T) := ⟨t.size, t.defers, fun q x hx => by
    obtain ⟨h1, h2⟩ := t.vals q x (get_keepT hx)
    exact ⟨h1, ntV_ovr tro.gext (hok.stay tro) x _ (List.all_eq_true.1 hnt _ (get_mem hx)) h2⟩⟩
  exact hK _ _ (hw w0 G0 μ σ0 w' G' _ _ s' (t1.put hd (rnV_ovr hok.nd hok.len.symm _ _ hcr hv)) (tr.trans tr'))
end
end Go.Av

namespace Go.Av
open Go

section
variable {X : Cx} {N : Nat} {σ σ' : Hp} {T T' : Tm} {Q : Exit → Hp → Tm → Prop} {w : World} {G : GM} {m : OM}

/-- the cells of a box told otherwise -/
theorem St.relit (s : St X w G m σ) {b ver e : Nat} {cs cs' : List A} (hB : σ[b]? = some (some (.lit ver e cs))) (hl : cs'.length = cs.length) (hc : ∀ j u, VRA G m (cs.getD j (.c .jk)) u → VRA G m (cs'.getD j (.c .jk)) u) :
    St X w G m (σ.set b (some (.lit ver e cs'))) ∧ Tran w G m σ w G m (σ.set b (some (.lit ver e cs'))) := by
  have hb : b < σ.length := lt_of hB
  have hget : ∀ (i : Nat) B, (σ.set b (some (.lit ver e cs')))[i]? = some (some B) → ∃ B', σ[i]? = some (some B') ∧ B'.ver = B.ver ∧ (B = B' ∨ (B = .lit ver e cs' ∧ B' = .lit ver e cs)) := by
    intro i B h1
    rw [List.getElem?_set] at h1
    split at h1
    · rename_i hbi
      subst hbi
      obtain rfl := Option.some.inj (Option.some.inj h1)
      exact ⟨_, hB, rfl, .inr ⟨rfl, rfl⟩⟩
    · exact ⟨B, h1, rfl, .inl rfl⟩
  refine ⟨⟨s.fro, s.glob, fun i B h1 => ?_, fun i j B B' v v' hij h1 h2 h3 h4 => ?_, fun i B u h1 hu => ?_, fun i u hi => s.lim i u (by simpa using hi)⟩, ⟨rfl, rfl, rfl, Nat.le_refl _, fun _ _ _ => rfl, fun _ _ h => h, fun _ _ h => .inl h, fun k h => ?_, fun i B h hv => ?_⟩⟩
  · obtain ⟨B', h2, h3, h4⟩ := hget i B h1
    obtain ⟨v, h5, h6, h7⟩ := s.own i B' h2
    refine ⟨v, by rw [← h3]; exact h5, ?_, h7⟩
    rcases h4 with rfl | ⟨rfl, rfl⟩
    · exact h6
    · obtain ⟨xs, g1, g2⟩ := h6
      refine ⟨xs, by simpa [Blk.sz, Blk.e, Blk.len, hl] using g1, fun p hp q hq => ?_⟩
      obtain ⟨u, hu, hr'⟩ := g2 p hp q (by simpa [Blk.sz, hl] using hq)
      exact ⟨u, by simpa [Blk.sz, hl] using hu, hc q u hr'⟩
  · obtain ⟨B1, g1, g2, -⟩ := hget i B h1
    obtain ⟨B2, k1, k2, -⟩ := hget j B' h2
    rw [← g2] at h3; rw [← k2] at h4
    exact s.sep i j B1 B2 v v' hij g1 k1 h3 h4
  · obtain ⟨B1, g1, g2, -⟩ := hget i B h1
    exact s.top i B1 u g1 (by rw [g2]; exact hu)
  · obtain ⟨i, B, v, h1, h2, h3⟩ := h
    obtain ⟨B', g1, g2, -⟩ := hget i B h1
    exact .inl ⟨i, B', v, g1, by rw [g2]; exact h2, h3⟩
  · obtain ⟨B', g1, g2, -⟩ := hget i B h
    exact ⟨⟨B', g1, by rw [g2]; exact hv⟩, rfl⟩

theorem ent_cellnil (b q e sz : Nat) (row : Nat → Nat → C) {ver e' : Nat} {cs cs' : List A} (hsz : Nat.blt 0 sz = true) (hB : σ[b]? = some (some (.lit ver e' cs))) (hq : cs[q]? = some (.c .nsl)) (hcs : cs.set q (.sl σ.length 0 0) = cs')
    (hσ : (σ ++ [some (Blk.rows 0 e sz 0 row)]).set b (some (.lit ver e' cs')) = σ') : Ent X N σ T σ' T := by
  subst hσ; subst hcs
  intro w G m a s tr
  have hext : ∀ a u x, m a u = some x → updM m σ.length 0 (.slice none 0 0) a u = some x := updM_ext (.inl (s.lim _ _ (Nat.le_refl _)))
  obtain ⟨h1, h2⟩ := s.push (w' := w) (v := .slice none 0 0) (B := .rows 0 e sz 0 row) ⟨rfl, rfl, rfl, Nat.le_refl _, fun _ _ _ => rfl⟩ rfl (fun k hk => by cases hk)
    ⟨[], ⟨by simp [Blk.len], .inl ⟨rfl, rfl⟩⟩, fun i hi => by simp [Blk.len] at hi⟩
  have hB2 : (σ ++ [some (Blk.rows 0 e sz 0 row)])[b]? = some (some (.lit ver e' cs)) := by rw [List.getElem?_append_left (lt_of hB)]; exact hB
  obtain ⟨h3, h4⟩ := h1.relit (cs' := cs.set q (.sl σ.length 0 0)) hB2 (by simp) (fun j u hu => by
    rw [List.getD_eq_getElem?_getD, List.getElem?_set]
    by_cases hj : q = j
    · subst hj
      rw [if_pos rfl, if_pos (lt_of hq)]
      rw [List.getD_eq_getElem?_getD, hq] at hu
      have hu : u = .slice none 0 0 := hu
      subst hu
      exact ⟨updM_same, Nat.zero_le _, .inl ⟨rfl, rfl⟩⟩
    · rw [if_neg hj, ← List.getD_eq_getElem?_getD]
      exact hu)
  exact ⟨G, _, h3, tr.mono (fun _ _ h => h) hext, h2.tr.trans h4⟩
end
end Go.Av

namespace Go.Av
open Go

theorem foldl_app {α γ : Type} (f : α → List γ) : ∀ (l : List α) (z : List γ), l.foldl (fun x a => x ++ f a) z = z ++ l.flatMap f
  | [], z => by simp
  | a :: l, z => by rw [List.foldl_cons, foldl_app f l, List.flatMap_cons, List.append_assoc]

theorem run_app {β α γ : Type} {step : Int × List γ → Option ((Int × List γ) ⊕ β)} (l : List α) (f : α → List γ) (K : Nat) (hK : ∀ a ∈ l, (f a).length ≤ K) (z : List γ) {out : List γ → β}
    (h : ∀ (i : Nat) a x, l[i]? = some a → x.length ≤ z.length + i * K → step ((i : Int), x) = some (.inl (((i + 1 : Nat) : Int), x ++ f a))) (he : ∀ x, step ((l.length : Int), x) = some (.inr (out x))) : whole.run step ((0 : Int), z) = some (out (z ++ l.flatMap f)) := by
  have hr := run_fold (step := step) l (fun i x => x.length ≤ z.length + i * K) (fun x a => x ++ f a) (fun i x => ((i : Int), x)) (x0 := z) (b := out (z ++ l.flatMap f)) (by simp)
    (fun i a x ha hx => ⟨h i a x ha hx, by
      have h1 := hK a (mem_of ha)
      have h2 : (i + 1) * K = i * K + K := Nat.succ_mul i K
      rw [List.length_append]
      omega⟩)
    (fun _ => by rw [foldl_app]; exact he _)
  exact hr.1
theorem length_flatMap_le {α γ : Type} (f : α → List γ) (K : Nat) : ∀ (l : List α), (∀ a ∈ l, (f a).length ≤ K) → (l.flatMap f).length ≤ l.length * K
  | [], _ => by simp
  | a :: l, h => by
    rw [List.flatMap_cons, List.length_append, List.length_cons, Nat.succ_mul]
    have h1 := h a (by simp)
    have h2 := length_flatMap_le f K l (fun b hb => h b (by simp [hb]))
    omega
end Go.Av

namespace Go.Av
open Go

abbrev vI (x : Int) : V := .cell (.c (.int .i64 x))
abbrev vU (x : Int) : V := .cell (.c (.int .u64 x))
abbrev vY (x : Int) : V := .cell (.c (.int .u8 x))
abbrev vB (x : Bool) : V := .cell (.c (.bool x))
abbrev vS {α : Type} (E : En α) (l : List α) : V := .cell (.c (slC E l))
abbrev vO (b v s : Nat) (i j : Nat) : V := .cell (.op b v s i j)
abbrev vW (b v n : Nat) : V := .cell (.sl b v n)
abbrev aI (x : Int) : A := .c (.int .i64 x)
abbrev aU (x : Int) : A := .c (.int .u64 x)
abbrev aY (x : Int) : A := .c (.int .u8 x)
abbrev aB (x : Bool) : A := .c (.bool x)
abbrev aS {α : Type} (E : En α) (l : List α) : A := .c (slC E l)
abbrev bL (e : Nat) (cs : List A) : Option Blk := some (.lit 0 e cs)

theorem si {α : Type} {a b : α} (h : some a = some b) : a = b := Option.some.inj h

section
variable {X : Cx} {N : Nat} {σ σ1 σ2 : Hp} {T : Tm} {Q : Exit → Hp → Tm → Prop} {fn : Func} {p : List Nat} {ops : Array Oper} {k : Nat}

theorem js (hw : W X N (cd fn (0 :: p)) σ T (thenQ (fun σ' T' => W X N (cd fn (1 :: p)) σ' T' Q) Q)) (h : kd (cd fn p) = 2 := by kernel_rfl) : W X N (cd fn p) σ T Q := W_seq_at h hw
theorem jr (hw : WO X N (opsOf (cd fn p)) 0 σ T Q) (h : kd (cd fn p) = 5 := by kernel_rfl) : W X N (cd fn p) σ T Q := W_region_at h hw
theorem jk (hq : Q .normal σ T) (h : kd (cd fn p) = 0 := by kernel_rfl) : W X N (cd fn p) σ T Q := W_skip_at h hq
theorem jt (hq : Q .ret σ T) (h : kd (cd fn p) = 1 := by kernel_rfl) : W X N (cd fn p) σ T Q := W_ret_at h hq
theorem je (i : Nat) (hq : Q (.exit i) σ T) (h : kd (cd fn p) = 8 := by kernel_rfl) (hi : idOf (cd fn p) = i := by kernel_rfl) : W X N (cd fn p) σ T Q := W_exit_at i h hi hq
theorem jb (i : Nat) (hw : W X N (cd fn (0 :: p)) σ T (blockQ i Q)) (h : kd (cd fn p) = 7 := by kernel_rfl) (hi : idOf (cd fn p) = i := by kernel_rfl) : W X N (cd fn p) σ T Q := W_block_at i h hi hw
theorem jc (b : Bool) (ht : b = true → W X N (cd fn (0 :: p)) σ T Q) (hf : b = false → W X N (cd fn (1 :: p)) σ T Q) (h : condE X T (cd fn p) = some b := by kernel_rfl) : W X N (cd fn p) σ T Q := W_cond_at h ht hf
theorem jm {i j : Nat} (h : Q (.exit j) σ T) (hij : Nat.beq j i = false := by kernel_rfl) : blockQ i Q (.exit j) σ T := blockQ_miss hij h

/-- to the region's end -/
theorem jg (T' : Tm) (n : Nat) (ks : List Nat) (hq : Q .normal σ T') (h : exk X N ops ks n k σ T = some (σ, T', True) := by kernel_rfl) (he : Nat.ble ops.toList.length (k + n) = true := by kernel_rfl) : WO X N ops k σ T Q := WO_fin n ks h trivial he hq
theorem jG (T' : Tm) (Φ : Prop) (n : Nat) (ks : List Nat) (hΦ : Φ) (hq : Q .normal σ T') (h : exk X N ops ks n k σ T = some (σ, T', Φ) := by kernel_rfl) (he : Nat.ble ops.toList.length (k + n) = true := by kernel_rfl) : WO X N ops k σ T Q := WO_fin n ks h hΦ he hq
theorem jf (σ' : Hp) (T' : Tm) (n : Nat) (ks : List Nat) (hq : Q .normal σ' T') (h : exk X N ops ks n k σ T = some (σ', T', True) := by kernel_rfl) (he : Nat.ble ops.toList.length (k + n) = true := by kernel_rfl) : WO X N ops k σ T Q := WO_fin n ks h trivial he hq
theorem jF (σ' : Hp) (T' : Tm) (Φ : Prop) (n : Nat) (ks : List Nat) (hΦ : Φ) (hq : Q .normal σ' T') (h : exk X N ops ks n k σ T = some (σ', T', Φ) := by kernel_rfl) (he : Nat.ble ops.toList.length (k + n) = true := by kernel_rfl) : WO X N ops k σ T Q := WO_fin n ks h hΦ he hq
/-- on in the region -/
theorem jh (T' : Tm) (n : Nat) (ks : List Nat) (hw : WO X N ops (k + n) σ T' Q) (h : exk X N ops ks n k σ T = some (σ, T', True) := by kernel_rfl) : WO X N ops k σ T Q := WO_exk n ks h trivial hw
theorem jH (T' : Tm) (Φ : Prop) (n : Nat) (ks : List Nat) (hΦ : Φ) (hw : WO X N ops (k + n) σ T' Q) (h : exk X N ops ks n k σ T = some (σ, T', Φ) := by kernel_rfl) : WO X N ops k σ T Q := WO_exk n ks h hΦ hw
theorem jx (σ' : Hp) (T' : Tm) (n : Nat) (ks : List Nat) (hw : WO X N ops (k + n) σ' T' Q) (h : exk X N ops ks n k σ T = some (σ', T', True) := by kernel_rfl) : WO X N ops k σ T Q := WO_exk n ks h trivial hw
theorem jX (σ' : Hp) (T' : Tm) (Φ : Prop) (n : Nat) (ks : List Nat) (hΦ : Φ) (hw : WO X N ops (k + n) σ' T' Q) (h : exk X N ops ks n k σ T = some (σ', T', Φ) := by kernel_rfl) : WO X N ops k σ T Q := WO_exk n ks h hΦ hw
theorem jy {s : Nat} (n' : Nat) (T' : Tm) (n : Nat) (ks : List Nat) (hw : WQ X N ops σ (KO X N ops s σ Q) n' (k + n) T') (h : exqk X N ops σ ks n k T = some (T', True) := by kernel_rfl) : WQ X N ops σ (KO X N ops s σ Q) (n' + n) k T := WQ_exk n ks h trivial hw
theorem jY {s : Nat} (n' : Nat) (T' : Tm) (Φ : Prop) (n : Nat) (ks : List Nat) (hΦ : Φ) (hw : WQ X N ops σ (KO X N ops s σ Q) n' (k + n) T') (h : exqk X N ops σ ks n k T = some (T', Φ) := by kernel_rfl) : WQ X N ops σ (KO X N ops s σ Q) (n' + n) k T := WQ_exk n ks h hΦ hw
/-- a test decided -/
theorem jd (t : Nat) {e b : Bool} (hb : e = b) (hw : WO X N ops k σ (put T (some t) (.cell (.c (.bool b)))) Q) (hg : get T t = some (.cell (.c (.bool e))) := by kernel_rfl) : WO X N ops k σ T Q := WO_ent (ent_bool t hb hg rfl) hw
theorem jD {s n' : Nat} (t : Nat) {e b : Bool} (hb : e = b) (hw : WQ X N ops σ (KO X N ops s σ Q) n' k (put T (some t) (.cell (.c (.bool b))))) (hg : get T t = some (.cell (.c (.bool e))) := by kernel_rfl) : WQ X N ops σ (KO X N ops s σ Q) n' k T := WQ_bool t hb hg rfl hw
theorem jj (k' : Nat) (T1 : Tm) (hJ : WO X N ops k' σ T1 Q) (h : WO X N ops k' σ T1 Q → WO X N ops k σ T Q) : WO X N ops k σ T Q := h hJ
/-- what is returned -/
theorem jq {r : V} (vs : List V) (h : evRs X σ T fn.results.toList = some vs := by kernel_rfl) (hl : vs.all (lendROKB σ) = true := by kernel_rfl) (hr : resV (upVs [] (vs.map (lendR σ))) = r := by kernel_rfl) : QRet X fn r .ret σ T := qret vs h hl [] hr
theorem jQ {r : V} (vs : List V) (us : List Up) (h : evRs X σ T fn.results.toList = some vs := by kernel_rfl) (hl : vs.all (lendROKB σ) = true := by kernel_rfl) (hr : resV (upVs us (vs.map (lendR σ))) = r := by kernel_rfl) : QRet X fn r .ret σ T := qret vs h hl us hr
theorem jnq {r : V} (vs : List V) (us : List Up) (h : evRs X σ T fn.results.toList = some vs := by kernel_rfl) (hl : vs.all (lendROKB σ) = true := by kernel_rfl) (hr : resV (upVs us (vs.map (lendR σ))) = r := by kernel_rfl) : QRet X fn r .normal σ T := qnor vs h hl us hr
theorem jE (l : List Stp) {σ' : Hp} {T' : Tm} (h : stps l σ T = some (σ', T') := by kernel_rfl) : Ent X N σ T σ' T' := stps_ok l h
/-- calls -/
theorem jl {f : FuncId} {all : List V} {r : V} (d : Nat) (hc : ∀ (as : Array Value) (w : World), (callFunc f as).run X.P w = .ok (.enter f as) w) (hp : Pure X f all r) (hw : WO X N ops (k + 1) σ (put T (some d) r) Q) (h : atCall X N ops k T = some (f, all, some d) := by kernel_rfl) (hz : all.all frozenV = true := by kernel_rfl) (hr : frozenV r = true := by kernel_rfl) :
    WO X N ops k σ T Q := WO_call h hz hr hc hp hw
theorem jL {K : Tm → Prop} {n : Nat} {f : FuncId} {all : List V} {r : V} (d : Nat) (hc : ∀ (as : Array Value) (w : World), (callFunc f as).run X.P w = .ok (.enter f as) w) (hp : Pure X f all r) (hw : WQ X N ops σ K n (k + 1) (put T (some d) r)) (h : atCall X N ops k T = some (f, all, some d) := by kernel_rfl) (hz : all.all frozenV = true := by kernel_rfl) (hr : frozenV r = true := by kernel_rfl) :
    WQ X N ops σ K (n + 1) k T := WQ_call h hz hr hc hp hw
theorem jdr (s' : Nat) (hm : X.P.follows .mixedOrders = true) (hw : WQ X N (opsOf (cd fn p)) σ (KO X N (opsOf (cd fn p)) s' σ Q) s' 0 T) (h : kd (cd fn p) = 6 := by kernel_rfl) (hs : okDraw (opsOf (cd fn p)) s' = true := by kernel_rfl) : W X N (cd fn p) σ T Q := W_drawK s' h hm hs hw
end
end Go.Av

namespace Go.Av
open Go

section
variable {X : Cx} {σ σp : Hp} {T : Tm} {o : Oper} {w w' : World} {G G' : GM} {m : OM}

/-- the same memory with some blocks passed over -/
structure Wk (σ σp : Hp) : Prop where
  len : σp.length = σ.length
  sub : ∀ (i : Nat) B, σp[i]? = some (some B) → σ[i]? = some (some B)

theorem Img.weak (hk : Wk σ σp) {k : Nat} (h : Img m σp k) : Img m σ k :=
  let ⟨i, B, v, h1, h2, h3⟩ := h
  ⟨i, B, v, hk.sub i B h1, h2, h3⟩

theorem St.weak (s : St X w G m σ) (hk : Wk σ σp) : St X w G m σp :=
  ⟨s.fro, s.glob, fun i B hB => s.own i B (hk.sub i B hB), fun i j B B' v v' hij h1 h2 => s.sep i j B B' v v' hij (hk.sub _ _ h1) (hk.sub _ _ h2), fun i B u h => s.top i B u (hk.sub _ _ h), fun i u hi => s.lim i u (by rw [hk.len] at hi; exact hi)⟩

theorem St.lift (s : St X w G m σ) (hk : Wk σ σp) (s' : St X w' G' m σp) (tr : Tran w G m σp w' G' m σp) : St X w' G' m σ ∧ Tran w G m σ w' G' m σ := by
  refine ⟨⟨s'.fro, s'.glob, fun i B hB => ?_, s.sep, s.top, s.lim⟩, ⟨tr.os, tr.tape, tr.output, tr.size, fun k hk1 hn => tr.frame k hk1 fun hI => hn (hI.weak hk), tr.gext, fun b arr hb => (tr.gnew b arr hb).imp id (Or.imp (Img.weak hk) id), fun k h => .inl h, fun i B' h hv => ⟨⟨B', h, hv⟩, rfl⟩⟩⟩
  by_cases h : σp[i]? = some (some B)
  · exact s'.own i B h
  · obtain ⟨v, h1, h2, h3⟩ := s.own i B hB
    have hno : ∀ g, v.ownBlock = some g → ¬ Img m σp g := by
      rintro g hg ⟨j, B2, v2, g1, g2, g3⟩
      have hij : i ≠ j := by
        rintro rfl
        have := hk.sub _ _ g1
        rw [hB] at this
        obtain rfl := Option.some.inj (Option.some.inj this)
        exact h g1
      rcases s.sep i j B B2 v v2 hij hB (hk.sub _ _ g1) h1 g2 with h4 | h4
      · rw [h4] at hg; cases hg
      · exact h4 (hg.trans g3.symm)
    refine ⟨v, h1, h2.mono (fun g hg => tr.frame g (h2.lt hg) (hno g hg)) tr.gext (fun _ _ _ h => h), fun g hg => ?_⟩
    cases hG : G' g with
    | none => rfl
    | some arr =>
      rcases tr.gnew g arr hG with k | k | k
      · rw [h3 g hg] at k; cases k
      · exact absurd k (hno g hg)
      · have := h2.lt hg; omega

/-- a block in an empty place -/
theorem St.fill (s : St X w G m σ) {b : Nat} {v : Value} {B : Blk} (hb : σ[b]? = some none) (hm : ∀ u, m b u = none) (g : w.grownBy w' none) (hver : B.ver = 0) (hob : ∀ k, v.ownBlock = some k → w.heap.size ≤ k) (hat : BlkAt w' G (updM m b 0 v) v B) :
    St X w' G (updM m b 0 v) (σ.set b (some B)) ∧ TranM w G m σ w' G (updM m b 0 v) (σ.set b (some B)) := by
  have hbl : b < σ.length := (List.getElem?_eq_some_iff.1 hb).1
  have hext : ∀ a u x, m a u = some x → updM m b 0 v a u = some x := updM_ext (.inl (hm _))
  have hfr : ∀ k, k < w.heap.size → w'.heap[k]? = w.heap[k]? := fun k hk => g.block k hk (by simp)
  have hold : ∀ (i : Nat) B', (σ.set b (some B))[i]? = some (some B') → (i ≠ b ∧ σ[i]? = some (some B')) ∨ (i = b ∧ B' = B) := by
    intro i B' h
    rw [List.getElem?_set] at h
    split at h
    · rename_i hij
      subst hij
      simp at h
      exact .inr ⟨rfl, h.symm⟩
    · rename_i hij
      exact .inl ⟨fun e => hij e.symm, h⟩
  have hmo : ∀ i, i ≠ b → ∀ u, updM m b 0 v i u = m i u := by
    intro i hi u
    unfold updM; rw [if_neg (fun h => hi h.1)]
  have hlt : ∀ (i : Nat) B' v', σ[i]? = some (some B') → m i B'.ver = some v' → ∀ k, v'.ownBlock = some k → k < w.heap.size := by
    intro i B' v' h1 h2 k h3
    obtain ⟨v2, h4, h5, -⟩ := s.own i B' h1
    obtain rfl := Option.some.inj (h2.symm.trans h4)
    exact h5.lt h3
  refine ⟨⟨fun b' arr h => ?_, s.glob, fun i B' h => ?_, fun i j B1 B2 v1 v2 hij h1 h2 h3 h4 => ?_, fun i B' u h hu => ?_, fun i u hi => ?_⟩, ⟨⟨g.os, g.tape, g.output, g.size, fun k hk _ => hfr k hk, fun _ _ h => h, fun _ _ h => .inl h, fun k h => ?_, fun i B' h hv => ?_⟩, hext⟩⟩
  · obtain ⟨t, fr, h2⟩ := s.fro b' arr h
    exact ⟨t, fr, by rw [hfr b' (s.lt h)]; exact h2⟩
  · rcases hold i B' h with ⟨h1, h2⟩ | ⟨rfl, rfl⟩
    · obtain ⟨v2, h3, h4, h5⟩ := s.own i B' h2
      exact ⟨v2, hext _ _ _ h3, h4.mono (fun k hk => hfr k (h4.lt hk)) (fun _ _ h => h) hext, h5⟩
    · refine ⟨v, by rw [hver]; exact updM_same, hat, fun k hk => ?_⟩
      cases hG : G k with
      | none => rfl
      | some arr => have := s.lt hG; have := hob k hk; omega
  · rcases hold i B1 h1 with ⟨i1, i2⟩ | ⟨rfl, rfl⟩ <;> rcases hold j B2 h2 with ⟨j1, j2⟩ | ⟨rfl, rfl⟩
    · rw [hmo i i1] at h3; rw [hmo j j1] at h4
      exact s.sep i j B1 B2 v1 v2 hij i2 j2 h3 h4
    · rw [hmo i i1] at h3
      rw [hver, updM_same] at h4
      obtain rfl := Option.some.inj h4
      cases hv1 : v1.ownBlock with
      | none => exact .inl rfl
      | some k => exact .inr fun hk => by have := hlt i B1 v1 i2 h3 k hv1; have := hob k hk.symm; omega
    · rw [hmo j j1] at h4
      rw [hver, updM_same] at h3
      obtain rfl := Option.some.inj h3
      cases hv1 : v.ownBlock with
      | none => exact .inl rfl
      | some k => exact .inr fun hk => by have := hlt j B2 v2 j2 h4 k hk.symm; have := hob k hv1; omega
    · exact (hij rfl).elim
  · rcases hold i B' h with ⟨h1, h2⟩ | ⟨rfl, rfl⟩
    · rw [hmo i h1]; exact s.top i B' u h2 hu
    · unfold updM
      rw [hver] at hu
      rw [if_neg (by omega)]
      exact hm _
  · simp at hi
    rw [hmo i (by omega)]
    exact s.lim i u hi
  · obtain ⟨i, B', v', h1, h2, h3⟩ := h
    rcases hold i B' h1 with ⟨i1, i2⟩ | ⟨rfl, rfl⟩
    · rw [hmo i i1] at h2
      exact .inl ⟨i, B', v', i2, h2, h3⟩
    · rw [hver, updM_same] at h2
      obtain rfl := Option.some.inj h2
      exact .inr (hob k h3)
  · rcases hold i B' h with ⟨i1, i2⟩ | ⟨rfl, rfl⟩
    · exact ⟨⟨B', i2, hv⟩, hmo i i1 _⟩
    · rw [hver] at hv; omega

theorem fill_lit (s : St X w G m σ) {b : Nat} (hb : σ[b]? = some none) (hm : ∀ u, m b u = none) (e : TypeId) (us : Array Value) (cs : List A) (hv : VRL G m cs us.toList) :
    ∃ m', St X (w.alloc (.cells us e)) G m' (σ.set b (some (.lit 0 e cs))) ∧ TranM w G m σ (w.alloc (.cells us e)) G m' (σ.set b (some (.lit 0 e cs))) ∧ VRV G m' (.cell (.op b 0 cs.length 0 0)) (.pointer (some ⟨w.heap.size, 0, none⟩)) ∧ ∀ i, i ≠ b → ∀ u, m' i u = m i u := by
  have hext : ∀ a u x, m a u = some x → updM m b 0 (.slice (some ⟨w.heap.size, 0, none⟩) 1 1) a u = some x := updM_ext (.inl (hm _))
  have hlen : us.size = cs.length := by simpa using hv.1
  obtain ⟨h2, h3⟩ := s.fill (v := .slice (some ⟨w.heap.size, 0, none⟩) 1 1) (B := .lit 0 e cs) hb hm (World.grownBy_alloc w (.cells us e) none) rfl (fun k hk => by simp [Value.ownBlock] at hk; omega)
    ⟨us.toList, ⟨by simp [Blk.sz, Blk.len, hlen], .inr ⟨w.heap.size, 1, us, rfl, Nat.zero_le _, heap_alloc_new w _, Nat.le_refl _, by simp [maxLen], by simp [Blk.sz, hlen], by simp [Blk.sz, Blk.len, hlen]; rw [← hlen, ← Array.length_toList, List.take_length]⟩⟩, fun i hi j hj => by
      simp only [Blk.len] at hi
      simp only [Blk.sz] at hj
      obtain rfl : i = 0 := by omega
      obtain ⟨u, hu, hr⟩ := hv.2 j _ (List.getElem?_eq_getElem hj)
      refine ⟨u, by simpa using hu, VRA.mono (fun _ _ h => h) hext _ _ ?_⟩
      show VRA G m (cs.getD j (.c .jk)) u
      rw [List.getD_eq_getElem?_getD, List.getElem?_eq_getElem hj]
      exact hr⟩
  exact ⟨_, h2, h3, ⟨w.heap.size, 1, 1, updM_same, by omega, by simp⟩, fun i hi u => by unfold updM; rw [if_neg fun h => hi h.1]⟩

/-- a new box: of what cells -/
def NewOp (X : Cx) (o : Oper) (T : Tm) (e : TypeId) (cs : List A) : Prop :=
  (∃ x v, o.op = .box e x ∧ evO X T x = some v ∧ cellsV v = some cs) ∨ (o.op = .alloc e ∧ ∃ i, X.ty e = some i ∧ cs = i.zero.map .c)

theorem NewOp.sub {e : TypeId} {cs : List A} {T' : Tm} (h : Sub T' T) (hq : NewOp X o T' e cs) : NewOp X o T e cs := by
  rcases hq with ⟨x, v, h1, h2, h3⟩ | h1
  · exact .inl ⟨x, v, h1, sub_evO h h2, h3⟩
  · exact .inr h1

theorem NewOp.run {e : TypeId} {cs : List A} (h : NewOp X o T e cs) (s : St X w G m σ) {b : Nat} (hb : σ[b]? = some none) (hm : ∀ u, m b u = none) {ρ : Operand → Value} (hρ : ∀ x, x ∈ o.op.operands → ∀ v, evO X T x = some v → VRV G m v (ρ x)) :
    ∃ v w' m', (execOp ρ o).run X.P w = .ok (.value v) w' ∧ St X w' G m' (σ.set b (some (.lit 0 e cs))) ∧ TranM w G m σ w' G m' (σ.set b (some (.lit 0 e cs))) ∧ VRV G m' (.cell (.op b 0 cs.length 0 0)) v ∧ ∀ i, i ≠ b → ∀ u, m' i u = m i u := by
  rcases h with ⟨x, v, ho, hx, hc⟩ | ⟨ho, i, hi, rfl⟩
  · have hv := cellsV_ok hc (hρ x (by simp [ho, Op.operands]) _ hx)
    have hrun : (execOp ρ o).run X.P w = .ok (.value (.pointer (some ⟨w.heap.size, 0, none⟩))) (w.alloc (.cells (ρ x).cells e)) := by
      simp only [execOp, ho, Instr.box, newVar, newRow, newObj, Sem.run_bind, Sem.run]
      rfl
    obtain ⟨m', h1, h2, h3, h4⟩ := fill_lit s hb hm e (ρ x).cells cs hv
    exact ⟨_, _, m', hrun, h1, h2, h3, h4⟩
  · obtain ⟨z, hz1, hz2, -, -, hz5⟩ := zero_ok hi (G := G) (m := m)
    have hrun : (execOp ρ o).run X.P w = .ok (.value (.pointer (some ⟨w.heap.size, 0, none⟩))) (w.alloc (.cells z.cells e)) := by
      simp only [execOp, ho, Instr.alloc, Sem.run_bind, hz1, Result.andThen_ok, newVar, newRow, newObj, Sem.run]
      rfl
    obtain ⟨m', h1, h2, h3, h4⟩ := fill_lit s hb hm e z.cells _ hz2
    exact ⟨_, _, m', hrun, h1, h2, h3, h4⟩
end

/-! ### the memory while only some boxes are made -/
def bkB (bk : Nat → TypeId × List A) (i : Nat) : Blk := .lit 0 (bk i).1 (bk i).2
def mkH (σ : Hp) (bk : Nat → TypeId × List A) (n : Nat) (L : Nat → Bool) : Hp := σ ++ (List.range n).map fun i => if L i then some (bkB bk i) else none

section
variable {σ : Hp} {bk : Nat → TypeId × List A} {n : Nat} {L L' : Nat → Bool}

theorem mkH_len : (mkH σ bk n L).length = σ.length + n := by simp [mkH]
theorem mkH_old {i : Nat} (h : i < σ.length) : (mkH σ bk n L)[i]? = σ[i]? := List.getElem?_append_left h
theorem mkH_new {i : Nat} (h : i < n) : (mkH σ bk n L)[σ.length + i]? = some (if L i then some (bkB bk i) else none) := by
  unfold mkH
  rw [List.getElem?_append_right (by omega)]
  simp [h]
theorem mkH_congr (h : ∀ i, i < n → L i = L' i) : mkH σ bk n L = mkH σ bk n L' := by
  unfold mkH
  congr 1
  refine List.map_congr_left fun i hi => ?_
  rw [h i (by simpa using hi)]
theorem mkH_none (h : ∀ i, i < n → L i = false) : mkH σ bk n L = σ ++ List.replicate n none := by
  unfold mkH
  congr 1
  refine List.ext_getElem (by simp) fun i h1 h2 => ?_
  simp at h1
  simp [h i h1]
theorem mkH_set {q : Nat} (hq : q < n) (h1 : L' q = true) (h2 : ∀ i, i ≠ q → L' i = L i) : mkH σ bk n L' = (mkH σ bk n L).set (σ.length + q) (some (bkB bk q)) := by
  refine List.ext_getElem? fun i => ?_
  rw [List.getElem?_set]
  rcases Nat.lt_or_ge i σ.length with h | h
  · rw [if_neg (by omega : ¬ σ.length + q = i), mkH_old h, mkH_old h]
  · obtain ⟨k, rfl⟩ : ∃ k, i = σ.length + k := ⟨i - σ.length, by omega⟩
    rcases Nat.lt_or_ge k n with hk | hk
    · rw [mkH_new hk, mkH_new hk]
      by_cases e : q = k
      · subst e
        rw [h1, if_pos (rfl : σ.length + q = σ.length + q), if_pos (by rw [mkH_len]; omega : σ.length + q < (mkH σ bk n L).length)]; rfl
      · rw [if_neg (by omega : ¬ σ.length + q = σ.length + k), h2 k (fun h => e h.symm)]
    · rw [if_neg (by omega : ¬ σ.length + q = σ.length + k), List.getElem?_eq_none (by rw [mkH_len]; omega), List.getElem?_eq_none (by rw [mkH_len]; omega)]
theorem mkH_wk : Wk (mkH σ bk n L) (σ ++ List.replicate n none) := by
  refine ⟨by simp [mkH_len], fun i B h => ?_⟩
  rcases Nat.lt_or_ge i σ.length with h1 | h1
  · rw [List.getElem?_append_left h1] at h
    rw [mkH_old h1]; exact h
  · rw [List.getElem?_append_right h1, List.getElem?_replicate] at h
    split at h <;> simp at h
end

section
variable {X : Cx} {N : Nat} {ops : Array Oper} {σ : Hp} {s n : Nat} {F : Nat → Hp → Tm → Prop}

/-- boxes made one after the other, then the rest -/
def KA (X : Cx) (N : Nat) (ops : Array Oper) (F : Nat → Hp → Tm → Prop) : Nat → Nat → Hp → Tm → Prop
  | 0, k, σ, T => F k σ T
  | n + 1, k, σ, T => ∃ o e cs, ops[k]? = some o ∧ wantedA ops T o = some true ∧ fitD N o.dst = true ∧ NewOp X o T e cs ∧ KA X N ops F n (k + 1) (σ ++ [some (.lit 0 e cs)]) (put T o.dst (.cell (.op σ.length 0 cs.length 0 0)))

theorem KA_sub (hF : ∀ k σ T T', Sub T' T → F k σ T' → F k σ T) : ∀ (n k : Nat) (σ : Hp) (T T' : Tm), Sub T' T → KA X N ops F n k σ T' → KA X N ops F n k σ T
  | 0, k, σ, T, T', h, hw => hF k σ T T' h hw
  | n + 1, k, σ, T, T', h, hw => by
    obtain ⟨o, e, cs, h1, h2, h3, h4, h5⟩ := hw
    exact ⟨o, e, cs, h1, sub_wanted h h2, h3, h4.sub h, KA_sub hF n (k + 1) _ _ _ (sub_put h) h5⟩

/-- what the walk in the text's order shows of a new box -/
def NewOK (X : Cx) (N : Nat) (ops : Array Oper) (T : Tm) (j : Nat) (res : Option V) (B : TypeId × List A) (b : Nat) : Prop :=
  ∃ o, ops[j]? = some o ∧ wantedA ops T o = some true ∧ fitD N o.dst = true ∧ NewOp X o T B.1 B.2 ∧ res = some (.cell (.op b 0 B.2.length 0 0))

theorem TL_keep {T0 : Tm} {L : Nat → Bool} {res res' : Nat → Option V} : ∀ (q : Nat), (∀ j, j < q → res' j = res j) → TL ops res' T0 L q = TL ops res T0 L q
  | 0, _ => rfl
  | q + 1, hq => by simp only [TL]; rw [TL_keep q fun j hj => hq j (by omega), hq q (by omega)]

theorem KA_res {T0 : Tm} : ∀ (n k i : Nat) (res : Nat → Option V) (bk : Nat → TypeId × List A), KA X N ops F n k (mkH σ bk i fun _ => true) (TL ops res T0 (fun _ => true) k) →
    ∃ res' bk', (∀ j, j < k → res' j = res j) ∧ (∀ q, q < i → bk' q = bk q) ∧ (∀ q, q < n → NewOK X N ops (TL ops res' T0 (fun _ => true) (k + q)) (k + q) (res' (k + q)) (bk' (i + q)) (σ.length + (i + q))) ∧
      F (k + n) (mkH σ bk' (i + n) fun _ => true) (TL ops res' T0 (fun _ => true) (k + n))
  | 0, k, i, res, bk, h => ⟨res, bk, fun _ _ => rfl, fun _ _ => rfl, fun q hq => by omega, h⟩
  | n + 1, k, i, res, bk, h => by
    obtain ⟨o, e, cs, h1, h2, h3, h4, h5⟩ := h
    let res1 : Nat → Option V := fun j => if j = k then some (.cell (.op (σ.length + i) 0 cs.length 0 0)) else res j
    let bk1 : Nat → TypeId × List A := fun q => if q = i then (e, cs) else bk q
    have hr : ∀ j, j < k → res1 j = res j := fun j hj => by simp only [res1]; rw [if_neg (by omega)]
    have hk1 : res1 k = some (.cell (.op (σ.length + i) 0 cs.length 0 0)) := by simp [res1]
    have hb1 : bk1 i = (e, cs) := by simp [bk1]
    have hT : TL ops res1 T0 (fun _ => true) (k + 1) = put (TL ops res T0 (fun _ => true) k) o.dst (.cell (.op (σ.length + i) 0 cs.length 0 0)) := by
      simp only [TL, if_true]
      rw [TL_keep k hr, hk1, h1]; rfl
    have hH : mkH σ bk1 (i + 1) (fun _ => true) = mkH σ bk i (fun _ => true) ++ [some (.lit 0 e cs)] := by
      unfold mkH
      rw [List.range_succ, List.map_append, ← List.append_assoc]
      congr 1
      · congr 1
        refine List.map_congr_left fun q hq => ?_
        have : q < i := by simpa using hq
        simp only [bkB, bk1]
        rw [if_neg (by omega : ¬ q = i)]
      · simp [bkB, hb1]
    rw [mkH_len, ← hH, ← hT] at h5
    obtain ⟨res2, bk2, g1, g2, g3, g4⟩ := KA_res n (k + 1) (i + 1) res1 bk1 h5
    have e1 : k + 1 + n = k + (n + 1) := by omega
    have e2 : i + 1 + n = i + (n + 1) := by omega
    rw [e1, e2] at g4
    refine ⟨res2, bk2, fun j hj => (g1 j (by omega)).trans (hr j hj), fun q hq => (g2 q (by omega)).trans (by simp only [bk1]; rw [if_neg (by omega)]), fun q hq => ?_, g4⟩
    cases q with
    | zero =>
      refine ⟨o, h1, ?_, h3, ?_, ?_⟩
      · rw [TL_keep (k + 0) fun j hj => (g1 j (by omega)).trans (hr j (by omega))]; exact h2
      · rw [TL_keep (k + 0) fun j hj => (g1 j (by omega)).trans (hr j (by omega)), show bk2 (i + 0) = (e, cs) from (g2 i (by omega)).trans hb1]; exact h4
      · rw [show bk2 (i + 0) = (e, cs) from (g2 i (by omega)).trans hb1]; exact (g1 k (by omega)).trans hk1
    | succ q =>
      have := g3 q (by omega)
      rw [show k + (q + 1) = k + 1 + q by omega, show i + (q + 1) = i + 1 + q by omega]
      exact this
end
end Go.Av

namespace Go.Av
open Go

/-- a store into a box: nothing turns but the box -/
def StoreOp (X : Cx) (o : Oper) (T : Tm) (b e : Nat) (cells cs' : List A) : Prop :=
  ∃ t p x i sz j v cs, o.op = .store t p x ∧ X.ty t = some i ∧ evO X T p = some (.cell (.op b 0 sz 0 j)) ∧ evO X T x = some v ∧ cellsV v = some cs ∧ sz = cells.length ∧ cs.length = i.size ∧ j + cs.length ≤ cells.length ∧ cs' = putRow cells j cs

theorem StoreOp.sub {X : Cx} {o : Oper} {T T' : Tm} {b e : Nat} {cells cs' : List A} (h : Sub T' T) (hq : StoreOp X o T' b e cells cs') : StoreOp X o T b e cells cs' :=
  let ⟨t, p, x, i, sz, j, v, cs, h1, h2, h3, h4, h5⟩ := hq
  ⟨t, p, x, i, sz, j, v, cs, h1, h2, sub_evO h h3, sub_evO h h4, h5⟩

theorem StoreOp.congr {X : Cx} {o : Oper} {T T' : Tm} {b e : Nat} {cells cs' : List A} (h : StoreOp X o T b e cells cs') (hT : ∀ x, x ∈ o.op.operands → evO X T x = evO X T' x) : StoreOp X o T' b e cells cs' :=
  let ⟨t, p, x, i, sz, j, v, cs, h1, h2, h3, h4, h5⟩ := h
  ⟨t, p, x, i, sz, j, v, cs, h1, h2, by rw [← hT p (by simp [h1, Op.operands])]; exact h3, by rw [← hT x (by simp [h1, Op.operands])]; exact h4, h5⟩

theorem StoreOp.run {X : Cx} {o : Oper} {σ : Hp} {T : Tm} {w : World} {G : GM} {m : OM} {b e : Nat} {cells cs' : List A} (hso : StoreOp X o T b e cells cs') (s : St X w G m σ) (hB : σ[b]? = some (some (.lit 0 e cells))) {ρ : Operand → Value} (hρ : ∀ x, x ∈ o.op.operands → ∀ v, evO X T x = some v → VRV G m v (ρ x)) :
    ∃ w', (execOp ρ o).run X.P w = .ok .skip w' ∧ St X w' G m (σ.set b (some (.lit 0 e cs'))) ∧ Tran w G m σ w' G m (σ.set b (some (.lit 0 e cs'))) := by
  obtain ⟨t, p, x, i, sz, j, v, cs, ho, hi, hp, hx, hc, hsz, hl, hj, rfl⟩ := hso
  have hv := cellsV_ok hc (hρ x (by simp [ho, Op.operands]) _ hx)
  obtain ⟨g, n, cp, hm, hlt, hpv⟩ := hρ p (by simp [ho, Op.operands]) _ hp
  obtain ⟨v0, h0, ⟨xs, hown, hcell⟩, -⟩ := s.own _ _ hB
  obtain rfl : v0 = _ := Option.some.inj (h0.symm.trans hm)
  have hown' := hown
  rcases hown.2 with ⟨h, _⟩ | ⟨g', cap, cur, h, _, hg, hle, hcap, hcs, htk⟩
  · cases h
  cases h
  have hm : m b 0 = some (.slice (some ⟨g, 0, none⟩) 1 cp) := hm
  simp only [Blk.sz, Blk.len, Blk.e] at hg hle hcs htk hown hown' hcell
  have hone : ∀ u ∈ (ρ x).cells.toList, u.oneCell' = true := fun u hu => by
    obtain ⟨q, hq, rfl⟩ := List.mem_iff_getElem.1 hu
    obtain ⟨u', h1, h2⟩ := hv.2 q _ (List.getElem?_eq_getElem (by rw [← hv.1]; exact hq))
    rw [List.getElem?_eq_getElem hq] at h1
    obtain rfl := Option.some.inj h1
    exact VRA.one h2
  have hlen : (ρ x).cells.size = cs.length := by simpa using hv.1
  have hcur : cells.length ≤ cur.size := by
    rw [hcs]
    have : 1 * cells.length ≤ cp * cells.length := Nat.mul_le_mul_right _ hle
    omega
  have hst := run_storeCells_at (P := X.P) g j e (ρ x).cells.toList 0 cur w hg (by simp [hlen]; omega) hone
  have hrun : (execOp ρ o).run X.P w = .ok .skip (w.setRow g (cur.toList.take j ++ (ρ x).cells.toList ++ cur.toList.drop (j + cs.length)).toArray) := by
    have hpv' : ρ p = .pointer (some ⟨g, j, none⟩) := by rw [hpv]; simp
    have hno : ¬ ((ρ x).cells.size ≠ i.size) := by omega
    simp only [execOp, ho, Instr.storeAt, hpv', Instr.sureAddr, storeVar, Sem.run_bind, Sem.run_pure, Result.andThen_ok, run_sizeOf hi]
    rw [if_neg hno, hst]
    simp [hlen]
  have hxs : VRL G m cells xs := by
    refine ⟨by have := hown.1; simpa using this, fun q a hq => ?_⟩
    have hq' : q < cells.length := (List.getElem?_eq_some_iff.1 hq).1
    obtain ⟨u, h1, h2⟩ := hcell 0 (by omega) q hq'
    refine ⟨u, by simpa using h1, ?_⟩
    have : Blk.cell (.lit 0 e cells) 0 q = a := by
      show cells.getD q (.c .jk) = a
      rw [List.getD_eq_getElem?_getD, hq]; rfl
    rw [this] at h2; exact h2
  have hext : ∀ a u x, m a u = some x → updM m b 0 (.slice (some ⟨g, 0, none⟩) 1 cp) a u = some x := updM_ext (.inr hm)
  have hnew := VRL.mono (fun _ _ h => h) hext (VRL.putRow hxs hv (by omega))
  have hgrown : w.grownBy (w.setRow g (cur.toList.take j ++ (ρ x).cells.toList ++ cur.toList.drop (j + cs.length)).toArray) (Value.slice (some ⟨g, 0, none⟩) 1 cp).ownBlock :=
    ⟨rfl, rfl, rfl, by simp, fun k _ hk => setRow_other w g k _ (fun e => hk (by simp [Value.ownBlock, e]))⟩
  have hmin : min j cur.size = j := by omega
  obtain ⟨h2, h3⟩ := s.upd (B' := .lit 0 e (putRow cells j cs)) (v' := .slice (some ⟨g, 0, none⟩) 1 cp) hB hm hgrown (.inl ⟨rfl, rfl⟩) (fun k hk => .inl hk)
    ⟨xs.take j ++ (ρ x).cells.toList ++ xs.drop (j + (ρ x).cells.toList.length), ⟨by
      have := hnew.1
      simp only [Blk.sz, Blk.len]
      omega, .inr ⟨g, cp, _, rfl, Nat.zero_le _, setRow_heap w g cur _ e _ hg, hle, hcap, by
        have : (putRow cells j cs).length = cells.length := by simp [putRow]; omega
        simp [Blk.sz, this, hlen]; omega, by
        simp only [Blk.sz, Blk.len]
        have hpl : (putRow cells j cs).length = cells.length := by simp [putRow]; omega
        rw [hpl, ← htk]
        simp only [Nat.one_mul, List.toList_toArray]
        apply List.ext_getElem?
        intro q
        simp only [List.getElem?_take, List.getElem?_append, List.getElem?_drop, List.length_take, List.length_append, Array.length_toList, hlen]
        have e1 : min j (min cells.length cur.size) = j := by omega
        simp only [hmin, e1]
        by_cases q1 : q < cells.length
        · by_cases q2 : q < j
          · simp [q1, q2, show q < j + cs.length by omega]
          · by_cases q3 : q < j + cs.length
            · simp [q1, q2, q3]
            · have e2 : j + cs.length + (q - (j + cs.length)) = q := by omega
              simp [q1, q3, e2]
        · have e2 : ¬ q < j := by omega
          have e3 : ¬ q < j + cs.length := by omega
          have e4 : ¬ (j + cs.length + (q - (j + cs.length)) < cells.length) := by omega
          simp [q1, e3, e4]⟩⟩, fun i' hi' q hq => by
      simp only [Blk.len] at hi'
      simp only [Blk.sz] at hq
      obtain rfl : i' = 0 := by omega
      obtain ⟨u, hu, hr⟩ := hnew.2 q _ (List.getElem?_eq_getElem hq)
      refine ⟨u, by simpa using hu, ?_⟩
      show VRA G _ ((putRow cells j cs).getD q (.c .jk)) u
      rw [List.getD_eq_getElem?_getD, List.getElem?_eq_getElem hq]
      exact hr⟩
  have hme : updM m b 0 (.slice (some ⟨g, 0, none⟩) 1 cp) = m := by
    funext a u
    unfold updM
    split
    · rename_i h; rw [h.1, h.2]; exact hm.symm
    · rfl
  replace h2 : St X _ G (updM m b 0 (.slice (some ⟨g, 0, none⟩) 1 cp)) (σ.set b (some (.lit 0 e (putRow cells j cs)))) := h2
  replace h3 : TranM w G m σ _ G (updM m b 0 (.slice (some ⟨g, 0, none⟩) 1 cp)) (σ.set b (some (.lit 0 e (putRow cells j cs)))) := h3
  rw [hme] at h2 h3
  exact ⟨_, hrun, h2, h3.tr⟩
end Go.Av

namespace Go.Av
open Go

theorem NewOp.congr {X : Cx} {o : Oper} {T T' : Tm} {e : TypeId} {cs : List A} (h : NewOp X o T e cs) (hT : ∀ x, x ∈ o.op.operands → evO X T x = evO X T' x) : NewOp X o T' e cs := by
  rcases h with ⟨x, v, h1, h2, h3⟩ | h1
  · exact .inl ⟨x, v, h1, by rw [← hT x (by simp [h1, Op.operands])]; exact h2, h3⟩
  · exact .inr h1

/-- boxes, and those that are filled in the region (by which operation, with what) -/
structure Bx where
  bk : Nat → TypeId × List A
  sd : Nat → Bool
  sj : Nat → Nat
  sc : Nat → List A

def ctS (x : Bx) (q : Nat) (L : Nat → Bool) (i : Nat) : Option Blk :=
  if x.sd i = true ∧ L (x.sj i) = true then some (.lit 0 (x.bk i).1 (x.sc i)) else if L (q + i) = true then some (bkB x.bk i) else none
def mkS (σ : Hp) (x : Bx) (a q : Nat) (L : Nat → Bool) : Hp := σ ++ (List.range a).map (ctS x q L)

section
variable {σ : Hp} {x : Bx} {a q : Nat} {L L' : Nat → Bool}

theorem ctS_congr {i : Nat} (h1 : L' (q + i) = L (q + i)) (h2 : x.sd i = true → L' (x.sj i) = L (x.sj i)) : ctS x q L' i = ctS x q L i := by
  unfold ctS
  by_cases hd : x.sd i = true
  · simp only [h1, h2 hd]
  · simp only [h1, hd, false_and, if_false, Bool.false_eq_true]
theorem mkS_len : (mkS σ x a q L).length = σ.length + a := by simp [mkS]
theorem mkS_old {i : Nat} (h : i < σ.length) : (mkS σ x a q L)[i]? = σ[i]? := List.getElem?_append_left h
theorem mkS_new {i : Nat} (h : i < a) : (mkS σ x a q L)[σ.length + i]? = some (ctS x q L i) := by
  unfold mkS
  rw [List.getElem?_append_right (by omega)]
  simp [h]
theorem mkS_congr {x' : Bx} {q' : Nat} (h : ∀ i, i < a → ctS x q L i = ctS x' q' L' i) : mkS σ x a q L = mkS σ x' a q' L' := by
  unfold mkS
  congr 1
  exact List.map_congr_left fun i hi => h i (by simpa using hi)
theorem mkS_none (h : ∀ i, i < a → ctS x q L i = none) : mkS σ x a q L = σ ++ List.replicate a none := by
  unfold mkS
  congr 1
  refine List.ext_getElem (by simp) fun i h1 h2 => ?_
  simp at h1
  simp [h i h1]
theorem mkS_set {i : Nat} {B : Blk} {x' : Bx} (hi : i < a) (h1 : ctS x' q L' i = some B) (h2 : ∀ k, k < a → k ≠ i → ctS x' q L' k = ctS x q L k) : mkS σ x' a q L' = (mkS σ x a q L).set (σ.length + i) (some B) := by
  refine List.ext_getElem? fun p => ?_
  rw [List.getElem?_set]
  rcases Nat.lt_or_ge p σ.length with h | h
  · rw [if_neg (by omega : ¬ σ.length + i = p), mkS_old h, mkS_old h]
  · obtain ⟨k, rfl⟩ : ∃ k, p = σ.length + k := ⟨p - σ.length, by omega⟩
    rcases Nat.lt_or_ge k a with hk | hk
    · rw [mkS_new hk, mkS_new hk]
      by_cases e : i = k
      · subst e
        rw [h1, if_pos (rfl : σ.length + i = σ.length + i), if_pos (by rw [mkS_len]; omega : σ.length + i < (mkS σ x a q L).length)]
      · rw [if_neg (by omega : ¬ σ.length + i = σ.length + k), h2 k hk (fun h => e h.symm)]
    · rw [if_neg (by omega : ¬ σ.length + i = σ.length + k), List.getElem?_eq_none (by rw [mkS_len]; omega), List.getElem?_eq_none (by rw [mkS_len]; omega)]
theorem mkS_wk : Wk (mkS σ x a q L) (σ ++ List.replicate a none) := by
  refine ⟨by simp [mkS_len], fun i B h => ?_⟩
  rcases Nat.lt_or_ge i σ.length with h1 | h1
  · rw [List.getElem?_append_left h1] at h
    rw [mkS_old h1]; exact h
  · rw [List.getElem?_append_right h1, List.getElem?_replicate] at h
    split at h <;> simp at h
end

section
variable {X : Cx} {N : Nat} {ops : Array Oper} {Q : Exit → Hp → Tm → Prop}

/-- boxes filled one after the other, each once, then the rest -/
def KS (X : Cx) (N : Nat) (ops : Array Oper) (Q : Exit → Hp → Tm → Prop) (base q a : Nat) : Nat → List Nat → Nat → Hp → Tm → Prop
  | 0, _, k, σ, T => WO X N ops k σ T Q
  | b + 1, used, k, σ, T => ∃ o i e cs0 cs1, ops[k]? = some o ∧ wantedA ops T o = some true ∧ o.dst = none ∧ ((bfs ops.toList).getD k 0).testBit (q + i) = true ∧ i < a ∧ i ∉ used ∧ σ[base + i]? = some (some (.lit 0 e cs0)) ∧ StoreOp X o T (base + i) e cs0 cs1 ∧
      KS X N ops Q base q a b (i :: used) (k + 1) (σ.set (base + i) (some (.lit 0 e cs1))) T

theorem KS_sub {base q a : Nat} : ∀ (b : Nat) (used : List Nat) (k : Nat) (σ : Hp) (T T' : Tm), Sub T' T → KS X N ops Q base q a b used k σ T' → KS X N ops Q base q a b used k σ T
  | 0, _, k, σ, T, T', h, hw => WO_sub' T T' h hw
  | b + 1, used, k, σ, T, T', h, hw => by
    obtain ⟨o, i, e, cs0, cs1, h1, h2, h3, h4, h5, h6, h7, h8, h9⟩ := hw
    exact ⟨o, i, e, cs0, cs1, h1, sub_wanted h h2, h3, h4, h5, h6, h7, h8.sub h, KS_sub b _ (k + 1) _ _ _ h h9⟩

def StOK (X : Cx) (N : Nat) (ops : Array Oper) (base q a : Nat) (T : Tm) (j : Nat) (res : Option V) (x : Bx) : Prop :=
  ∃ o i, ops[j]? = some o ∧ wantedA ops T o = some true ∧ o.dst = none ∧ ((bfs ops.toList).getD j 0).testBit (q + i) = true ∧ i < a ∧ x.sd i = true ∧ x.sj i = j ∧ StoreOp X o T (base + i) (x.bk i).1 (x.bk i).2 (x.sc i) ∧ res = none

theorem KS_res {σ : Hp} {q a : Nat} {T0 : Tm} : ∀ (b : Nat) (used : List Nat) (k : Nat) (res : Nat → Option V) (x : Bx), (∀ i, x.sd i = true ↔ i ∈ used) → (∀ i, x.sd i = true → x.sj i < k) → (∀ i i', x.sd i = true → x.sd i' = true → x.sj i = x.sj i' → i = i') → KS X N ops Q σ.length q a b used k (mkS σ x a q fun _ => true) (TL ops res T0 (fun _ => true) k) →
    ∃ res' x', x'.bk = x.bk ∧ (∀ j, j < k → res' j = res j) ∧ (∀ i, x.sd i = true → x'.sd i = true ∧ x'.sj i = x.sj i ∧ x'.sc i = x.sc i) ∧ (∀ i, x'.sd i = true → x.sd i = true ∨ (k ≤ x'.sj i ∧ x'.sj i < k + b)) ∧ (∀ i i', x'.sd i = true → x'.sd i' = true → x'.sj i = x'.sj i' → i = i') ∧
      (∀ r, r < b → StOK X N ops σ.length q a (TL ops res' T0 (fun _ => true) (k + r)) (k + r) (res' (k + r)) x') ∧ WO X N ops (k + b) (mkS σ x' a q fun _ => true) (TL ops res' T0 (fun _ => true) (k + b)) Q
  | 0, used, k, res, x, hu, hk, hj, h => ⟨res, x, rfl, fun _ _ => rfl, fun _ _ => ⟨‹_›, rfl, rfl⟩, fun _ h => .inl h, hj, fun r hr => by omega, h⟩
  | b + 1, used, k, res, x, hu, hk, hj, h => by
    obtain ⟨o, i, e, cs0, cs1, h1, h2, h3, h4, h5, h6, h7, h8, h9⟩ := h
    have hsd : x.sd i = false := by
      cases hv : x.sd i with
      | false => rfl
      | true => exact (h6 ((hu i).1 hv)).elim
    let x1 : Bx := ⟨x.bk, fun p => if p = i then true else x.sd p, fun p => if p = i then k else x.sj p, fun p => if p = i then cs1 else x.sc p⟩
    let res1 : Nat → Option V := fun j => if j = k then none else res j
    have hr : ∀ j, j < k → res1 j = res j := fun j hj => by simp only [res1]; rw [if_neg (by omega)]
    have hk1 : res1 k = none := by simp [res1]
    have hxo : ∀ p, p ≠ i → x1.sd p = x.sd p ∧ x1.sj p = x.sj p ∧ x1.sc p = x.sc p := fun p hp => by simp only [x1]; rw [if_neg hp, if_neg hp, if_neg hp]; exact ⟨rfl, rfl, rfl⟩
    have hxi : x1.sd i = true ∧ x1.sj i = k ∧ x1.sc i = cs1 := by simp [x1]
    have hT : TL ops res1 T0 (fun _ => true) (k + 1) = TL ops res T0 (fun _ => true) k := by
      simp only [TL, if_true]
      rw [TL_keep k hr, hk1, h1, Option.bind_some, h3]; rfl
    have hB : some (bkB x.bk i) = some (Blk.lit 0 e cs0) := by
      rw [mkS_new h5] at h7
      have := Option.some.inj h7
      rw [← this]
      simp [ctS, hsd]
    have hbk : x.bk i = (e, cs0) := by
      have := Option.some.inj hB
      simp only [bkB, Blk.lit.injEq, true_and] at this
      exact Prod.ext this.1 this.2
    have hH : mkS σ x1 a q (fun _ => true) = (mkS σ x a q fun _ => true).set (σ.length + i) (some (.lit 0 e cs1)) := by
      refine mkS_set h5 ?_ fun p _ hp => ?_
      · simp only [ctS, hxi.1, hxi.2.2, and_self, if_true]
        show some (Blk.lit 0 (x.bk i).1 cs1) = _
        rw [hbk]
      · obtain ⟨g1, g2, g3⟩ := hxo p hp
        simp only [ctS, g1, g2, g3]
        rfl
    rw [← hH, ← hT] at h9
    obtain ⟨res2, x2, e0, e1, e2, e3, e4, e5, e6⟩ := KS_res b (i :: used) (k + 1) res1 x1 (fun p => by
        by_cases hp : p = i
        · subst hp; simp [hxi.1]
        · rw [(hxo p hp).1, hu p]; simp [hp]) (fun p hp => by
        by_cases hpi : p = i
        · subst hpi; rw [hxi.2.1]; omega
        · rw [(hxo p hpi).1] at hp; rw [(hxo p hpi).2.1]; have := hk p hp; omega) (fun p p' hp hp' he => by
        by_cases hpi : p = i <;> by_cases hpi' : p' = i
        · rw [hpi, hpi']
        · subst hpi
          rw [(hxo p' hpi').1] at hp'
          rw [hxi.2.1, (hxo p' hpi').2.1] at he
          have := hk p' hp'; omega
        · subst hpi'
          rw [(hxo p hpi).1] at hp
          rw [hxi.2.1, (hxo p hpi).2.1] at he
          have := hk p hp; omega
        · rw [(hxo p hpi).1] at hp
          rw [(hxo p' hpi').1] at hp'
          rw [(hxo p hpi).2.1, (hxo p' hpi').2.1] at he
          exact hj p p' hp hp' he) h9
    have ek : k + 1 + b = k + (b + 1) := by omega
    rw [ek] at e6
    obtain ⟨f1, f2, f3⟩ := e2 i hxi.1
    refine ⟨res2, x2, e0, fun j hj => (e1 j (by omega)).trans (hr j hj), fun p hp => ?_, fun p hp => ?_, e4, fun r hr' => ?_, e6⟩
    · have hpi : p ≠ i := fun h => by rw [h, hsd] at hp; cases hp
      obtain ⟨g1, g2, g3⟩ := e2 p (by rw [(hxo p hpi).1]; exact hp)
      exact ⟨g1, g2.trans (hxo p hpi).2.1, g3.trans (hxo p hpi).2.2⟩
    · rcases e3 p hp with h' | h'
      · by_cases hpi : p = i
        · subst hpi; rw [f2, hxi.2.1]; exact .inr ⟨Nat.le_refl _, by omega⟩
        · rw [(hxo p hpi).1] at h'; exact .inl h'
      · exact .inr ⟨by omega, by omega⟩
    · cases r with
      | zero =>
        have hTk : TL ops res2 T0 (fun _ => true) (k + 0) = TL ops res T0 (fun _ => true) k := TL_keep (k + 0) fun j hj => (e1 j (by omega)).trans (hr j (by omega))
        refine ⟨o, i, h1, by rw [hTk]; exact h2, h3, h4, h5, f1, f2.trans hxi.2.1, ?_, (e1 k (by omega)).trans hk1⟩
        rw [hTk, e0, show x1.bk i = (e, cs0) from hbk, f3, hxi.2.2]
        exact h8
      | succ r =>
        have := e5 r (by omega)
        rw [show k + (r + 1) = k + 1 + r by omega]
        exact this
end

section
variable {X : Cx} {N : Nat} {ops : Array Oper} {σ : Hp} {q : Nat} {Q : Exit → Hp → Tm → Prop}

theorem W_drawA {id : Nat} {T : Tm} (n b : Nat) (hm : X.P.follows .mixedOrders = true) (hs : okDraw ops (q + n + b) = true) (h : WQ X N ops (σ ++ List.replicate n none) (KA X N ops (KS X N ops Q σ.length q n b []) n q σ) q 0 T) : W X N (.region id ops true) σ T Q := by
  intro w G m a st t
  have hD := okDraw_ok hs
  obtain ⟨res0, hst0, hK0⟩ := WQ_res (T0 := T) q 0 (fun _ => none) h (fun j hj => by omega)
  simp only [Nat.zero_add] at hst0 hK0
  have e0 : mkH σ (fun _ => (0, [])) 0 (fun _ => true) = σ := by simp [mkH]
  have hK0 : KA X N ops (KS X N ops Q σ.length q n b []) n q (mkH σ (fun _ => (0, [])) 0 fun _ => true) (TL ops res0 T (fun _ => true) q) := by rw [e0]; exact hK0
  obtain ⟨res1, bk, hr0, -, hnew1, hK1⟩ := KA_res n q 0 res0 _ hK0
  simp only [Nat.zero_add] at hnew1 hK1
  have e1 : mkS σ ⟨bk, fun _ => false, fun _ => 0, fun _ => []⟩ n q (fun _ => true) = mkH σ bk n (fun _ => true) := by
    unfold mkS mkH
    congr 1
  rw [← e1] at hK1
  obtain ⟨res, x, ebk, hr1, -, hsd, hinj, hsto, hK⟩ := KS_res b [] (q + n) res1 ⟨bk, fun _ => false, fun _ => 0, fun _ => []⟩ (fun i => by simp) (fun i hi => by cases hi) (fun i _ hi => by cases hi) hK1
  have hsd : ∀ i, x.sd i = true → q + n ≤ x.sj i ∧ x.sj i < q + n + b := fun i hi => (hsd i hi).resolve_left (by simp)
  have hst : ∀ j, j < q → StepOK X N ops (σ ++ List.replicate n none) (TL ops res T (fun _ => true) j) j (res j) := by
    intro j hj
    rw [TL_keep j fun i hi => (hr1 i (by omega)).trans (hr0 i (by omega)), hr1 j (by omega), hr0 j hj]
    exact hst0 j hj
  have hnew : ∀ i, i < n → NewOK X N ops (TL ops res T (fun _ => true) (q + i)) (q + i) (res (q + i)) (x.bk i) (σ.length + i) := by
    intro i hi
    rw [TL_keep (q + i) fun j hj => hr1 j (by omega), hr1 (q + i) (by omega), ebk]
    exact hnew1 i hi
  obtain ⟨s, hsq⟩ : ∃ s, s = q + n + b := ⟨_, rfl⟩
  rw [← hsq] at hD hK hsd
  have hrea : ∀ (L : Array Bool), Closed ops L → ∀ i, x.sd i = true → L.getD (x.sj i) false = true → L.getD (q + i) false = true := by
    intro L hc i hi hl
    obtain ⟨h1, h2⟩ := hsd i hi
    obtain ⟨o, i', -, -, -, g4, -, g6, g7, -, -⟩ := hsto (x.sj i - (q + n)) (by omega)
    rw [show q + n + (x.sj i - (q + n)) = x.sj i by omega] at g4 g7
    obtain rfl := hinj i' i g6 hi g7
    exact (bfs_ok ops ops.toList.length _ _ (by rw [List.take_length]; exact g4)).listed hc hl
  refine wp_region_any hm ?_
  have hfull : ∀ (L : Array Bool), (∀ k, k < s → L.getD k false = true) → ∀ i, i < n → ctS x q (fun i => L.getD i false) i = ctS x q (fun _ => true) i := by
    intro L hL i hi
    have h1 := hL (q + i) (by omega)
    by_cases hd : x.sd i = true
    · have h2 := hL (x.sj i) (hsd i hd).2
      simp only [ctS, hd, h1, h2]
    · simp only [ctS, hd, h1, false_and, if_false, Bool.false_eq_true]
  have key : ∀ (fuel : Nat) (L : Array Bool) (w1 : World) (G1 : GM) (m1 : OM) (a1 : Act), Closed ops L → L.size = ops.size → (∀ k, s ≤ k → L.getD k false = false) → unl L ≤ fuel → (∀ i, i < n → L.getD (q + i) false = false → ∀ u, m1 (σ.length + i) u = none) → St X w1 G1 m1 (mkS σ x n q fun i => L.getD i false) → TR N G1 m1 a1 (TL ops res T (fun k => L.getD k false) s) → Tran w G m σ w1 G1 m1 (mkS σ x n q fun i => L.getD i false) →
      wpAny X.P .any ops (PostW X N w G m σ Q) fuel L a1 w1 := by
    intro fuel
    induction fuel with
    | zero =>
      intro L w1 G1 m1 a1 hc hsz hsuf hu hno s1 t1 tr1
      have hall : ∀ k, k < ops.size → L.getD k false = true := by
        intro k hk
        have hkL : k < L.size := by omega
        cases hv : L[k] with
        | true => simp [hkL, hv]
        | false =>
          have := unl_set (L := L) (j := k) (by simp [hkL, hv])
          omega
      have hss : s = ops.size := by
        rcases Nat.lt_or_ge s ops.size with h1 | h1
        · have := hall s h1
          rw [hsuf s (Nat.le_refl _)] at this; cases this
        · have := hD.le; omega
      refine wpAny_of_list hD 0 s L a1 w1 (Nat.le_refl _) hsz hc (fun i => ?_) (by omega) ?_
      · constructor
        · intro h1
          rcases Nat.lt_or_ge i s with h2 | h2
          · exact ⟨h2, by omega⟩
          · rw [hsuf i h2] at h1; cases h1
        · exact fun h1 => hall i h1.2
      · rw [show mkS σ x n q (fun i => L.getD i false) = mkS σ x n q (fun _ => true) from mkS_congr fun i hi => hfull L (fun k hk => hall k (by omega)) i hi] at s1 tr1
        refine hK w G m σ w1 G1 m1 a1 s1 (t1.sub fun k x hx => ?_) tr1
        rw [← hx]
        exact get_TL s fun k hk _ => hall k (by omega)
    | succ fuel ih =>
      intro L w1 G1 m1 a1 hc hsz hsuf hu hno s1 t1 tr1
      by_cases hall : ∀ k, k < s → L.getD k false = true
      · refine wpAny_of_list hD (fuel + 1) s L a1 w1 (Nat.le_refl _) hsz hc (fun i => ?_) ?_ ?_
        · constructor
          · intro h1
            rcases Nat.lt_or_ge i s with h2 | h2
            · exact ⟨h2, by have := hD.le; omega⟩
            · rw [hsuf i h2] at h1; cases h1
          · exact fun h1 => hall i h1.1
        · have h1 := unl_ge hsuf
          have := hD.le
          omega
        · rw [show mkS σ x n q (fun i => L.getD i false) = mkS σ x n q (fun _ => true) from mkS_congr fun i hi => hfull L (fun k hk => hall k (by omega)) i hi] at s1 tr1
          refine hK w G m σ w1 G1 m1 a1 s1 (t1.sub fun k x hx => ?_) tr1
          rw [← hx]
          exact get_TL s fun k hk _ => hall k hk
      · have hsle := hD.le
        obtain ⟨k0, hk0, hk0l, hk0m⟩ : ∃ k0, k0 < s ∧ L.getD k0 false = false ∧ ∀ i, i < k0 → L.getD i false = true := by
          have : ∀ (n : Nat), (∀ i, i < n → L.getD i false = true) ∨ ∃ k0, k0 < n ∧ L.getD k0 false = false ∧ ∀ i, i < k0 → L.getD i false = true := by
            intro n
            induction n with
            | zero => exact .inl fun i hi => by omega
            | succ n ihn =>
              rcases ihn with h1 | ⟨k0, h1, h2, h3⟩
              · cases hv : L.getD n false with
                | true =>
                  refine .inl fun i hi => ?_
                  rcases Nat.lt_or_ge i n with h4 | h4
                  · exact h1 i h4
                  · obtain rfl : i = n := by omega
                    exact hv
                | false => exact .inr ⟨n, by omega, hv, h1⟩
              · exact .inr ⟨k0, by omega, h2, h3⟩
          rcases this s with h1 | h1
          · exact (hall h1).elim
          · exact h1
        have htrue : ∀ k, k < ops.size → L.getD k false = false → L.getD k true = false := by
          intro k hk h1
          have hkL : k < L.size := by omega
          simp [hkL] at h1 ⊢
          exact h1
        have hok0 : ops[k0]? = some ops[k0] := Array.getElem?_eq_getElem (by omega)
        have hready : k0 ∈ Region.ready .any ops L := by
          rw [mem_ready]
          refine ⟨htrue k0 (by omega) hk0l, _, hok0, fun e he hb => ?_⟩
          exact hk0m _ (hD.back k0 _ hok0 e.on (mem_prs.2 ⟨e, he, hb, rfl⟩))
        refine ⟨fun h0 => (by rw [h0] at hready; cases hready), fun j hj => ?_⟩
        obtain ⟨hjl, o, ho, _⟩ := mem_ready.1 hj
        have hjs : j < ops.size := (Array.getElem?_eq_some_iff.1 ho).1
        have hjf : L.getD j false = false := by
          have hjL : j < L.size := by omega
          simp [hjL] at hjl ⊢
          exact hjl
        have hjs' : j < s := by
          rcases Nat.lt_or_ge j s with h1 | h1
          · exact h1
          · have := Reach.ready hc (hD.last j h1 hjs k0 (by omega)) hj
            rw [hk0l] at this; cases this
        have hsame : ∀ t ∈ o.looksAt ops, get (TL ops res T (fun _ => true) j) t = get (TL ops res T (fun k => L.getD k false) s) t := by
          intro t ht
          have e1 : TL ops res T (fun _ => true) j = TL ops res T (fun k => decide (k < j)) s := by
            have : ∀ (n : Nat), TL ops res T (fun k => decide (k < j)) (j + n) = TL ops res T (fun _ => true) j := by
              intro n
              induction n with
              | zero =>
                have : ∀ (q : Nat), q ≤ j → TL ops res T (fun k => decide (k < j)) q = TL ops res T (fun _ => true) q := by
                  intro q
                  induction q with
                  | zero => intro _; rfl
                  | succ q ihq =>
                    intro hq
                    have h1 : decide (q < j) = true := decide_eq_true (by omega)
                    simp only [TL, h1, if_true, ihq (by omega)]
                exact this j (Nat.le_refl _)
              | succ n ihn =>
                have h1 : decide (j + n < j) = false := decide_eq_false (by omega)
                show TL ops res T (fun k => decide (k < j)) (j + n + 1) = _
                simp only [TL, h1, Bool.false_eq_true, if_false]
                exact ihn
            have h2 := this (s - j)
            rw [show j + (s - j) = s by omega] at h2
            exact h2.symm
          rw [e1]
          refine get_TL s fun k hk hd => ?_
          by_cases hkj : k = j
          · subst hkj
            simp [hjf]
          · have h1 := hD.look j o t k hjs' ho ht hk hkj hd
            show decide (k < j) = L.getD k false
            rcases Nat.lt_or_ge k j with h2 | h2
            · rw [Reach.ready hc (h1.1 h2) hj]; simp [h2]
            · have h3 : j < k := by omega
              cases hv : L.getD k false with
              | true => have := (h1.2 h3).listed hc hv; rw [hjf] at this; cases this
              | false => simp; omega
        obtain ⟨hop, hwant⟩ := looks_same (X := X) hsame
        have hset : ∀ k, k ≠ j → (L.setIfInBounds j true).getD k false = L.getD k false := fun k hk => getD_set_ne false (fun h => hk h.symm)
        have hjset : (L.setIfInBounds j true).getD j false = true := by
          have hjL : j < L.size := by omega
          simp [hjL]
        have next : ∀ v w' G' m' r, res j = r → fitD N o.dst = true → (∀ y, r = some y → VRV G' m' y v) → (∀ i u y, m1 i u = some y → m' i u = some y) → (∀ b arr, G1 b = some arr → G' b = some arr) → (∀ i, i < n → (L.setIfInBounds j true).getD (q + i) false = false → ∀ u, m' (σ.length + i) u = none) →
            St X w' G' m' (mkS σ x n q fun i => (L.setIfInBounds j true).getD i false) → Tran w1 G1 m1 (mkS σ x n q fun i => L.getD i false) w' G' m' (mkS σ x n q fun i => (L.setIfInBounds j true).getD i false) → wpAny X.P .any ops (PostW X N w G m σ Q) fuel (L.setIfInBounds j true) (a1.put o.dst v) w' := by
          intro v w' G' m' r hr hf hv hmo hge hno2 s2 tr2
          have hu2 := unl_set hjl
          refine ih _ w' G' m' _ (closed_set hc hj) (by simp [hsz]) (fun k hk => by rw [hset k (by omega)]; exact hsuf k hk) (by omega) hno2 s2 ?_ (tr1.trans tr2)
          have t2 : TR N G' m' (a1.put o.dst v) (putO (TL ops res T (fun k => L.getD k false) s) o.dst r) :=
            (t1.mono hge hmo).putO hf hv
          refine t2.sub fun t x hx => ?_
          rw [← hx, get_putO]
          have := get_TL_set (ops := ops) (res := res) (T := T) (t := t) (L := fun k => L.getD k false) (L' := fun k => (L.setIfInBounds j true).getD k false) hjf hjset hset hD.dist hjs' s (Nat.le_refl _)
          rw [this, ho, Option.bind_some, hr]
          by_cases hd : o.dst = some t
          · rw [if_pos hd, if_pos ⟨hjs', hd⟩]
          · rw [if_neg hd, if_neg (fun h => hd h.2)]
        unfold wpOp
        simp only [ho]
        rcases Nat.lt_or_ge j q with hjq | hjq
        · have hmk : mkS σ x n q (fun i => (L.setIfInBounds j true).getD i false) = mkS σ x n q (fun i => L.getD i false) := mkS_congr fun i _ => ctS_congr (hset (q + i) (by omega)) fun hd => hset (x.sj i) (by have := hsd i hd; omega)
          have hno2 : ∀ i, i < n → (L.setIfInBounds j true).getD (q + i) false = false → ∀ u, m1 (σ.length + i) u = none := fun i hi hl => hno i hi (by rw [← hset (q + i) (by omega)]; exact hl)
          obtain ⟨o', ho', hcase⟩ := hst j hjq
          rw [ho] at ho'
          obtain rfl := Option.some.inj ho'
          rcases hcase with ⟨h1, h2, r, h3, h4⟩ | ⟨h1, h2, h3⟩
          · rw [hwant] at h1
            rw [if_pos (wanted_ok t1 h1)]
            refine .inl (wp_of_runsQ ((h4.congr hop) w1 G1 m1 a1.eval (s1.weak mkS_wk) fun x _ v hv => evO_ok s1 t1 hv) ?_)
            intro v w' hq
            obtain ⟨G', s2, tr2, hv⟩ := hq
            obtain ⟨s3, tr3⟩ := s1.lift mkS_wk s2 tr2
            exact next v w' G' m1 (some r) h3 h2 (fun y hy => by obtain rfl := Option.some.inj hy; exact hv) (fun _ _ _ h => h) tr2.gext hno2 (by rw [hmk]; exact s3) (by rw [hmk]; exact tr3)
          · rw [hwant] at h1
            rw [if_neg (by rw [wanted_ok t1 h1]; simp)]
            exact next undef w1 G1 m1 (some skV) h3 h2 (fun y hy => by obtain rfl := Option.some.inj hy; exact skV_ok) (fun _ _ _ h => h) (fun _ _ h => h) hno2 (by rw [hmk]; exact s1) (by rw [hmk]; exact .refl _ _ _ _)
        rcases Nat.lt_or_ge j (q + n) with hjn | hjn
        · obtain ⟨i, rfl⟩ : ∃ i, j = q + i := ⟨j - q, by omega⟩
          have hi : i < n := by omega
          obtain ⟨o', ho', h1, h2, h3, h4⟩ := hnew i hi
          rw [ho] at ho'
          obtain rfl := Option.some.inj ho'
          rw [hwant] at h1
          rw [if_pos (wanted_ok t1 h1)]
          have hns : x.sd i = true → L.getD (x.sj i) false = false := fun hd => by
            cases hv : L.getD (x.sj i) false with
            | false => rfl
            | true => have := hrea L hc i hd hv; rw [hjf] at this; cases this
          have hct : ctS x q (fun i => L.getD i false) i = none := by
            simp only [ctS, hjf, Bool.false_eq_true, if_false]
            rw [if_neg]
            rintro ⟨h5, h6⟩
            rw [hns h5] at h6; cases h6
          have hfree : (mkS σ x n q fun i => L.getD i false)[σ.length + i]? = some none := by rw [mkS_new hi, hct]
          obtain ⟨v, w', m', hrun, s2, tr2, hv, hm2⟩ := NewOp.run (h3.congr hop) s1 hfree (hno i hi hjf) (ρ := a1.eval) (fun x _ v hv => evO_ok s1 t1 hv)
          have hmk : mkS σ x n q (fun k => (L.setIfInBounds (q + i) true).getD k false) = (mkS σ x n q fun k => L.getD k false).set (σ.length + i) (some (.lit 0 (x.bk i).1 (x.bk i).2)) := by
            refine mkS_set hi ?_ fun k hk hki => ?_
            · simp only [ctS]
              rw [if_neg, if_pos hjset]
              · rfl
              rintro ⟨h5, h6⟩
              rw [hset (x.sj i) (by have := hsd i h5; omega), hns h5] at h6; cases h6
            · exact ctS_congr (hset (q + k) (by omega)) fun hd => hset (x.sj k) (by have := hsd k hd; omega)
          refine .inl ?_
          unfold Oper.wp
          rw [hrun]
          refine next v w' G1 m' _ h4 h2 (fun y hy => by obtain rfl := Option.some.inj hy; exact hv) tr2.mono (fun _ _ h => h) (fun k hk hl u => ?_) (by rw [hmk]; exact s2) (by rw [hmk]; exact tr2.tr)
          have hki : k ≠ i := by
            rintro rfl
            rw [hjset] at hl; cases hl
          rw [hm2 _ (by omega)]
          exact hno k hk (by rw [← hset (q + k) (by omega)]; exact hl) u
        · obtain ⟨r, rfl⟩ : ∃ r, j = q + n + r := ⟨j - (q + n), by omega⟩
          obtain ⟨o', i, ho', h1, h2, h3, h4, h5, h6, h7, h8⟩ := hsto r (by omega)
          rw [ho] at ho'
          obtain rfl := Option.some.inj ho'
          rw [hwant] at h1
          rw [if_pos (wanted_ok t1 h1)]
          have hdone : L.getD (q + i) false = true := Reach.ready hc (bfs_ok ops ops.toList.length _ _ (by rw [List.take_length]; exact h3)) hj
          have hct : ctS x q (fun i => L.getD i false) i = some (.lit 0 (x.bk i).1 (x.bk i).2) := by
            simp only [ctS, h6, hjf, hdone, bkB, Bool.false_eq_true, and_false, if_false, if_true]
          have hB : (mkS σ x n q fun i => L.getD i false)[σ.length + i]? = some (some (.lit 0 (x.bk i).1 (x.bk i).2)) := by rw [mkS_new h4, hct]
          obtain ⟨w', hrun, s2, tr2⟩ := StoreOp.run (h7.congr hop) s1 hB (ρ := a1.eval) (fun x _ v hv => evO_ok s1 t1 hv)
          have hmk : mkS σ x n q (fun k => (L.setIfInBounds (q + n + r) true).getD k false) = (mkS σ x n q fun k => L.getD k false).set (σ.length + i) (some (.lit 0 (x.bk i).1 (x.sc i))) := by
            refine mkS_set h4 ?_ fun k hk hki => ?_
            · simp only [ctS, h5, h6, hjset, and_self, if_true]
            · exact ctS_congr (hset (q + k) (by omega)) fun hd => hset (x.sj k) (fun he => hki (hinj k i hd h5 (he.trans h6.symm)))
          refine .inl ?_
          unfold Oper.wp
          rw [hrun]
          refine next undef w' G1 m1 _ h8 (by rw [h2]; rfl) (fun y hy => by cases hy) (fun _ _ _ h => h) (fun _ _ h => h) (fun k hk hl u => ?_) (by rw [hmk]; exact s2) (by rw [hmk]; exact tr2)
          exact hno k hk (by rw [← hset (q + k) (by omega)]; exact hl) u
  have hrep : ∀ k, (Array.replicate ops.size false).getD k false = false := by
    intro k
    by_cases hk : k < ops.size <;> simp [hk]
  have hpad : mkS σ x n q (fun i => (Array.replicate ops.size false).getD i false) = σ ++ List.replicate n none := mkS_none fun i _ => by simp only [ctS, hrep, Bool.false_eq_true, and_false, if_false]
  have hpg : ∀ (i : Nat) B, (σ ++ List.replicate n none)[i]? = some (some B) → σ[i]? = some (some B) := by
    intro i B hB
    rcases Nat.lt_or_ge i σ.length with h1 | h1
    · rw [List.getElem?_append_left h1] at hB; exact hB
    · rw [List.getElem?_append_right h1, List.getElem?_replicate] at hB
      split at hB <;> simp at hB
  have hdrew : Tran w G m σ { w with drawn := w.drawn + 1 } G m (σ ++ List.replicate n none) := ⟨rfl, rfl, rfl, Nat.le_refl _, fun _ _ _ => rfl, fun _ _ h => h, fun _ _ h => .inl h, fun _ ⟨i, B, v, h1, h2, h3⟩ => .inl ⟨i, B, v, hpg i B h1, h2, h3⟩, fun i B h hv => ⟨⟨B, hpg i B h, hv⟩, rfl⟩⟩
  refine key ops.size _ _ G m a (fun k o hk => by rw [hrep k] at hk; cases hk) (by simp) (fun k _ => hrep k) (by unfold unl; simp) (fun i _ _ u => st.lim _ _ (by omega)) ?_ (t.sub fun k x hx => ?_) (by rw [hpad]; exact hdrew)
  · rw [hpad]
    exact ⟨st.fro, st.glob, fun i B h => st.own i B (hpg i B h), fun i j B B' v v' hij h1 h2 => st.sep i j B B' v v' hij (hpg _ _ h1) (hpg _ _ h2), fun i B u h => st.top i B u (hpg _ _ h), fun i u hi => st.lim i u (by simp at hi; omega)⟩
  · rw [← hx]
    have : ∀ (n : Nat), TL ops res T (fun k => (Array.replicate ops.size false).getD k false) n = T := by
      intro n
      induction n with
      | zero => rfl
      | succ n ihn => simp only [TL, hrep n, Bool.false_eq_true, if_false, ihn]
    rw [this]
end
end Go.Av

namespace Go.Av
open Go

section
variable {X : Cx} {N : Nat} {σ σp σ' : Hp} {T T' : Tm} {Q : Exit → Hp → Tm → Prop} {fn : Func} {p : List Nat} {ops : Array Oper} {k s a b bs n n' : Nat} {Φ : Prop}

def atNew (X : Cx) (N : Nat) (ops : Array Oper) (k : Nat) (T : Tm) : Option (TypeId × List A × Option Tmp) :=
  match ops[k]? with
  | none => none
  | some o =>
    match wantedA ops T o with
    | some true =>
      match fitD N o.dst with
      | true =>
        match o.op with
        | .box e x =>
          match evO X T x with
          | none => none
          | some v => match cellsV v with
            | none => none
            | some cs => some (e, cs, o.dst)
        | .alloc e => match X.ty e with
          | none => none
          | some i => some (e, i.zero.map .c, o.dst)
        | _ => none
      | false => none
    | _ => none

theorem KA_at {F : Nat → Hp → Tm → Prop} {e : TypeId} {cs : List A} {d : Option Tmp} (h : atNew X N ops k T = some (e, cs, d)) (hw : KA X N ops F n (k + 1) (σ ++ [some (.lit 0 e cs)]) (put T d (.cell (.op σ.length 0 cs.length 0 0)))) : KA X N ops F (n + 1) k σ T := by
  unfold atNew at h
  split at h
  · cases h
  rename_i o ho
  split at h
  case h_2 => cases h
  rename_i hwa
  split at h
  case h_2 => cases h
  rename_i hf
  split at h
  · rename_i e' x hop
    split at h
    · cases h
    rename_i v hv
    split at h
    · cases h
    rename_i cs' hcs
    simp only [Option.some.injEq, Prod.mk.injEq] at h
    obtain ⟨rfl, rfl, rfl⟩ := h
    exact ⟨o, _, _, ho, hwa, hf, .inl ⟨x, v, hop, hv, hcs⟩, hw⟩
  · rename_i e' hop
    split at h
    · cases h
    rename_i i hi
    simp only [Option.some.injEq, Prod.mk.injEq] at h
    obtain ⟨rfl, rfl, rfl⟩ := h
    exact ⟨o, _, _, ho, hwa, hf, .inr ⟨hop, i, hi, rfl⟩, hw⟩
  · cases h

theorem WQ_exkA (n : Nat) (ks : List Nat) (h : exqk X N ops σp ks n k T = some (T', Φ)) (hΦ : Φ) (hw : WQ X N ops σp (KA X N ops (KS X N ops Q bs s a b []) a s σ) n' (k + n) T') : WQ X N ops σp (KA X N ops (KS X N ops Q bs s a b []) a s σ) (n' + n) k T := by
  unfold exqk at h
  split at h
  · rename_i h1
    simp only [Option.some.injEq, Prod.mk.injEq] at h
    obtain ⟨rfl, rfl⟩ := h
    exact WQ_exq n h1 hΦ (WQ_sub (fun T T' => KA_sub (fun k σ T T' => KS_sub b [] k σ T T') a s σ T T') n' sub_keep hw)
  · cases h
/-- the region: s quiet operations, then a boxes, b of them filled, in whatever order -/
theorem jda (s a b : Nat) (hm : X.P.follows .mixedOrders = true) (hw : WQ X N (opsOf (cd fn p)) (σ ++ List.replicate a none) (KA X N (opsOf (cd fn p)) (KS X N (opsOf (cd fn p)) Q σ.length s a b []) a s σ) s 0 T) (h : kd (cd fn p) = 6 := by kernel_rfl) (hs : okDraw (opsOf (cd fn p)) (s + a + b) = true := by kernel_rfl) : W X N (cd fn p) σ T Q := by
  generalize cd fn p = c at h hw hs
  cases c with
  | region id ops d => cases d <;> first | exact W_drawA a b hm hs hw | cases h
  | _ => cases h
theorem jya (n' : Nat) (T' : Tm) (n : Nat) (ks : List Nat) (hw : WQ X N ops σp (KA X N ops (KS X N ops Q bs s a b []) a s σ) n' (k + n) T') (h : exqk X N ops σp ks n k T = some (T', True) := by kernel_rfl) : WQ X N ops σp (KA X N ops (KS X N ops Q bs s a b []) a s σ) (n' + n) k T := WQ_exkA n ks h trivial hw
theorem jYa (n' : Nat) (T' : Tm) (Φ : Prop) (n : Nat) (ks : List Nat) (hΦ : Φ) (hw : WQ X N ops σp (KA X N ops (KS X N ops Q bs s a b []) a s σ) n' (k + n) T') (h : exqk X N ops σp ks n k T = some (T', Φ) := by kernel_rfl) : WQ X N ops σp (KA X N ops (KS X N ops Q bs s a b []) a s σ) (n' + n) k T := WQ_exkA n ks h hΦ hw
theorem jda0 {F : Nat → Hp → Tm → Prop} (h : KA X N ops F a s σ T) : WQ X N ops σp (KA X N ops F a s σ) 0 k T := h
theorem jn {F : Nat → Hp → Tm → Prop} (σ' : Hp) (T' : Tm) (e : TypeId) (cs : List A) (d : Option Tmp) (hw : KA X N ops F n (k + 1) σ' T') (h : atNew X N ops k T = some (e, cs, d) := by kernel_rfl) (h1 : σ ++ [some (.lit 0 e cs)] = σ' := by kernel_rfl) (h2 : put T d (.cell (.op σ.length 0 cs.length 0 0)) = T' := by kernel_rfl) : KA X N ops F (n + 1) k σ T := by
  subst h1; subst h2; exact KA_at h hw
theorem jn0 {F : Nat → Hp → Tm → Prop} (h : F k σ T) : KA X N ops F 0 k σ T := h

def stoK (X : Cx) (ops : Array Oper) (bs q a : Nat) (used : List Nat) (k : Nat) (σ : Hp) (T : Tm) : Option (Nat × Hp) :=
  match ops[k]? with
  | none => none
  | some o =>
    match wantedA ops T o, o.dst, o.op with
    | some true, none, .store t p x =>
      match X.ty t, evO X T p, evO X T x with
      | some i, some (.cell (.op b 0 sz 0 j)), some v =>
        match cellsV v, σ[b]? with
        | some cs, some (some (.lit 0 e cells)) =>
          if Nat.beq (bs + (b - bs)) b && Nat.blt (b - bs) a && used.all (fun u => !(Nat.beq u (b - bs))) && ((bfs ops.toList).getD k 0).testBit (q + (b - bs)) && Nat.beq sz cells.length && Nat.beq cs.length i.size && Nat.ble (j + cs.length) cells.length then
            some (b - bs, σ.set b (some (.lit 0 e (putRow cells j cs))))
          else none
        | _, _ => none
      | _, _, _ => none
    | _, _, _ => none
/-- a box filled -/
theorem jst {used : List Nat} (σ' : Hp) (i : Nat) (hw : KS X N ops Q bs s a b (i :: used) (k + 1) σ' T) (h : stoK X ops bs s a used k σ T = some (i, σ') := by kernel_rfl) : KS X N ops Q bs s a (b + 1) used k σ T := by
  unfold stoK at h
  split at h
  · cases h
  rename_i o ho
  split at h
  case h_2 => cases h
  rename_i t p x hwa hd hop
  split at h
  case h_2 => cases h
  rename_i ti b' sz j v hti hp hx
  split at h
  case h_2 => cases h
  rename_i cs e cells hcs hB
  split at h
  case isFalse => cases h
  rename_i hc
  simp only [Bool.and_eq_true, List.all_eq_true, Bool.not_eq_true'] at hc
  obtain ⟨⟨⟨⟨⟨⟨c1, c2⟩, c3⟩, c4⟩, c5⟩, c6⟩, c7⟩ := hc
  have c2 : b' - bs < a := Nat.le_of_ble_eq_true c2
  have c1 := Nat.eq_of_beq_eq_true c1
  have c5 := Nat.eq_of_beq_eq_true c5
  have c6 := Nat.eq_of_beq_eq_true c6
  have c7 := Nat.le_of_ble_eq_true c7
  simp only [Option.some.injEq, Prod.mk.injEq] at h
  obtain ⟨rfl, rfl⟩ := h
  refine ⟨o, b' - bs, e, cells, putRow cells j cs, ho, hwa, hd, c4, c2, fun hu => ?_, by rw [c1]; exact hB, ⟨t, p, x, ti, sz, j, v, cs, hop, hti, by rw [c1]; exact hp, hx, hcs, c5, c6, c7, rfl⟩, by rw [c1]; exact hw⟩
  have := c3 _ hu
  simp at this
theorem jst0 {used : List Nat} (h : WO X N ops k σ T Q) : KS X N ops Q bs s a 0 used k σ T := h
end
end Go.Av


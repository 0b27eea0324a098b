/- Abstract values over the worlds of the model: rules by which a function is walked; plain lemmas. -/
import Derived.Test.YtkbpafipbhaknaaDoorQ5A5
namespace Go.Av
open Go

section
variable {X : Cx} {N : Nat} {σ σ' : Hp} {T T' : Tm} {Q : Exit → Hp → Tm → Prop} {ops : Array Oper} {c : Code}

/-- The function, called with these, over blocks of the caller's own: it returns r and leaves them so. -/
def Work (X : Cx) (f : FuncId) (args : List V) (σ σ' : Hp) (r : V) : Prop :=
  ∀ w G m (vs : List Value), St X w G m σ → VRs G m args vs → Calls X.P f vs.toArray w fun e w' => ∃ v G' m', e = .returned v ∧ St X w' G' m' σ' ∧ Tran w G m σ w' G' m' σ' ∧ VRV G' m' r v

def QWork (X : Cx) (N : Nat) (fn : Func) (σo : Hp) (r : V) (e : Exit) (σ : Hp) (T : Tm) : Prop :=
  (e = .ret ∨ e = .normal) ∧ ∃ T2 vs us, Ent X N σ T σo T2 ∧ evRs X σo T2 fn.results.toList = some vs ∧ resV (upVs us vs) = r
theorem qwork_r {fn : Func} {σo : Hp} {r : V} (T2 : Tm) (vs : List V) (us : List Up) (h : Ent X N σ T σo T2) (h1 : evRs X σo T2 fn.results.toList = some vs) (h2 : resV (upVs us vs) = r) : QWork X N fn σo r .ret σ T := ⟨.inl rfl, T2, vs, us, h, h1, h2⟩
theorem qwork_n {fn : Func} {σo : Hp} {r : V} (T2 : Tm) (vs : List V) (us : List Up) (h : Ent X N σ T σo T2) (h1 : evRs X σo T2 fn.results.toList = some vs) (h2 : resV (upVs us vs) = r) : QWork X N fn σo r .normal σ T := ⟨.inr rfl, T2, vs, us, h, h1, h2⟩

theorem Work_of_W {f : FuncId} {fn : Func} {args : List V} {σo : Hp} {r : V} (hf : X.P.funcs[f]? = some fn) (hb : fn.body = some c) (hN : fn.ntmps = N) (hl : args.length ≤ N) (h : W X N c σ (argsT 0 args) (QWork X N fn σo r)) : Work X f args σ σo r := by
  intro w G m vs s hv
  refine calls_of_wp hf hb (wp_mono (h w G m _ s ⟨?_, rfl, fun k x hx => ?_⟩) ?_)
  · simp [hN, hv.1]; omega
  · obtain ⟨-, h1⟩ := get_argsT hx
    simp only [Nat.sub_zero] at h1
    have hk : k < args.length := (List.getElem?_eq_some_iff.1 h1).1
    obtain ⟨u, hu, hr⟩ := hv.2 k x h1
    refine ⟨by omega, ?_⟩
    have hk' : k < vs.length := by rw [hv.1]; exact hk
    have : (vs.toArray ++ Array.replicate (fn.ntmps - vs.toArray.size) undef).getD k undef = u := by
      rw [List.getElem?_eq_getElem hk'] at hu
      obtain rfl := Option.some.inj hu
      simp [Array.getD, hk', Array.getElem_append]
      omega
    rw [this]; exact hr
  · rintro e a' w' ⟨G2, m2, σ2, T2, s2, t2, tr2, he, T3, xs, us, hent, h1, rfl⟩
    obtain ⟨G3, m3, s3, t3, tr3⟩ := hent w' G2 m2 a' s2 t2
    have hres : ∃ u, (results fn a'.tmps).run X.P w' = .ok u w' ∧ VRV G3 m3 (resV (upVs us xs)) u := by
      obtain ⟨ys, g1, g2⟩ := results_run s3 t3 fn.results.toList xs h1
      refine ⟨_, ?_, resV_ok (us := ys) (upVs_ok g2)⟩
      unfold results
      rw [Array.mapM_eq_mapM_toList]
      simp only [Sem.run_bind, Sem.run_map]
      erw [g1]
      rfl
    obtain ⟨u, g1, g2⟩ := hres
    rcases he with rfl | rfl
    · exact ⟨t3.defers, u, g1, u, G3, m3, rfl, s3, tr2.trans tr3, g2⟩
    · exact ⟨t3.defers, u, g1, u, G3, m3, rfl, s3, tr2.trans tr3, g2⟩

/-! ### the callee's numbers of blocks and the caller's -/
/-- callee's block b of version v: the caller's block pos b of version vm b -/
def rn (pos vm : List Nat) : A → A
  | .op b _ z i j => .op (pos.getD b 0) (vm.getD b 0) z i j
  | .sl b _ n => .sl (pos.getD b 0) (vm.getD b 0) n
  | a => a
def clI (n : Nat) (ov : List Nat) : A → Bool
  | .c _ => true
  | .op b v _ _ _ => Nat.blt b n && Nat.beq v (ov.getD b 0)
  | .sl b v _ => Nat.blt b n && Nat.beq v (ov.getD b 0)
  | .clos _ q cap => (List.range q).all fun i => clI n ov (cap i)
def clIV (n : Nat) (ov : List Nat) : V → Bool
  | .cell a => clI n ov a
  | .agg cs => cs.all (clI n ov)
  | .tup q f => (List.range q).all fun i => clIV n ov (f i)
def clIB (n : Nat) (ov : List Nat) : Option Blk → Bool
  | some (.lit _ _ cs) => cs.all (clI n ov)
  | some _ => true
  | none => false
def setV (v : Nat) : Option Blk → Option Blk
  | some (.rows _ e sz n r) => some (.rows v e sz n r)
  | some (.lit _ e cs) => some (.lit v e cs)
  | none => none
def verO : Option Blk → Nat | some B => B.ver | none => 0

def seeM (pos vm : List Nat) (m : OM) : OM := fun i u => if i < pos.length ∧ u = 1000 then m (pos.getD i 0) (vm.getD i 0) else none
def ovrM (pos nv ov : List Nat) (m mo : OM) : OM := fun i u => if pos.idxOf i < pos.length then (if u = nv.getD (pos.idxOf i) 0 then mo (pos.idxOf i) (ov.getD (pos.idxOf i) 0) else none) else m i u
def wrB (pos nv : List Nat) (σ σo : Hp) : Hp := (List.range σ.length).map fun i => bif Nat.blt (pos.idxOf i) pos.length then setV (nv.getD (pos.idxOf i) 0) (mpB (rn pos nv) (σo.getD (pos.idxOf i) none)) else σ.getD i none
/-- untouched, or staying where it was -/
def ntA (pos vm ov : List Nat) : A → Bool
  | .c _ => true
  | .op b v _ _ _ => !(pos.contains b) || (Nat.beq (ov.getD (pos.idxOf b) 0) 1000 && Nat.beq v (vm.getD (pos.idxOf b) 0))
  | .sl b v _ => !(pos.contains b) || (Nat.beq (ov.getD (pos.idxOf b) 0) 1000 && Nat.beq v (vm.getD (pos.idxOf b) 0))
  | .clos _ q cap => (List.range q).all fun i => ntA pos vm ov (cap i)
def ntV (pos vm ov : List Nat) : V → Bool
  | .cell a => ntA pos vm ov a
  | .agg cs => cs.all (ntA pos vm ov)
  | .tup q f => (List.range q).all fun i => ntV pos vm ov (f i)
def ntB (pos vm ov : List Nat) : Option Blk → Bool
  | some (.lit _ _ cs) => cs.all (ntA pos vm ov)
  | _ => true

theorem blt_lt {a b : Nat} (h : Nat.blt a b = true) : a < b := Nat.le_of_ble_eq_true h
theorem lt_blt {a b : Nat} (h : a < b) : Nat.blt a b = true := Nat.ble_eq_true_of_le h

section
variable {pos vm : List Nat} {G : GM} {m : OM} {n : Nat}
/-- all of version 1000 -/
abbrev th (n : Nat) : List Nat := List.replicate n 1000
theorem th_at {n b : Nat} (h : b < n) : (th n).getD b 0 = 1000 := by
  rw [List.getD_eq_getElem?_getD, List.getElem?_replicate, if_pos h]; rfl
theorem rn_see (hn : n = pos.length) : ∀ (a : A) (u : Value), clI n (th n) a = true → VRA G m (mpA (rn pos vm) a) u → VRA G (seeM pos vm m) a u := by
  subst hn
  have key : ∀ b v x, b < pos.length → v = 1000 → m (pos.getD b 0) (vm.getD b 0) = some x → seeM pos vm m b v = some x := fun b v x hb hv hx => by
    unfold seeM; rw [if_pos ⟨hb, hv⟩]; exact hx
  intro a
  induction a with
  | c x => intro u _ h; exact h
  | op b v z i j =>
    intro u hc h
    simp only [clI, Bool.and_eq_true] at hc
    have hb := blt_lt hc.1
    have hv := Nat.eq_of_beq_eq_true hc.2
    rw [th_at hb] at hv
    obtain ⟨g, k, cp, h1, h2⟩ := h
    exact ⟨g, k, cp, key _ _ _ hb hv h1, h2⟩
  | sl b v n =>
    intro u hc h
    simp only [clI, Bool.and_eq_true] at hc
    have hb := blt_lt hc.1
    have hv := Nat.eq_of_beq_eq_true hc.2
    rw [th_at hb] at hv
    obtain ⟨h1, h2⟩ := h
    exact ⟨key _ _ _ hb hv h1, h2⟩
  | clos f q cap ih =>
    intro u hc h
    obtain ⟨vs, rfl, h1, h2⟩ := h
    refine ⟨vs, rfl, h1, fun i hi => ?_⟩
    obtain ⟨y, hy, hr⟩ := h2 i hi
    have e : ((List.range q).map fun i => mpA (rn pos vm) (cap i)).getD i (.c .jk) = mpA (rn pos vm) (cap i) := by
      rw [List.getD_eq_getElem?_getD, List.getElem?_map, List.getElem?_range hi]; rfl
    have hr : VRA G m (((List.range q).map fun i => mpA (rn pos vm) (cap i)).getD i (.c .jk)) y := hr
    rw [e] at hr
    exact ⟨y, hy, ih i y (List.all_eq_true.1 hc i (List.mem_range.2 hi)) hr⟩
theorem rnV_see (hn : n = pos.length) : ∀ (x : V) (u : Value), clIV n (th n) x = true → VRV G m (mpV (rn pos vm) x) u → VRV G (seeM pos vm m) x u := by
  intro x
  induction x with
  | cell a => intro u hc h; exact rn_see hn a u hc h
  | agg cs =>
    intro u hc h
    obtain ⟨vs, rfl, h1, h2⟩ := h
    refine ⟨vs, rfl, by simpa using h1, fun i a ha => ?_⟩
    obtain ⟨y, hy, hr⟩ := h2 i (mpA (rn pos vm) a) (by rw [List.getElem?_map, ha]; rfl)
    exact ⟨y, hy, rn_see hn a y (List.all_eq_true.1 hc a (List.mem_of_getElem? ha)) hr⟩
  | tup q f ih =>
    intro u hc h
    obtain ⟨vs, rfl, h1, h2⟩ := h
    refine ⟨vs, rfl, h1, fun i hi => ?_⟩
    obtain ⟨y, hy, hr⟩ := h2 i hi
    exact ⟨y, hy, ih i y (List.all_eq_true.1 hc i (List.mem_range.2 hi)) hr⟩
theorem rnVs_see (hn : n = pos.length) {xs : List V} {vs : List Value} (hc : xs.all (clIV n (th n)) = true) (h : VRs G m (xs.map (mpV (rn pos vm))) vs) : VRs G (seeM pos vm m) xs vs := by
  refine ⟨by simpa using h.1, fun i x hx => ?_⟩
  obtain ⟨u, hu, hr⟩ := h.2 i (mpV (rn pos vm) x) (by rw [List.getElem?_map, hx]; rfl)
  exact ⟨u, hu, rnV_see hn x u (List.all_eq_true.1 hc x (List.mem_of_getElem? hx)) hr⟩
end

theorem idx_getD {pos : List Nat} (hnd : pos.Nodup) {j : Nat} (hj : j < pos.length) : pos.idxOf (pos.getD j 0) = j := by
  rw [List.getD_eq_getElem?_getD, List.getElem?_eq_getElem hj]
  exact hnd.idxOf_getElem j hj
theorem getD_idx {pos : List Nat} {i : Nat} (h : pos.idxOf i < pos.length) : pos.getD (pos.idxOf i) 0 = i := by
  rw [List.getD_eq_getElem?_getD, List.getElem?_eq_getElem h]
  exact List.getElem_idxOf h
theorem idx_lt {pos : List Nat} {i : Nat} (h : pos.contains i = true) : pos.idxOf i < pos.length := List.idxOf_lt_length_of_mem (List.contains_iff_mem.1 h)
theorem idx_not {pos : List Nat} {i : Nat} (h : (!(pos.contains i)) = true) : ¬ pos.idxOf i < pos.length := fun hl => by
  have : i ∈ pos := by rw [← getD_idx hl, List.getD_eq_getElem?_getD, List.getElem?_eq_getElem hl]; exact List.getElem_mem hl
  rw [List.contains_iff_mem.2 this] at h
  cases h

section
variable {pos vm nv ov : List Nat} {G G' : GM} {m mo : OM} {n : Nat}
/-- what the callee leaves, in the caller's numbers -/
theorem rn_ovr (hnd : pos.Nodup) (hn : n = pos.length) : ∀ (a : A) (u : Value), clI n ov a = true → VRA G mo a u → VRA G (ovrM pos nv ov m mo) (mpA (rn pos nv) a) u := by
  subst hn
  have key : ∀ b v x, b < pos.length → v = ov.getD b 0 → mo b v = some x → ovrM pos nv ov m mo (pos.getD b 0) (nv.getD b 0) = some x := fun b v x hb hv hx => by
    unfold ovrM
    rw [idx_getD hnd hb, if_pos hb, if_pos rfl, ← hv]
    exact hx
  intro a
  induction a with
  | c x => intro u _ h; exact h
  | op b v z i j =>
    intro u hc h
    simp only [clI, Bool.and_eq_true] at hc
    obtain ⟨g, k, cp, h1, h2⟩ := h
    exact ⟨g, k, cp, key _ _ _ (blt_lt hc.1) (Nat.eq_of_beq_eq_true hc.2) h1, h2⟩
  | sl b v n =>
    intro u hc h
    simp only [clI, Bool.and_eq_true] at hc
    obtain ⟨h1, h2⟩ := h
    exact ⟨key _ _ _ (blt_lt hc.1) (Nat.eq_of_beq_eq_true hc.2) h1, h2⟩
  | clos f q cap ih =>
    intro u hc h
    obtain ⟨vs, rfl, h1, h2⟩ := h
    refine ⟨vs, rfl, h1, fun i hi => ?_⟩
    obtain ⟨y, hy, hr⟩ := h2 i hi
    have e : ((List.range q).map fun i => mpA (rn pos nv) (cap i)).getD i (.c .jk) = mpA (rn pos nv) (cap i) := by
      rw [List.getD_eq_getElem?_getD, List.getElem?_map, List.getElem?_range hi]; rfl
    refine ⟨y, hy, ?_⟩
    show VRA G (ovrM pos nv ov m mo) (((List.range q).map fun i => mpA (rn pos nv) (cap i)).getD i (.c .jk)) y
    rw [e]
    exact ih i y (List.all_eq_true.1 hc i (List.mem_range.2 hi)) hr
theorem rnV_ovr (hnd : pos.Nodup) (hn : n = pos.length) : ∀ (x : V) (u : Value), clIV n ov x = true → VRV G mo x u → VRV G (ovrM pos nv ov m mo) (mpV (rn pos nv) x) u := by
  intro x
  induction x with
  | cell a => intro u hc h; exact rn_ovr hnd hn a u hc h
  | agg cs =>
    intro u hc h
    obtain ⟨vs, rfl, h1, h2⟩ := h
    refine ⟨vs, rfl, by simpa using h1, fun i a ha => ?_⟩
    rw [List.getElem?_map, Option.map_eq_some_iff] at ha
    obtain ⟨b, hb, rfl⟩ := ha
    obtain ⟨y, hy, hr⟩ := h2 i b hb
    exact ⟨y, hy, rn_ovr hnd hn b y (List.all_eq_true.1 hc b (List.mem_of_getElem? hb)) hr⟩
  | tup q f ih =>
    intro u hc h
    obtain ⟨vs, rfl, h1, h2⟩ := h
    refine ⟨vs, rfl, h1, fun i hi => ?_⟩
    obtain ⟨y, hy, hr⟩ := h2 i hi
    exact ⟨y, hy, ih i y (List.all_eq_true.1 hc i (List.mem_range.2 hi)) hr⟩

theorem nt_ovr (hG : ∀ b arr, G b = some arr → G' b = some arr) (hst : ∀ b, b < pos.length → ov.getD b 0 = 1000 → nv.getD b 0 = vm.getD b 0 ∧ mo b 1000 = m (pos.getD b 0) (vm.getD b 0)) : ∀ (a : A) (u : Value), ntA pos vm ov a = true → VRA G m a u → VRA G' (ovrM pos nv ov m mo) a u := by
  have key : ∀ b v x, (!(pos.contains b) || (Nat.beq (ov.getD (pos.idxOf b) 0) 1000 && Nat.beq v (vm.getD (pos.idxOf b) 0))) = true → m b v = some x → ovrM pos nv ov m mo b v = some x := fun b v x hb hx => by
    unfold ovrM
    cases hc : pos.contains b with
    | false => rw [if_neg (idx_not (by rw [hc]; rfl))]; exact hx
    | true =>
      rw [hc] at hb
      simp only [Bool.not_true, Bool.false_or, Bool.and_eq_true] at hb
      have hl := idx_lt hc
      have h1 := Nat.eq_of_beq_eq_true hb.1
      have h2 := Nat.eq_of_beq_eq_true hb.2
      obtain ⟨h3, h4⟩ := hst _ hl h1
      rw [if_pos hl, if_pos (by rw [h3]; exact h2), h1, h4, getD_idx hl, ← h2]
      exact hx
  intro a
  induction a with
  | c x => intro u _ h; exact VRC.mono hG _ _ h
  | op b v z i j =>
    intro u hc h
    obtain ⟨g, k, cp, h1, h2⟩ := h
    exact ⟨g, k, cp, key _ _ _ hc h1, h2⟩
  | sl b v n =>
    intro u hc h
    obtain ⟨h1, h2⟩ := h
    exact ⟨key _ _ _ hc h1, h2⟩
  | clos f q cap ih =>
    intro u hc h
    obtain ⟨vs, rfl, h1, h2⟩ := h
    refine ⟨vs, rfl, h1, fun i hi => ?_⟩
    obtain ⟨y, hy, hr⟩ := h2 i hi
    exact ⟨y, hy, ih i y (List.all_eq_true.1 hc i (List.mem_range.2 hi)) hr⟩
theorem ntV_ovr (hG : ∀ b arr, G b = some arr → G' b = some arr) (hst : ∀ b, b < pos.length → ov.getD b 0 = 1000 → nv.getD b 0 = vm.getD b 0 ∧ mo b 1000 = m (pos.getD b 0) (vm.getD b 0)) : ∀ (x : V) (u : Value), ntV pos vm ov x = true → VRV G m x u → VRV G' (ovrM pos nv ov m mo) x u := by
  intro x
  induction x with
  | cell a => intro u hc h; exact nt_ovr hG hst a u hc h
  | agg cs =>
    intro u hc h
    obtain ⟨vs, rfl, h1, h2⟩ := h
    refine ⟨vs, rfl, h1, fun i a ha => ?_⟩
    obtain ⟨y, hy, hr⟩ := h2 i a ha
    exact ⟨y, hy, nt_ovr hG hst a y (List.all_eq_true.1 hc a (List.mem_of_getElem? ha)) hr⟩
  | tup q f ih =>
    intro u hc h
    obtain ⟨vs, rfl, h1, h2⟩ := h
    refine ⟨vs, rfl, h1, fun i hi => ?_⟩
    obtain ⟨y, hy, hr⟩ := h2 i hi
    exact ⟨y, hy, ih i y (List.all_eq_true.1 hc i (List.mem_range.2 hi)) hr⟩
end

theorem get_keepT2 {ks : List Nat} {T : Tm} {k : Nat} {x : V} (h : get (keepT ks T) k = some x) : get T k = some x := get_keepT h

/-- vm: the caller's versions; nv: those behind the call; ov: the callee's -/
structure WorkOK (pos vm nv ov : List Nat) (σ σin σo : Hp) (n : Nat) : Prop where
  len : pos.length = n
  nd : pos.Nodup
  inl : σin.length = n
  outl : σo.length = n
  inv : σin.map verO = th n
  outv : σo.map verO = ov
  new : nv = (List.range n).map fun b => bif Nat.beq (ov.getD b 0) 1000 then vm.getD b 0 else vm.getD b 0 + 1
  no : (vm.all fun v => !(Nat.beq v 999)) = true
  inp : ((List.range n).map fun b => setV (vm.getD b 0) (mpB (rn pos vm) (σin.getD b none))) = pos.map fun p => σ.getD p none
  cl : σin.all (clIB n (th n)) = true
  clo : σo.all (clIB n ov) = true
  nt : ((List.range σ.length).all fun i => pos.contains i || ntB pos vm ov (σ.getD i none)) = true

section
variable {pos vm nv ov : List Nat} {σin σo : Hp} {n : Nat} {w : World} {G : GM} {m : OM}

theorem setV_at {w : World} {G : GM} {m : OM} {v : Value} {u : Nat} {B B' : Blk} (h : setV u (some B) = some B') : (BlkAt w G m v B ↔ BlkAt w G m v B') ∧ B'.ver = u := by
  cases B <;> (obtain rfl := Option.some.inj h; exact ⟨Iff.rfl, rfl⟩)
theorem setV_ver {u : Nat} {B B' : Blk} (h : setV u (some B) = some B') : B'.ver = u := by
  cases B <;> (obtain rfl := Option.some.inj h; rfl)
theorem setV_some {u : Nat} {ob : Option Blk} {B' : Blk} (h : setV u ob = some B') : ∃ B, ob = some B := by
  cases ob with
  | none => cases h
  | some B => exact ⟨B, rfl⟩

theorem WorkOK.nvAt (h : WorkOK pos vm nv ov σ σin σo n) {b : Nat} (hb : b < n) : nv.getD b 0 = bif Nat.beq (ov.getD b 0) 1000 then vm.getD b 0 else vm.getD b 0 + 1 := by
  rw [h.new, List.getD_eq_getElem?_getD, List.getElem?_map, List.getElem?_range hb]; rfl
theorem WorkOK.no999 (h : WorkOK pos vm nv ov σ σin σo n) (b : Nat) : vm.getD b 0 ≠ 999 := by
  rw [List.getD_eq_getElem?_getD]
  cases hg : vm[b]? with
  | none => simp
  | some v =>
    have := List.all_eq_true.1 h.no v (List.mem_of_getElem? hg)
    intro e
    have e : v = 999 := e
    subst e
    cases this
theorem WorkOK.at (h : WorkOK pos vm nv ov σ σin σo n) {j : Nat} {B : Blk} (hB : σin[j]? = some (some B)) : j < pos.length ∧ B.ver = 1000 ∧ ∃ B1 B2, mpB (rn pos vm) (some B) = some B1 ∧ setV (vm.getD j 0) (some B1) = some B2 ∧ σ[pos.getD j 0]? = some (some B2) := by
  have hj : j < σin.length := lt_of hB
  have hjn : j < n := by rw [← h.inl]; exact hj
  have hj' : j < pos.length := by rw [h.len]; exact hjn
  refine ⟨hj', ?_, ?_⟩
  · have h1 := congrArg (·[j]?) h.inv
    simp only [List.getElem?_map, hB, Option.map_some, List.getElem?_replicate, if_pos hjn] at h1
    exact Option.some.inj h1
  obtain ⟨B1, hB1⟩ : ∃ B1, mpB (rn pos vm) (some B) = some B1 := by cases B <;> exact ⟨_, rfl⟩
  obtain ⟨B2, hB2⟩ : ∃ B2, setV (vm.getD j 0) (some B1) = some B2 := by cases B1 <;> exact ⟨_, rfl⟩
  refine ⟨B1, B2, hB1, hB2, ?_⟩
  have h1 := congrArg (·[j]?) h.inp
  simp only [List.getElem?_map, List.getElem?_range hjn, Option.map_some, List.getElem?_eq_getElem hj'] at h1
  have h2 := Option.some.inj h1
  rw [show σin.getD j none = some B by rw [List.getD_eq_getElem?_getD, hB]; rfl, hB1, hB2] at h2
  rw [List.getD_eq_getElem?_getD, List.getElem?_eq_getElem hj']
  show σ[pos[j]]? = _
  cases hg : σ[pos[j]]? with
  | none => rw [List.getD_eq_getElem?_getD, hg] at h2; cases h2
  | some ob => rw [List.getD_eq_getElem?_getD, hg] at h2; exact congrArg some h2.symm
theorem WorkOK.lt (h : WorkOK pos vm nv ov σ σin σo n) {j : Nat} (hj : j < pos.length) : pos.getD j 0 < σ.length := by
  have hj2 : j < σin.length := by rw [h.inl, ← h.len]; exact hj
  have h1 := List.all_eq_true.1 h.cl σin[j] (List.getElem_mem hj2)
  cases hB : σin[j] with
  | none => rw [hB] at h1; cases h1
  | some B =>
    obtain ⟨_, _, B1, B2, _, _, h2⟩ := h.at (j := j) (B := B) (by rw [List.getElem?_eq_getElem hj2, hB])
    exact lt_of h2
theorem WorkOK.see (h : WorkOK pos vm nv ov σ σin σo n) (s : St X w G m σ) : St X w G (seeM pos vm m) σin := by
  have hm : ∀ j, j < pos.length → seeM pos vm m j 1000 = m (pos.getD j 0) (vm.getD j 0) := fun j hj => by unfold seeM; rw [if_pos ⟨hj, rfl⟩]
  refine ⟨s.fro, s.glob, fun j B hB => ?_, fun i j B B' v v' hij h1 h2 h3 h4 => ?_, fun j B u hB hu => ?_, fun i u hi => ?_⟩
  · obtain ⟨hj, hver, B1, B2, hB1, hB2, hσ⟩ := h.at hB
    obtain ⟨v, h1, h2, h3⟩ := s.own _ B2 hσ
    obtain ⟨hat, hv2⟩ := setV_at (w := w) (G := G) (m := m) (v := v) hB2
    refine ⟨v, by rw [hver, hm j hj, ← hv2]; exact h1, ?_, h3⟩
    obtain ⟨xs, g1, g2⟩ := hat.2 h2
    cases B with
    | rows ver e sz k row => obtain rfl := Option.some.inj hB1; exact ⟨xs, g1, g2⟩
    | lit ver e cs =>
      obtain rfl := Option.some.inj hB1
      refine ⟨xs, by simpa [Blk.sz, Blk.e, Blk.len] using g1, fun i hi q hq => ?_⟩
      have hq' : q < cs.length := hq
      obtain ⟨u, hu, hr⟩ := g2 i hi q (by simpa [Blk.sz] using hq')
      refine ⟨u, by simpa [Blk.sz] using hu, ?_⟩
      have hr : VRA G m ((cs.map (mpA (rn pos vm))).getD q (.c .jk)) u := hr
      rw [List.getD_eq_getElem?_getD, List.getElem?_map, List.getElem?_eq_getElem hq'] at hr
      show VRA G (seeM pos vm m) (cs.getD q (.c .jk)) u
      rw [List.getD_eq_getElem?_getD, List.getElem?_eq_getElem hq']
      refine rn_see h.len.symm _ u ?_ hr
      have h5 := List.all_eq_true.1 h.cl _ (List.mem_of_getElem? hB)
      exact List.all_eq_true.1 h5 _ (List.getElem_mem hq')
  · obtain ⟨hi, hver1, C1, C2, hC1, hC2, hσ1⟩ := h.at h1
    obtain ⟨hj, hver2, D1, D2, hD1, hD2, hσ2⟩ := h.at h2
    rw [hver1, hm i hi, ← setV_ver hC2] at h3
    rw [hver2, hm j hj, ← setV_ver hD2] at h4
    refine s.sep _ _ C2 D2 v v' (fun e => hij ?_) hσ1 hσ2 h3 h4
    rw [← idx_getD h.nd hi, ← idx_getD h.nd hj, e]
  · obtain ⟨hj, hver, B1, B2, hB1, hB2, hσ⟩ := h.at hB
    unfold seeM
    rw [if_neg (by rintro ⟨_, rfl⟩; omega)]
  · unfold seeM
    rw [if_neg (by rw [h.len, ← h.inl]; omega)]
theorem WorkOK.img (h : WorkOK pos vm nv ov σ σin σo n) {k : Nat} (hk : Img (seeM pos vm m) σin k) : ∃ j B v, j < pos.length ∧ σ[pos.getD j 0]? = some (some B) ∧ m (pos.getD j 0) B.ver = some v ∧ v.ownBlock = some k := by
  obtain ⟨j, B, v, h1, h2, h3⟩ := hk
  obtain ⟨hj, hver, B1, B2, hB1, hB2, hσ⟩ := h.at h1
  rw [hver] at h2
  unfold seeM at h2
  rw [if_pos ⟨hj, rfl⟩] at h2
  exact ⟨j, B2, v, hj, hσ, by rw [setV_ver hB2]; exact h2, h3⟩

theorem WorkOK.stay (h : WorkOK pos vm nv ov σ σin σo n) {w' : World} {G' : GM} {mo : OM} (tr : Tran w G (seeM pos vm m) σin w' G' mo σo) : ∀ b, b < pos.length → ov.getD b 0 = 1000 → nv.getD b 0 = vm.getD b 0 ∧ mo b 1000 = m (pos.getD b 0) (vm.getD b 0) := by
  intro b hb ho
  have hbn : b < n := by rw [← h.len]; exact hb
  refine ⟨by rw [h.nvAt hbn, ho]; rfl, ?_⟩
  have hbo : b < σo.length := by rw [h.outl]; exact hbn
  have h1 := List.all_eq_true.1 h.clo σo[b] (List.getElem_mem hbo)
  cases hB : σo[b] with
  | none => rw [hB] at h1; cases h1
  | some B =>
    have h2 := congrArg (·[b]?) h.outv
    simp only [List.getElem?_map, List.getElem?_eq_getElem hbo, hB, Option.map_some] at h2
    have h3 : B.ver = 1000 := by
      rw [← ho, List.getD_eq_getElem?_getD, ← h2]; rfl
    obtain ⟨_, h4⟩ := tr.keep b B (by rw [List.getElem?_eq_getElem hbo, hB]) h3
    rw [h4]
    unfold seeM
    rw [if_pos ⟨hb, rfl⟩]

theorem WorkOK.back (h : WorkOK pos vm nv ov σ σin σo n) (s : St X w G m σ) {w' : World} {G' : GM} {mo : OM} (so : St X w' G' mo σo) (tr : Tran w G (seeM pos vm m) σin w' G' mo σo) :
    St X w' G' (ovrM pos nv ov m mo) (wrB pos nv σ σo) ∧ Tran w G m σ w' G' (ovrM pos nv ov m mo) (wrB pos nv σ σo) := by
  have hwl : (wrB pos nv σ σo).length = σ.length := by simp [wrB]
  have hst := h.stay tr
  have hget : ∀ (i : Nat) B, (wrB pos nv σ σo)[i]? = some (some B) → (pos.idxOf i < pos.length ∧ ∃ B1 B2, σo[pos.idxOf i]? = some (some B1) ∧ mpB (rn pos nv) (some B1) = some B2 ∧ setV (nv.getD (pos.idxOf i) 0) (some B2) = some B) ∨ (¬ pos.idxOf i < pos.length ∧ σ[i]? = some (some B) ∧ ntB pos vm ov (some B) = true) := by
    intro i B hB
    have hi : i < σ.length := by rw [← hwl]; exact lt_of hB
    unfold wrB at hB
    rw [List.getElem?_map, List.getElem?_range hi] at hB
    simp only [Option.map_some, Option.some.injEq] at hB
    cases hb : Nat.blt (pos.idxOf i) pos.length with
    | true =>
      rw [hb] at hB
      simp only [cond_true] at hB
      obtain ⟨B2, hB2⟩ := setV_some hB
      rw [hB2] at hB
      obtain ⟨B1, hB1⟩ := mpB_some hB2
      refine .inl ⟨blt_lt hb, B1, B2, ?_, by rw [← hB1]; exact hB2, hB⟩
      rw [List.getD_eq_getElem?_getD] at hB1
      cases hg : σo[pos.idxOf i]? with
      | none => rw [hg] at hB1; cases hB1
      | some ob => rw [hg] at hB1; exact congrArg some hB1
    | false =>
      rw [hb] at hB
      simp only [cond_false] at hB
      have hn : ¬ pos.idxOf i < pos.length := fun hl => by rw [lt_blt hl] at hb; cases hb
      refine .inr ⟨hn, ?_, ?_⟩
      · rw [List.getD_eq_getElem?_getD, List.getElem?_eq_getElem hi] at hB
        rw [List.getElem?_eq_getElem hi]
        exact congrArg some hB
      · have h1 := List.all_eq_true.1 h.nt i (List.mem_range.2 hi)
        rw [hB, Bool.or_eq_true] at h1
        rcases h1 with h1 | h1
        · exact absurd (idx_lt h1) hn
        · exact h1
  -- a block that came back
  have hback : ∀ i B B1 B2, pos.idxOf i < pos.length → σo[pos.idxOf i]? = some (some B1) → mpB (rn pos nv) (some B1) = some B2 → setV (nv.getD (pos.idxOf i) 0) (some B2) = some B → ovrM pos nv ov m mo i B.ver = mo (pos.idxOf i) B1.ver := by
    intro i B B1 B2 hi h1 h2 h3
    unfold ovrM
    rw [if_pos hi, setV_ver h3, if_pos rfl]
    have h4 := congrArg (·[pos.idxOf i]?) h.outv
    simp only [List.getElem?_map, h1, Option.map_some] at h4
    congr 1
    rw [List.getD_eq_getElem?_getD, ← h4]
    rfl
  have hnot : ∀ i, ¬ pos.idxOf i < pos.length → ∀ u, ovrM pos nv ov m mo i u = m i u := fun i hi u => by unfold ovrM; rw [if_neg hi]
  -- blocks that the callee did not see
  have other : ∀ i B v g, ¬ pos.idxOf i < pos.length → σ[i]? = some (some B) → m i B.ver = some v → v.ownBlock = some g → g < w.heap.size ∧ ¬ Img (seeM pos vm m) σin g := by
    intro i B v g hn hB hv hg
    obtain ⟨v', h1, h2, h3⟩ := s.own i B hB
    obtain rfl := Option.some.inj (hv.symm.trans h1)
    refine ⟨h2.lt hg, fun hI => ?_⟩
    obtain ⟨j, B2, v2, hj, g1, g2, g3⟩ := h.img hI
    have hne : i ≠ pos.getD j 0 := fun e => by subst e; rw [idx_getD h.nd hj] at hn; exact hn hj
    rcases s.sep i _ B B2 v v2 hne hB g1 hv g2 with h4 | h4
    · rw [h4] at hg; cases hg
    · exact h4 (hg.trans g3.symm)
  have himgo : ∀ i B v g, σo[pos.idxOf i]? = some (some B) → mo (pos.idxOf i) B.ver = some v → v.ownBlock = some g → Img (seeM pos vm m) σin g ∨ w.heap.size ≤ g :=
    fun i B v g hB hv hg => tr.img g ⟨_, B, v, hB, hv, hg⟩
  refine ⟨⟨so.fro, so.glob, fun i B hB => ?_, fun i j B B' v v' hij h1 h2 h3 h4 => ?_, fun i B u hB hu => ?_, fun i u hi => ?_⟩, ⟨tr.os, tr.tape, tr.output, tr.size, fun k hk hn => tr.frame k hk fun hI => hn ?_, tr.gext, fun b arr hb => ?_, fun k hk => ?_, fun i B hB hv => ?_⟩⟩
  · rcases hget i B hB with ⟨hi, B1, B2, h1, h2, h3⟩ | ⟨hi, h1, h2⟩
    · obtain ⟨v, g1, g2, g3⟩ := so.own _ B1 h1
      refine ⟨v, by rw [hback i B B1 B2 hi h1 h2 h3]; exact g1, ?_, g3⟩
      refine (setV_at (w := w') (G := G') (m := ovrM pos nv ov m mo) (v := v) h3).1.1 ?_
      have hcl := List.all_eq_true.1 h.clo _ (List.mem_of_getElem? h1)
      obtain ⟨xs, k1, k2⟩ := g2
      cases B1 with
      | rows ver e sz k row => obtain rfl := Option.some.inj h2; exact ⟨xs, k1, k2⟩
      | lit ver e cs =>
        obtain rfl := Option.some.inj h2
        refine ⟨xs, by simpa [Blk.sz, Blk.e, Blk.len] using k1, fun p hp q hq => ?_⟩
        have hq' : q < cs.length := by simpa [Blk.sz] using hq
        obtain ⟨u, hu, hr⟩ := k2 p hp q hq'
        refine ⟨u, by simpa [Blk.sz] using hu, ?_⟩
        have hr : VRA G' mo (cs.getD q (.c .jk)) u := hr
        rw [List.getD_eq_getElem?_getD, List.getElem?_eq_getElem hq'] at hr
        show VRA G' (ovrM pos nv ov m mo) ((cs.map (mpA (rn pos nv))).getD q (.c .jk)) u
        rw [List.getD_eq_getElem?_getD, List.getElem?_map, List.getElem?_eq_getElem hq']
        exact rn_ovr h.nd h.len.symm _ u (List.all_eq_true.1 hcl _ (List.getElem_mem hq')) hr
    · obtain ⟨v, g1, g2, g3⟩ := s.own i B h1
      refine ⟨v, by rw [hnot i hi]; exact g1, ?_, fun g hg => ?_⟩
      · obtain ⟨xs, k1, k2⟩ := g2
        refine ⟨xs, ownsRow_frame k1 (fun g hg => tr.frame g (other i B v g hi h1 g1 hg).1 (other i B v g hi h1 g1 hg).2), fun p hp q hq => ?_⟩
        obtain ⟨u, hu, hr⟩ := k2 p hp q hq
        refine ⟨u, hu, ?_⟩
        cases B with
        | rows ver e sz k row => exact VRC.mono tr.gext _ _ hr
        | lit ver e cs =>
          refine nt_ovr tr.gext hst _ u ?_ hr
          show ntA pos vm ov (cs.getD q (.c .jk)) = true
          rw [List.getD_eq_getElem?_getD]
          cases hq' : cs[q]? with
          | none => rfl
          | some a => exact List.all_eq_true.1 h2 a (List.mem_of_getElem? hq')
      · obtain ⟨o1, o2⟩ := other i B v g hi h1 g1 hg
        cases hG : G' g with
        | none => rfl
        | some arr =>
          rcases tr.gnew g arr hG with k | k | k
          · rw [g3 g hg] at k; cases k
          · exact absurd k o2
          · omega
  · rcases hget i B h1 with ⟨hi, B1, B2, i1, i2, i3⟩ | ⟨hi, i1, i2⟩ <;> rcases hget j B' h2 with ⟨hj, D1, D2, j1, j2, j3⟩ | ⟨hj, j1, j2⟩
    · rw [hback i B B1 B2 hi i1 i2 i3] at h3
      rw [hback j B' D1 D2 hj j1 j2 j3] at h4
      exact so.sep _ _ B1 D1 v v' (fun e => hij (by rw [← getD_idx hi, ← getD_idx hj, e])) i1 j1 h3 h4
    · rw [hback i B B1 B2 hi i1 i2 i3] at h3
      rw [hnot j hj] at h4
      cases hv : v.ownBlock with
      | none => exact .inl rfl
      | some g =>
        refine .inr fun hg => ?_
        obtain ⟨o1, o2⟩ := other j B' v' g hj j1 h4 hg.symm
        rcases himgo i B1 v g i1 h3 hv with k | k
        · exact o2 k
        · omega
    · rw [hback j B' D1 D2 hj j1 j2 j3] at h4
      rw [hnot i hi] at h3
      cases hv : v.ownBlock with
      | none => exact .inl rfl
      | some g =>
        refine .inr fun hg => ?_
        obtain ⟨o1, o2⟩ := other i B v g hi i1 h3 hv
        rcases himgo j D1 v' g j1 h4 hg.symm with k | k
        · exact o2 k
        · omega
    · rw [hnot i hi] at h3
      rw [hnot j hj] at h4
      exact s.sep i j B B' v v' hij i1 j1 h3 h4
  · rcases hget i B hB with ⟨hi, B1, B2, h1, h2, h3⟩ | ⟨hi, h1, h2⟩
    · rw [setV_ver h3] at hu
      unfold ovrM
      rw [if_pos hi, if_neg (by omega)]
    · rw [hnot i hi]
      exact s.top i B u h1 hu
  · rw [hwl] at hi
    rw [hnot i (fun hl => by have := h.lt hl; rw [getD_idx hl] at this; omega)]
    exact s.lim i u hi
  · obtain ⟨j, B, v, hj, g1, g2, g3⟩ := h.img hI
    exact ⟨_, B, v, g1, g2, g3⟩
  · rcases tr.gnew b arr hb with k | k | k
    · exact .inl k
    · obtain ⟨j, B, v, hj, g1, g2, g3⟩ := h.img k
      exact .inr (.inl ⟨_, B, v, g1, g2, g3⟩)
    · exact .inr (.inr k)
  · obtain ⟨i, B, v, h1, h2, h3⟩ := hk
    rcases hget i B h1 with ⟨hi, B1, B2, i1, i2, i3⟩ | ⟨hi, i1, i2⟩
    · rw [hback i B B1 B2 hi i1 i2 i3] at h2
      rcases himgo i B1 v k i1 h2 h3 with q | q
      · obtain ⟨j, C, v2, hj, g1, g2, g3⟩ := h.img q
        exact .inl ⟨_, C, v2, g1, g2, g3⟩
      · exact .inr q
    · rw [hnot i hi] at h2
      exact .inl ⟨i, B, v, i1, h2, h3⟩
  · rcases hget i B hB with ⟨hi, B1, B2, i1, i2, i3⟩ | ⟨hi, i1, i2⟩
    · have hv2 := setV_ver i3
      rw [hv] at hv2
      have hin : pos.idxOf i < n := by rw [← h.len]; exact hi
      have hnv := h.nvAt hin
      cases hb : Nat.beq (ov.getD (pos.idxOf i) 0) 1000 with
      | false =>
        rw [hb, ← hv2] at hnv
        exact absurd (by simp only [cond_false] at hnv; omega) (h.no999 (pos.idxOf i))
      | true =>
        rw [hb, ← hv2] at hnv
        simp only [cond_true] at hnv
        obtain ⟨_, hmo⟩ := hst _ hi (Nat.eq_of_beq_eq_true hb)
        have hio : pos.idxOf i < σin.length := by rw [h.inl]; exact hin
        have hc := List.all_eq_true.1 h.cl σin[pos.idxOf i] (List.getElem_mem hio)
        cases hD : σin[pos.idxOf i] with
        | none => rw [hD] at hc; cases hc
        | some D =>
          obtain ⟨_, _, D1, D2, _, d2, d3⟩ := h.at (j := pos.idxOf i) (B := D) (by rw [List.getElem?_eq_getElem hio, hD])
          rw [getD_idx hi] at d3 hmo
          refine ⟨⟨D2, d3, ?_⟩, ?_⟩
          · rw [setV_ver d2, ← hnv]
          · unfold ovrM
            rw [if_pos hi, if_pos hv2, Nat.eq_of_beq_eq_true hb, hmo, ← hnv]
    · exact ⟨⟨B, i1, hv⟩, hnot i hi _⟩
end

/-- at a call through a function or a closure: the callee, the arguments with what it captured, the temporary -/
def capsA (n : Nat) (cap : Nat → A) : List V := (List.range n).map fun i => .cell (cap i)
def atCallW (X : Cx) (N : Nat) (ops : Array Oper) (k : Nat) (T : Tm) : Option (FuncId × List V × Option Tmp) :=
  match ops[k]? with
  | some o =>
    match o.op with
    | .call ⟨.value fo, args, _⟩ =>
      match allSome (args.toList.map (evO X T)) with
      | some avs =>
        bif fitD N o.dst && isYes (wantedA ops T o) then
          match evO X T fo with
          | some (.cell (.c (.fn f n cap))) => some (f, avs ++ capsC n cap, o.dst)
          | some (.cell (.clos f n cap)) => some (f, avs ++ capsA n cap, o.dst)
          | _ => none
        else none
      | _ => none
    | _ => none
  | none => none

theorem capsA_ok {G : GM} {m : OM} {n : Nat} {cap : Nat → A} {vs : Array Value} (hs : vs.size = n) (h : ∀ i, i < n → ∃ u, vs[i]? = some u ∧ VRA G m (cap i) u) : VRs G m (capsA n cap) vs.toList := by
  refine ⟨by simp [capsA, hs], fun i x hi => ?_⟩
  simp only [capsA, List.getElem?_map, Option.map_eq_some_iff] at hi
  obtain ⟨q, hq, rfl⟩ := hi
  obtain ⟨h2, rfl⟩ := List.getElem?_eq_some_iff.1 hq
  simp only [List.length_range] at h2
  simp only [List.getElem_range]
  obtain ⟨u, hu, hr⟩ := h i h2
  exact ⟨u, by simpa using hu, hr⟩

theorem atCallW_run {k : Nat} {f : FuncId} {all : List V} {d : Option Tmp} (h : atCallW X N ops k T = some (f, all, d)) (hc : ∀ (as : Array Value) (w : World), (callFunc f as).run X.P w = .ok (.enter f as) w) : ∃ o, ops[k]? = some o ∧ o.dst = d ∧ wantedA ops T o = some true ∧ fitD N d = true ∧
    ∀ w G m a, St X w G m σ → TR N G m a T → ∃ vs : List Value, (execOp a.eval o).run X.P w = .ok (.enter f vs.toArray) w ∧ VRs G m all vs := by
  unfold atCallW at h
  split at h
  case h_2 => cases h
  rename_i o hk
  split at h
  case h_2 => cases h
  rename_i fo args ts ho
  split at h
  case h_2 => cases h
  rename_i avs hav
  cases hb : (fitD N o.dst && isYes (wantedA ops T o)) with
  | false => rw [hb] at h; cases h
  | true =>
    rw [hb] at h
    rw [Bool.and_eq_true] at hb
    simp only [cond_true] at h
    split at h
    · rename_i f' n cap hfo
      simp only [Option.some.injEq, Prod.mk.injEq] at h
      obtain ⟨rfl, rfl, rfl⟩ := h
      refine ⟨o, hk, rfl, isYes_ok hb.2, hb.1, fun w G m a s t => ?_⟩
      obtain ⟨caps, hfv, hs, hcv⟩ := evO_ok s t hfo
      exact ⟨_, run_call ho hfv hc, (allSome_ok hav fun x _ v hv => evO_ok s t hv).append (capsC_ok hs hcv)⟩
    · rename_i f' n cap hfo
      simp only [Option.some.injEq, Prod.mk.injEq] at h
      obtain ⟨rfl, rfl, rfl⟩ := h
      refine ⟨o, hk, rfl, isYes_ok hb.2, hb.1, fun w G m a s t => ?_⟩
      obtain ⟨caps, hfv, hs, hcv⟩ := evO_ok s t hfo
      exact ⟨_, run_call ho hfv hc, (allSome_ok hav fun x _ v hv => evO_ok s t hv).append (capsA_ok hs hcv)⟩
    · cases h

theorem WO_work {k : Nat} {f : FuncId} {all args : List V} {d : Option Tmp} {r : V} (pos vm nv ov ks : List Nat) {σin σo : Hp} {n : Nat} (h : atCallW X N ops k T = some (f, all, d)) (hc : ∀ (as : Array Value) (w : World), (callFunc f as).run X.P w = .ok (.enter f as) w)
    (hp : Work X f args σin σo r) (ha : args.map (mpV (rn pos vm)) = all) (hca : args.all (clIV n (th n)) = true) (hcr : clIV n ov r = true) (hok : WorkOK pos vm nv ov σ σin σo n) {T1 : Tm} (hT1 : keepT ks T = T1) (hnt : (T1.all fun p => ntV pos vm ov p.2) = true)
    (hσ : wrB pos nv σ σo = σ') (hT : put T1 d (mpV (rn pos nv) r) = T') (hw : WO X N ops (k + 1) σ' T' Q) : WO X N ops k σ T Q := by
  subst hσ; subst ha; subst hT1; subst hT
  obtain ⟨o, hk, rfl, hg, hd, hrun⟩ := atCallW_run (σ := σ) h hc
  intro w0 G0 μ σ0 w G m a s t tr
  rw [drop_cons hk]
  refine wpList_step fun K hK => ?_
  rw [if_pos (wanted_ok t hg)]
  obtain ⟨vs, hrun, hvs⟩ := hrun w G m a s t
  unfold Oper.wp
  rw [hrun]
  refine (hp w G _ vs (hok.see s) (rnVs_see hok.len.symm hca hvs)).mono ?_
  rintro e w' ⟨v, G', mo, rfl, so, tro, hv⟩
  obtain ⟨s', tr'⟩ := hok.back s so tro
  have t1 : TR N G' (ovrM pos nv ov m mo) a (keepT ks T) := ⟨t.size, t.defers, fun q x hx => by
    obtain ⟨h1, h2⟩ := t.vals q x (get_keepT hx)
    exact ⟨h1, ntV_ovr tro.gext (hok.stay tro) x _ (List.all_eq_true.1 hnt _ (get_mem hx)) h2⟩⟩
  exact hK _ _ (hw w0 G0 μ σ0 w' G' _ _ s' (t1.put hd (rnV_ovr hok.nd hok.len.symm _ _ hcr hv)) (tr.trans tr'))
end
end Go.Av

namespace Go.Av
open Go

section
variable {X : Cx} {N : Nat} {σ σ' : Hp} {T T' : Tm} {Q : Exit → Hp → Tm → Prop} {w : World} {G : GM} {m : OM}

/-- the cells of a box told otherwise -/
theorem St.relit (s : St X w G m σ) {b ver e : Nat} {cs cs' : List A} (hB : σ[b]? = some (some (.lit ver e cs))) (hl : cs'.length = cs.length) (hc : ∀ j u, VRA G m (cs.getD j (.c .jk)) u → VRA G m (cs'.getD j (.c .jk)) u) :
    St X w G m (σ.set b (some (.lit ver e cs'))) ∧ Tran w G m σ w G m (σ.set b (some (.lit ver e cs'))) := by
  have hb : b < σ.length := lt_of hB
  have hget : ∀ (i : Nat) B, (σ.set b (some (.lit ver e cs')))[i]? = some (some B) → ∃ B', σ[i]? = some (some B') ∧ B'.ver = B.ver ∧ (B = B' ∨ (B = .lit ver e cs' ∧ B' = .lit ver e cs)) := by
    intro i B h1
    rw [List.getElem?_set] at h1
    split at h1
    · rename_i hbi
      subst hbi
      obtain rfl := Option.some.inj (Option.some.inj h1)
      exact ⟨_, hB, rfl, .inr ⟨rfl, rfl⟩⟩
    · exact ⟨B, h1, rfl, .inl rfl⟩
  refine ⟨⟨s.fro, s.glob, fun i B h1 => ?_, fun i j B B' v v' hij h1 h2 h3 h4 => ?_, fun i B u h1 hu => ?_, fun i u hi => s.lim i u (by simpa using hi)⟩, ⟨rfl, rfl, rfl, Nat.le_refl _, fun _ _ _ => rfl, fun _ _ h => h, fun _ _ h => .inl h, fun k h => ?_, fun i B h hv => ?_⟩⟩
  · obtain ⟨B', h2, h3, h4⟩ := hget i B h1
    obtain ⟨v, h5, h6, h7⟩ := s.own i B' h2
    refine ⟨v, by rw [← h3]; exact h5, ?_, h7⟩
    rcases h4 with rfl | ⟨rfl, rfl⟩
    · exact h6
    · obtain ⟨xs, g1, g2⟩ := h6
      refine ⟨xs, by simpa [Blk.sz, Blk.e, Blk.len, hl] using g1, fun p hp q hq => ?_⟩
      obtain ⟨u, hu, hr'⟩ := g2 p hp q (by simpa [Blk.sz, hl] using hq)
      exact ⟨u, by simpa [Blk.sz, hl] using hu, hc q u hr'⟩
  · obtain ⟨B1, g1, g2, -⟩ := hget i B h1
    obtain ⟨B2, k1, k2, -⟩ := hget j B' h2
    rw [← g2] at h3; rw [← k2] at h4
    exact s.sep i j B1 B2 v v' hij g1 k1 h3 h4
  · obtain ⟨B1, g1, g2, -⟩ := hget i B h1
    exact s.top i B1 u g1 (by rw [g2]; exact hu)
  · obtain ⟨i, B, v, h1, h2, h3⟩ := h
    obtain ⟨B', g1, g2, -⟩ := hget i B h1
    exact .inl ⟨i, B', v, g1, by rw [g2]; exact h2, h3⟩
  · obtain ⟨B', g1, g2, -⟩ := hget i B h
    exact ⟨⟨B', g1, by rw [g2]; exact hv⟩, rfl⟩

theorem ent_cellnil (b q e sz : Nat) (row : Nat → Nat → C) {ver e' : Nat} {cs cs' : List A} (hsz : Nat.blt 0 sz = true) (hB : σ[b]? = some (some (.lit ver e' cs))) (hq : cs[q]? = some (.c .nsl)) (hcs : cs.set q (.sl σ.length 0 0) = cs')
    (hσ : (σ ++ [some (Blk.rows 0 e sz 0 row)]).set b (some (.lit ver e' cs')) = σ') : Ent X N σ T σ' T := by
  subst hσ; subst hcs
  intro w G m a s tr
  have hext : ∀ a u x, m a u = some x → updM m σ.length 0 (.slice none 0 0) a u = some x := updM_ext (.inl (s.lim _ _ (Nat.le_refl _)))
  obtain ⟨h1, h2⟩ := s.push (w' := w) (v := .slice none 0 0) (B := .rows 0 e sz 0 row) ⟨rfl, rfl, rfl, Nat.le_refl _, fun _ _ _ => rfl⟩ rfl (fun k hk => by cases hk)
    ⟨[], ⟨by simp [Blk.len], .inl ⟨rfl, rfl⟩⟩, fun i hi => by simp [Blk.len] at hi⟩
  have hB2 : (σ ++ [some (Blk.rows 0 e sz 0 row)])[b]? = some (some (.lit ver e' cs)) := by rw [List.getElem?_append_left (lt_of hB)]; exact hB
  obtain ⟨h3, h4⟩ := h1.relit (cs' := cs.set q (.sl σ.length 0 0)) hB2 (by simp) (fun j u hu => by
    rw [List.getD_eq_getElem?_getD, List.getElem?_set]
    by_cases hj : q = j
    · subst hj
      rw [if_pos rfl, if_pos (lt_of hq)]
      rw [List.getD_eq_getElem?_getD, hq] at hu
      have hu : u = .slice none 0 0 := hu
      subst hu
      exact ⟨updM_same, Nat.zero_le _, .inl ⟨rfl, rfl⟩⟩
    · rw [if_neg hj, ← List.getD_eq_getElem?_getD]
      exact hu)
  exact ⟨G, _, h3, tr.mono (fun _ _ h => h) hext, h2.tr.trans h4⟩
end
end Go.Av

namespace Go.Av
open Go

theorem foldl_app {α γ : Type} (f : α → List γ) : ∀ (l : List α) (z : List γ), l.foldl (fun x a => x ++ f a) z = z ++ l.flatMap f
  | [], z => by simp
  | a :: l, z => by rw [List.foldl_cons, foldl_app f l, List.flatMap_cons, List.append_assoc]

theorem run_app {β α γ : Type} {step : Int × List γ → Option ((Int × List γ) ⊕ β)} (l : List α) (f : α → List γ) (K : Nat) (hK : ∀ a ∈ l, (f a).length ≤ K) (z : List γ) {out : List γ → β}
    (h : ∀ (i : Nat) a x, l[i]? = some a → x.length ≤ z.length + i * K → step ((i : Int), x) = some (.inl (((i + 1 : Nat) : Int), x ++ f a))) (he : ∀ x, step ((l.length : Int), x) = some (.inr (out x))) : whole.run step ((0 : Int), z) = some (out (z ++ l.flatMap f)) := by
  have hr := run_fold (step := step) l (fun i x => x.length ≤ z.length + i * K) (fun x a => x ++ f a) (fun i x => ((i : Int), x)) (x0 := z) (b := out (z ++ l.flatMap f)) (by simp)
    (fun i a x ha hx => ⟨h i a x ha hx, by
      have h1 := hK a (mem_of ha)
      have h2 : (i + 1) * K = i * K + K := Nat.succ_mul i K
      rw [List.length_append]
      omega⟩)
    (fun _ => by rw [foldl_app]; exact he _)
  exact hr.1
theorem length_flatMap_le {α γ : Type} (f : α → List γ) (K : Nat) : ∀ (l : List α), (∀ a ∈ l, (f a).length ≤ K) → (l.flatMap f).length ≤ l.length * K
  | [], _ => by simp
  | a :: l, h => by
    rw [List.flatMap_cons, List.length_append, List.length_cons, Nat.succ_mul]
    have h1 := h a (by simp)
    have h2 := length_flatMap_le f K l (fun b hb => h b (by simp [hb]))
    omega
end Go.Av

namespace Go.Av
open Go

abbrev vI (x : Int) : V := .cell (.c (.int .i64 x))
abbrev vU (x : Int) : V := .cell (.c (.int .u64 x))
abbrev vY (x : Int) : V := .cell (.c (.int .u8 x))
abbrev vB (x : Bool) : V := .cell (.c (.bool x))
abbrev vS {α : Type} (E : En α) (l : List α) : V := .cell (.c (slC E l))
abbrev vO (b v s : Nat) (i j : Nat) : V := .cell (.op b v s i j)
abbrev vW (b v n : Nat) : V := .cell (.sl b v n)
abbrev aI (x : Int) : A := .c (.int .i64 x)
abbrev aU (x : Int) : A := .c (.int .u64 x)
abbrev aY (x : Int) : A := .c (.int .u8 x)
abbrev aB (x : Bool) : A := .c (.bool x)
abbrev aS {α : Type} (E : En α) (l : List α) : A := .c (slC E l)
abbrev bL (e : Nat) (cs : List A) : Option Blk := some (.lit 0 e cs)

theorem si {α : Type} {a b : α} (h : some a = some b) : a = b := Option.some.inj h

section
variable {X : Cx} {N : Nat} {σ σ1 σ2 : Hp} {T : Tm} {Q : Exit → Hp → Tm → Prop} {fn : Func} {p : List Nat} {ops : Array Oper} {k : Nat}

theorem js (hw : W X N (cd fn (0 :: p)) σ T (thenQ (fun σ' T' => W X N (cd fn (1 :: p)) σ' T' Q) Q)) (h : kd (cd fn p) = 2 := by kernel_rfl) : W X N (cd fn p) σ T Q := W_seq_at h hw
theorem jr (hw : WO X N (opsOf (cd fn p)) 0 σ T Q) (h : kd (cd fn p) = 5 := by kernel_rfl) : W X N (cd fn p) σ T Q := W_region_at h hw
theorem jk (hq : Q .normal σ T) (h : kd (cd fn p) = 0 := by kernel_rfl) : W X N (cd fn p) σ T Q := W_skip_at h hq
theorem jt (hq : Q .ret σ T) (h : kd (cd fn p) = 1 := by kernel_rfl) : W X N (cd fn p) σ T Q := W_ret_at h hq
theorem je (i : Nat) (hq : Q (.exit i) σ T) (h : kd (cd fn p) = 8 := by kernel_rfl) (hi : idOf (cd fn p) = i := by kernel_rfl) : W X N (cd fn p) σ T Q := W_exit_at i h hi hq
theorem jb (i : Nat) (hw : W X N (cd fn (0 :: p)) σ T (blockQ i Q)) (h : kd (cd fn p) = 7 := by kernel_rfl) (hi : idOf (cd fn p) = i := by kernel_rfl) : W X N (cd fn p) σ T Q := W_block_at i h hi hw
theorem jc (b : Bool) (ht : b = true → W X N (cd fn (0 :: p)) σ T Q) (hf : b = false → W X N (cd fn (1 :: p)) σ T Q) (h : condE X T (cd fn p) = some b := by kernel_rfl) : W X N (cd fn p) σ T Q := W_cond_at h ht hf
theorem jm {i j : Nat} (h : Q (.exit j) σ T) (hij : Nat.beq j i = false := by kernel_rfl) : blockQ i Q (.exit j) σ T := blockQ_miss hij h

/-- to the region's end -/
theorem jg (T' : Tm) (n : Nat) (ks : List Nat) (hq : Q .normal σ T') (h : exk X N ops ks n k σ T = some (σ, T', True) := by kernel_rfl) (he : Nat.ble ops.toList.length (k + n) = true := by kernel_rfl) : WO X N ops k σ T Q := WO_fin n ks h trivial he hq
theorem jG (T' : Tm) (Φ : Prop) (n : Nat) (ks : List Nat) (hΦ : Φ) (hq : Q .normal σ T') (h : exk X N ops ks n k σ T = some (σ, T', Φ) := by kernel_rfl) (he : Nat.ble ops.toList.length (k + n) = true := by kernel_rfl) : WO X N ops k σ T Q := WO_fin n ks h hΦ he hq
theorem jf (σ' : Hp) (T' : Tm) (n : Nat) (ks : List Nat) (hq : Q .normal σ' T') (h : exk X N ops ks n k σ T = some (σ', T', True) := by kernel_rfl) (he : Nat.ble ops.toList.length (k + n) = true := by kernel_rfl) : WO X N ops k σ T Q := WO_fin n ks h trivial he hq
theorem jF (σ' : Hp) (T' : Tm) (Φ : Prop) (n : Nat) (ks : List Nat) (hΦ : Φ) (hq : Q .normal σ' T') (h : exk X N ops ks n k σ T = some (σ', T', Φ) := by kernel_rfl) (he : Nat.ble ops.toList.length (k + n) = true := by kernel_rfl) : WO X N ops k σ T Q := WO_fin n ks h hΦ he hq
/-- on in the region -/
theorem jh (T' : Tm) (n : Nat) (ks : List Nat) (hw : WO X N ops (k + n) σ T' Q) (h : exk X N ops ks n k σ T = some (σ, T', True) := by kernel_rfl) : WO X N ops k σ T Q := WO_exk n ks h trivial hw
theorem jH (T' : Tm) (Φ : Prop) (n : Nat) (ks : List Nat) (hΦ : Φ) (hw : WO X N ops (k + n) σ T' Q) (h : exk X N ops ks n k σ T = some (σ, T', Φ) := by kernel_rfl) : WO X N ops k σ T Q := WO_exk n ks h hΦ hw
theorem jx (σ' : Hp) (T' : Tm) (n : Nat) (ks : List Nat) (hw : WO X N ops (k + n) σ' T' Q) (h : exk X N ops ks n k σ T = some (σ', T', True) := by kernel_rfl) : WO X N ops k σ T Q := WO_exk n ks h trivial hw
theorem jX (σ' : Hp) (T' : Tm) (Φ : Prop) (n : Nat) (ks : List Nat) (hΦ : Φ) (hw : WO X N ops (k + n) σ' T' Q) (h : exk X N ops ks n k σ T = some (σ', T', Φ) := by kernel_rfl) : WO X N ops k σ T Q := WO_exk n ks h hΦ hw
theorem jy {s : Nat} (n' : Nat) (T' : Tm) (n : Nat) (ks : List Nat) (hw : WQ X N ops σ (KO X N ops s σ Q) n' (k + n) T') (h : exqk X N ops σ ks n k T = some (T', True) := by kernel_rfl) : WQ X N ops σ (KO X N ops s σ Q) (n' + n) k T := WQ_exk n ks h trivial hw
theorem jY {s : Nat} (n' : Nat) (T' : Tm) (Φ : Prop) (n : Nat) (ks : List Nat) (hΦ : Φ) (hw : WQ X N ops σ (KO X N ops s σ Q) n' (k + n) T') (h : exqk X N ops σ ks n k T = some (T', Φ) := by kernel_rfl) : WQ X N ops σ (KO X N ops s σ Q) (n' + n) k T := WQ_exk n ks h hΦ hw
/-- a test decided -/
theorem jd (t : Nat) {e b : Bool} (hb : e = b) (hw : WO X N ops k σ (put T (some t) (.cell (.c (.bool b)))) Q) (hg : get T t = some (.cell (.c (.bool e))) := by kernel_rfl) : WO X N ops k σ T Q := WO_ent (ent_bool t hb hg rfl) hw
theorem jD {s n' : Nat} (t : Nat) {e b : Bool} (hb : e = b) (hw : WQ X N ops σ (KO X N ops s σ Q) n' k (put T (some t) (.cell (.c (.bool b))))) (hg : get T t = some (.cell (.c (.bool e))) := by kernel_rfl) : WQ X N ops σ (KO X N ops s σ Q) n' k T := WQ_bool t hb hg rfl hw
theorem jj (k' : Nat) (T1 : Tm) (hJ : WO X N ops k' σ T1 Q) (h : WO X N ops k' σ T1 Q → WO X N ops k σ T Q) : WO X N ops k σ T Q := h hJ
/-- what is returned -/
theorem jq {r : V} (vs : List V) (h : evRs X σ T fn.results.toList = some vs := by kernel_rfl) (hl : vs.all (lendROKB σ) = true := by kernel_rfl) (hr : resV (upVs [] (vs.map (lendR σ))) = r := by kernel_rfl) : QRet X fn r .ret σ T := qret vs h hl [] hr
theorem jQ {r : V} (vs : List V) (us : List Up) (h : evRs X σ T fn.results.toList = some vs := by kernel_rfl) (hl : vs.all (lendROKB σ) = true := by kernel_rfl) (hr : resV (upVs us (vs.map (lendR σ))) = r := by kernel_rfl) : QRet X fn r .ret σ T := qret vs h hl us hr
theorem jnq {r : V} (vs : List V) (us : List Up) (h : evRs X σ T fn.results.toList = some vs := by kernel_rfl) (hl : vs.all (lendROKB σ) = true := by kernel_rfl) (hr : resV (upVs us (vs.map (lendR σ))) = r := by kernel_rfl) : QRet X fn r .normal σ T := qnor vs h hl us hr
theorem jE (l : List Stp) {σ' : Hp} {T' : Tm} (h : stps l σ T = some (σ', T') := by kernel_rfl) : Ent X N σ T σ' T' := stps_ok l h
/-- calls -/
theorem jl {f : FuncId} {all : List V} {r : V} (d : Nat) (hc : ∀ (as : Array Value) (w : World), (callFunc f as).run X.P w = .ok (.enter f as) w) (hp : Pure X f all r) (hw : WO X N ops (k + 1) σ (put T (some d) r) Q) (h : atCall X N ops k T = some (f, all, some d) := by kernel_rfl) (hz : all.all frozenV = true := by kernel_rfl) (hr : frozenV r = true := by kernel_rfl) :
    WO X N ops k σ T Q := WO_call h hz hr hc hp hw
theorem jL {K : Tm → Prop} {n : Nat} {f : FuncId} {all : List V} {r : V} (d : Nat) (hc : ∀ (as : Array Value) (w : World), (callFunc f as).run X.P w = .ok (.enter f as) w) (hp : Pure X f all r) (hw : WQ X N ops σ K n (k + 1) (put T (some d) r)) (h : atCall X N ops k T = some (f, all, some d) := by kernel_rfl) (hz : all.all frozenV = true := by kernel_rfl) (hr : frozenV r = true := by kernel_rfl) :
    WQ X N ops σ K (n + 1) k T := WQ_call h hz hr hc hp hw
theorem jdr (s' : Nat) (hm : X.P.follows .mixedOrders = true) (hw : WQ X N (opsOf (cd fn p)) σ (KO X N (opsOf (cd fn p)) s' σ Q) s' 0 T) (h : kd (cd fn p) = 6 := by kernel_rfl) (hs : okDraw (opsOf (cd fn p)) s' = true := by kernel_rfl) : W X N (cd fn p) σ T Q := W_drawK s' h hm hs hw
end
end Go.Av


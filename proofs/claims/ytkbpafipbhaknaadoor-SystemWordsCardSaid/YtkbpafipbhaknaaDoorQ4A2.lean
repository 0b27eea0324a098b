/- Abstract values over the worlds of the model: rules by which a function is walked; plain lemmas. -/
import Derived.Test.YtkbpafipbhaknaaDoorQ4A1
import Derived.KernelRfl
import Derived.LoopN
namespace Go.Av
open Go

def descK : TypeDesc → TK
  | .int k => .int k
  | .bool => .bool
  | .string => .str
  | .slice e => .slice e
  | .struct fs => .struct (fs.toList.map fun f => (f.offset, f.type))
  | .array n e => .array n e
  | .pointer e => .ptr e
  | _ => .other

theorem descK_ok {P : Program} {t : Nat} {d : TypeDesc} (h : P.underlying t = some d) : TyK P t (descK d) := by
  cases d <;> first | exact h | exact ⟨_, h, rfl⟩ | exact ⟨_, h, trivial⟩

def tyInfo (P : Program) (t : Nat) : Option (TK × Nat × Nat × Option (List C × Bool × Nat × Bool)) :=
  match P.underlying t, P.info? t with
  | some d, some inf => some (descK d, inf.size, inf.bytes, inf.zero.map fun z => (z.cells.toList.map ofConstC, isAggV z, z.cells.size, oneAll z))
  | _, _ => none
def tyExp (i : TI) : TK × Nat × Nat × Option (List C × Bool × Nat × Bool) := (i.k, i.size, i.bytes, some (i.zero, i.agg, i.size, true))

theorem tyOK_of {P : Program} {t : Nat} {i : TI} (h : tyInfo P t = some (tyExp i)) : TyOK P t i := by
  unfold tyInfo at h
  split at h
  case h_2 => cases h
  rename_i d inf hd hi
  simp only [tyExp, Option.some.injEq, Prod.mk.injEq, Option.map_eq_some_iff] at h
  obtain ⟨h1, h2, h3, z, h4, h5, h6, h7, h8⟩ := h
  exact ⟨h1 ▸ descK_ok hd, inf, z, hi, h2, h3, h4, h5, h6, h7, h8⟩

def lookTy : List (Nat × TI) → Nat → Option TI
  | [], _ => none
  | (k, i) :: r, t => bif Nat.beq k t then some i else lookTy r t

theorem lookTy_ok {P : Program} : ∀ {L : List (Nat × TI)}, L.map (fun p => tyInfo P p.1) = L.map (fun p => some (tyExp p.2)) → ∀ t i, lookTy L t = some i → TyOK P t i
  | [], _, t, i, h => by cases h
  | (k, j) :: r, hL, t, i, h => by
    simp only [List.map_cons, List.cons.injEq] at hL
    simp only [lookTy] at h
    cases hb : Nat.beq k t with
    | true =>
      rw [hb] at h
      obtain rfl := Option.some.inj h
      obtain rfl := Nat.eq_of_beq_eq_true hb
      exact tyOK_of hL.1
    | false => rw [hb] at h; exact lookTy_ok hL.2 t i h
end Go.Av

namespace Go.Av
open Go

section
variable {X : Cx} {N : Nat} {σ σ' σ2 : Hp} {T T' T2 : Tm} {Q : Exit → Hp → Tm → Prop} {c : Code} {ops : Array Oper}

/-- what a frozen block looks like: cells in a row, rows, the cells -/
def frB : Blk → Option (Nat × Nat × (Nat → Nat → C))
  | .rows _ _ sz n row => some (sz, n, row)
  | .lit _ _ cs => (frzA cs).map fun l => (cs.length, 1, fun _ j => l.getD j .jk)
def fzA (b v : Nat) (sz n : Nat) (row : Nat → Nat → C) : A → A
  | .op b' u z i j => bif Nat.beq b' b then (bif Nat.beq u v && Nat.beq z sz then .c (.ptr sz n row i j) else .c .jk) else .op b' u z i j
  | .sl b' u k => bif Nat.beq b' b then (bif Nat.beq u v then .c (.sl n sz row) else .c .jk) else .sl b' u k
  | a => a

theorem ent_freeze (b : Nat) {B : Blk} {sz n : Nat} {row : Nat → Nat → C} (hB : σ[b]? = some (some B)) (hfr : frB B = some (sz, n, row)) (hσ : (σ.map (mpB (fzA b B.ver sz n row))).set b none = σ') (hT : mpT (fzA b B.ver sz n row) T = T') : Ent X N σ T σ' T' := by
  subst hσ; subst hT
  intro w G m a s tr
  have hb : b < σ.length := (List.getElem?_eq_some_iff.1 hB).1
  obtain ⟨v, hv, ⟨xs, hown, hcell⟩, hnG⟩ := s.own b _ hB
  have hsz : sz = B.sz ∧ n = B.len ∧ ∀ i, i < n → ∀ j, j < sz → ∃ u, xs[i * sz + j]? = some u ∧ VRC G (row i j) u := by
    cases B with
    | rows ver e sz' n' row' =>
      simp only [frB, Option.some.injEq, Prod.mk.injEq] at hfr
      obtain ⟨rfl, rfl, rfl⟩ := hfr
      exact ⟨rfl, rfl, hcell⟩
    | lit ver e cs =>
      simp only [frB, Option.map_eq_some_iff, Prod.mk.injEq] at hfr
      obtain ⟨l, hl, rfl, rfl, rfl⟩ := hfr
      refine ⟨rfl, rfl, fun i hi j hj => ?_⟩
      obtain rfl : i = 0 := by omega
      have hvr : VRL G m cs (xs.take cs.length) := by
        refine ⟨?_, fun q a hq => ?_⟩
        · have h1 := hown.1
          simp only [Blk.sz, Blk.len] at h1
          simp; omega
        · have hq' : q < cs.length := (List.getElem?_eq_some_iff.1 hq).1
          obtain ⟨u, hu, hr⟩ := hcell 0 (by simp [Blk.len]) q hq'
          refine ⟨u, by rw [List.getElem?_take, if_pos hq']; simpa using hu, ?_⟩
          have : Blk.cell (.lit ver e cs) 0 q = a := by
            show cs.getD q (.c .jk) = a
            rw [List.getD_eq_getElem?_getD, hq]; rfl
          rw [← this]; exact hr
      obtain ⟨h1, h2⟩ := frzA_ok hl hvr
      have hlen : l.length = cs.length := by rw [h1, hvr.1]
      obtain ⟨u, hu, hr⟩ := h2 j _ (List.getElem?_eq_getElem (by omega))
      refine ⟨u, ?_, ?_⟩
      · rw [List.getElem?_take, if_pos hj] at hu; simpa using hu
      · show VRC G (l.getD j .jk) u
        rw [List.getD_eq_getElem?_getD, List.getElem?_eq_getElem (by omega)]
        exact hr
  obtain ⟨rfl, rfl, hcell'⟩ := hsz
  let G' : GM := fun k => if v.ownBlock = some k then (match w.heap[k]? with | some (.cells arr _ _) => some arr | _ => none) else G k
  have hext : ∀ k arr, G k = some arr → G' k = some arr := by
    intro k arr hk
    show (if _ then _ else _) = _
    rw [if_neg]
    · exact hk
    · intro ho
      rw [hnG k ho] at hk; cases hk
  have hrow : ∀ g k cp, v = .slice (some ⟨g, 0, none⟩) k cp → k = B.len ∧ ∃ cur cap, cp = cap ∧ B.len ≤ cap ∧ G' g = some cur ∧ ∀ i, i < B.len → ∀ j, j < B.sz → ∃ u, cur[0 + (i * B.sz + j)]? = some u ∧ VRC G' (row i j) u := by
    intro g k cp hvk
    rcases hown.2 with ⟨h1, h2⟩ | ⟨g2, cap, cur, h1, -, h2, h3, h4, h5, h6⟩
    · rw [h1] at hvk; cases hvk
    · rw [h1] at hvk
      injection hvk with e1 e2 e3
      injection e1 with e1
      injection e1 with e1 _ _
      subst e1; subst e2; subst e3
      refine ⟨rfl, cur, cap, rfl, h3, ?_, fun i hi j hj => ?_⟩
      · show (if _ then _ else _) = _
        rw [if_pos (by rw [h1]; rfl), h2]
      · obtain ⟨u, hu, hr⟩ := hcell' i hi j hj
        refine ⟨u, ?_, VRC.mono hext _ _ hr⟩
        rw [← h6, List.getElem?_take] at hu
        split at hu
        case isFalse => cases hu
        simpa using hu
  have hf : ∀ a u, noClos a = true → VRA G m a u → VRA G' m (fzA b B.ver B.sz B.len row a) u := by
    intro a u hn h
    cases a with
    | c x => exact VRC.mono hext _ _ h
    | clos => cases hn
    | op b' v' z i j =>
      simp only [fzA]
      cases hb' : Nat.beq b' b with
      | false => exact h
      | true =>
        obtain rfl := Nat.eq_of_beq_eq_true hb'
        cases hv' : Nat.beq v' B.ver && Nat.beq z B.sz with
        | false => exact h.one
        | true =>
          rw [Bool.and_eq_true] at hv'
          obtain rfl := Nat.eq_of_beq_eq_true hv'.1
          obtain rfl := Nat.eq_of_beq_eq_true hv'.2
          obtain ⟨g, n, cp, h1, h2, h3⟩ := h
          obtain rfl : v = _ := Option.some.inj (hv.symm.trans h1)
          obtain ⟨rfl, cur, cap, rfl, h4, h5, h6⟩ := hrow g n cp rfl
          exact ⟨g, 0, cur, by rw [h3]; simp, h2, h5, h6⟩
    | sl b' v' k =>
      simp only [fzA]
      cases hb' : Nat.beq b' b with
      | false => exact h
      | true =>
        obtain rfl := Nat.eq_of_beq_eq_true hb'
        cases hv' : Nat.beq v' B.ver with
        | false => exact h.one
        | true =>
          obtain rfl := Nat.eq_of_beq_eq_true hv'
          obtain ⟨h1, h2, h3⟩ := h
          obtain rfl : v = u := Option.some.inj (hv.symm.trans h1)
          rcases h3 with ⟨rfl, rfl⟩ | ⟨g, cp, rfl⟩
          · rcases hown.2 with ⟨_, h5⟩ | ⟨g2, cap, cur, h5, _⟩
            · have h5 : B.len = 0 := h5
              exact ⟨none, 0, by rw [h5], by omega, by omega, .inl h5⟩
            · cases h5
          · obtain ⟨rfl, cur, cap, rfl, h4, h5, h6⟩ := hrow g k cp rfl
            exact ⟨some ⟨g, 0, none⟩, cp, rfl, h2, h4, .inr ⟨g, 0, cur, rfl, h5, h6⟩⟩
  have hget : ∀ (i : Nat) B', ((σ.map (mpB (fzA b B.ver B.sz B.len row))).set b none)[i]? = some (some B') → ∃ B1, i ≠ b ∧ σ[i]? = some (some B1) ∧ mpB (fzA b B.ver B.sz B.len row) (some B1) = some B' := by
    intro i B' h1
    rw [List.getElem?_set] at h1
    split at h1
    · simp at h1
    · rename_i hbi
      rw [List.getElem?_map] at h1
      cases h2 : σ[i]? with
      | none => rw [h2] at h1; cases h1
      | some ob =>
        rw [h2] at h1
        have h1 := Option.some.inj h1
        obtain ⟨B1, rfl⟩ := mpB_some h1
        exact ⟨B1, fun h => hbi h.symm, rfl, h1⟩
  have himg : ∀ k, Img m ((σ.map (mpB (fzA b B.ver B.sz B.len row))).set b none) k → Img m σ k := by
    rintro k ⟨i, B', v, h1, h2, h3⟩
    obtain ⟨B1, a1, a2, a3⟩ := hget i B' h1
    exact ⟨i, B1, v, a2, by rw [← mpB_ver a3]; exact h2, h3⟩
  have hgn : ∀ k arr, G' k = some arr → G k = some arr ∨ Img m σ k := by
    intro k arr hk
    have hk : (if v.ownBlock = some k then (match w.heap[k]? with | some (.cells arr _ _) => some arr | _ => none) else G k) = some arr := hk
    split at hk
    · rename_i ho; exact .inr ⟨b, _, _, hB, hv, ho⟩
    · exact .inl hk
  refine ⟨G', m, ⟨fun k arr hk => ?_, fun g c hc => VRC.mono hext _ _ (s.glob g c hc), fun i B' h1 => ?_, fun i j B1 B2 v1 v2 hij h1 h2 h3 h4 => ?_, fun i B' u h1 hu => ?_, fun i u hi => s.lim i u (by simpa using hi)⟩, mpT_ok hf tr, ⟨rfl, rfl, rfl, Nat.le_refl _, fun _ _ _ => rfl, hext, fun k arr h => (hgn k arr h).imp id .inl, fun k h => .inl (himg k h), fun i B' h1 hv => by
    obtain ⟨B1, i1, i2, i3⟩ := hget i B' h1
    exact ⟨⟨B1, i2, by rw [← mpB_ver i3]; exact hv⟩, rfl⟩⟩⟩
  · have hk : (if v.ownBlock = some k then (match w.heap[k]? with | some (.cells arr _ _) => some arr | _ => none) else G k) = some arr := hk
    split at hk
    · split at hk
      · rename_i hh; obtain rfl := Option.some.inj hk; exact ⟨_, _, hh⟩
      · cases hk
    · exact s.fro k arr hk
  · obtain ⟨B1, hi, h2, h3⟩ := hget i B' h1
    obtain ⟨v', h4, h5, h6⟩ := s.own i B1 h2
    refine ⟨v', by rw [mpB_ver h3]; exact h4, mpB_at hf (VRC.mono hext) h3 h5, fun k hk => ?_⟩
    show (if _ then _ else _) = _
    rw [if_neg]
    · exact h6 k hk
    · intro ho
      rcases s.sep i b B1 B v' v hi h2 hB h4 hv with h6 | h6
      · rw [h6] at hk; cases hk
      · exact h6 (by rw [hk, ho])
  · obtain ⟨C1, i1, i2, i3⟩ := hget i B1 h1
    obtain ⟨D1, j1, j2, j3⟩ := hget j B2 h2
    exact s.sep i j C1 D1 v1 v2 hij i2 j2 (by rw [← mpB_ver i3]; exact h3) (by rw [← mpB_ver j3]; exact h4)
  · obtain ⟨B1, i1, i2, i3⟩ := hget i B' h1
    exact s.top i B1 u i2 (by rw [← mpB_ver i3]; exact hu)

/-- a temporary's value told weaker -/
theorem ent_weak (t : Nat) {x x' : V} (hg : get T t = some x) (hx : ∀ G m v, VRV G m x v → VRV G m x' v) (hT : put T (some t) x' = T') : Ent X N σ T σ T' := by
  subst hT
  intro w G m a s tr
  refine ⟨G, m, s, ⟨tr.size, tr.defers, fun k y hy => ?_⟩, .refl _ _ _ _⟩
  simp only [put, get] at hy
  split at hy
  · rename_i hk
    subst hk
    obtain rfl := Option.some.inj hy
    obtain ⟨h1, h2⟩ := tr.vals t x hg
    exact ⟨h1, hx _ _ _ h2⟩
  · rename_i hk
    rw [get_del, if_neg hk] at hy
    exact tr.vals k y hy

theorem sl_weak {G : GM} {len len' sz : Nat} {row row' : Nat → Nat → C} {v : Value} (hl : len = len') (hr : ∀ i, i < len → ∀ j, j < sz → row i j = row' i j) (h : VRC G (.sl len sz row) v) : VRC G (.sl len' sz row') v := by
  subst hl
  obtain ⟨a, cap, rfl, h1, h2, h3⟩ := h
  refine ⟨a, cap, rfl, h1, h2, h3.imp id ?_⟩
  rintro ⟨blk, off, arr, rfl, h4, h5⟩
  refine ⟨blk, off, arr, rfl, h4, fun i hi j hj => ?_⟩
  obtain ⟨u, hu, hr'⟩ := h5 i hi j hj
  exact ⟨u, hu, by rw [← hr i hi j hj]; exact hr'⟩

theorem nsl_weak {G : GM} {sz : Nat} {row : Nat → Nat → C} {v : Value} (h : VRC G .nsl v) : VRC G (.sl 0 sz row) v :=
  ⟨none, 0, h, by omega, by omega, .inl rfl⟩

theorem agg_weak {G : GM} {m : OM} {cs cs' : List A} {v : Value} (hl : cs.length = cs'.length) (hc : ∀ (j : Nat) (a a' : A), cs[j]? = some a → cs'[j]? = some a' → ∀ u, VRA G m a u → VRA G m a' u) (h : VRV G m (.agg cs) v) : VRV G m (.agg cs') v := by
  obtain ⟨vs, rfl, h1, h2⟩ := h
  refine ⟨vs, rfl, by omega, fun i a' ha' => ?_⟩
  have hi : i < cs.length := by rw [hl]; exact (List.getElem?_eq_some_iff.1 ha').1
  obtain ⟨u, hu, hr⟩ := h2 i _ (List.getElem?_eq_getElem hi)
  exact ⟨u, hu, hc i _ _ (List.getElem?_eq_getElem hi) ha' u hr⟩

/-- a nil slice as an empty row of one's own -/
theorem ent_nil (t e sz : Nat) (row : Nat → Nat → C) (hsz : 0 < sz) (hg : get T t = some (.cell (.c .nsl))) (hσ : σ ++ [some (.rows 0 e sz 0 row)] = σ') (hT : put T (some t) (.cell (.sl σ.length 0 0)) = T') : Ent X N σ T σ' T' := by
  subst hσ; subst hT
  intro w G m a s tr
  have hext : ∀ a u x, m a u = some x → updM m σ.length 0 (.slice none 0 0) a u = some x := updM_ext (.inl (s.lim _ _ (Nat.le_refl _)))
  obtain ⟨h1, h2⟩ := s.push (w' := w) (v := .slice none 0 0) (B := .rows 0 e sz 0 row) ⟨rfl, rfl, rfl, Nat.le_refl _, fun _ _ _ => rfl⟩ rfl (fun k hk => by cases hk)
    ⟨[], ⟨by simp [Blk.len], .inl ⟨rfl, rfl⟩⟩, fun i hi => by simp [Blk.len] at hi⟩
  refine ⟨G, _, h1, ?_, h2.tr⟩
  have t2 := tr.mono (fun _ _ h => h) hext
  refine ⟨t2.size, t2.defers, fun k y hy => ?_⟩
  simp only [put, get] at hy
  split at hy
  · rename_i hk
    subst hk
    obtain rfl := Option.some.inj hy
    obtain ⟨g1, g2⟩ := tr.vals t _ hg
    have g2 : a.tmps.getD t undef = .slice none 0 0 := g2
    refine ⟨g1, ?_⟩
    rw [g2]
    exact ⟨updM_same, by omega, .inl ⟨rfl, rfl⟩⟩
  · rename_i hk
    rw [get_del, if_neg hk] at hy
    exact t2.vals k y hy

/-- what is known of lengths -/
theorem W_fact (p : Prop) (h : ∀ w G m a, St X w G m σ → TR N G m a T → p) (hw : p → W X N c σ T Q) : W X N c σ T Q :=
  fun w G m a s t => hw (h w G m a s t) w G m a s t
theorem WO_fact {k : Nat} (p : Prop) (h : ∀ w G m a, St X w G m σ → TR N G m a T → p) (hw : p → WO X N ops k σ T Q) : WO X N ops k σ T Q :=
  fun w0 G0 μ σ0 w G m a s t tr => hw (h w G m a s t) w0 G0 μ σ0 w G m a s t tr
end
end Go.Av

namespace Go.Av
open Go

/-! ### steps -/
def runN {s β : Type} (step : s → Option (s ⊕ β)) : Nat → s → Option β
  | 0, _ => none
  | n + 1, x => match step x with
    | none => none
    | some (.inl y) => runN step n y
    | some (.inr b) => some b

/-- a way to run loops -/
structure LP where
  run : {s β : Type} → (s → Option (s ⊕ β)) → s → Option β
  ok : ∀ {s β : Type} (step : s → Option (s ⊕ β)) (x : s) (b : β), run step x = some b → ∃ n, runN step n x = some b

def fuel (n : Nat) : LP := ⟨fun step x => runN step n x, fun _ _ _ h => ⟨n, h⟩⟩

open Classical in
/-- as far as they run -/
noncomputable def whole : LP where
  run := fun step x => if h : ∃ b n, runN step n x = some b then some h.choose else none
  ok := by
    intro s β step x b h
    split at h
    · rename_i hx
      obtain rfl := Option.some.inj h
      exact hx.choose_spec
    · cases h

theorem runN_det {s β : Type} {step : s → Option (s ⊕ β)} : ∀ {n m : Nat} {x : s} {b c : β}, runN step n x = some b → runN step m x = some c → b = c
  | 0, _, _, _, _, h, _ => by cases h
  | _ + 1, 0, _, _, _, _, h => by cases h
  | n + 1, m + 1, x, b, c, h, k => by
    simp only [runN] at h k
    cases hs : step x with
    | none => rw [hs] at h; cases h
    | some o =>
      rw [hs] at h k
      cases o with
      | inl y => exact runN_det (n := n) h k
      | inr d => exact Option.some.inj (h.symm.trans k)

open Classical in
theorem whole_of {s β : Type} {step : s → Option (s ⊕ β)} {n : Nat} {x : s} {b : β} (h : runN step n x = some b) : whole.run step x = some b := by
  have hx : ∃ b n, runN step n x = some b := ⟨b, n, h⟩
  show (if h : ∃ b n, runN step n x = some b then some h.choose else none) = _
  rw [dif_pos hx]
  obtain ⟨m, hm⟩ := hx.choose_spec
  exact congrArg some (runN_det hm h)

open Classical in
theorem whole_step {s β : Type} (step : s → Option (s ⊕ β)) (x : s) : whole.run step x = match step x with | none => none | some (.inl y) => whole.run step y | some (.inr b) => some b := by
  cases hs : step x with
  | none =>
    show (if h : ∃ b n, runN step n x = some b then some h.choose else none) = _
    rw [dif_neg]
    rintro ⟨b, n, h⟩
    cases n with
    | zero => cases h
    | succ n => simp only [runN, hs] at h; cases h
  | some o =>
    cases o with
    | inr b => exact whole_of (n := 1) (by simp only [runN, hs])
    | inl y =>
      show _ = whole.run step y
      rcases Classical.em (∃ b n, runN step n y = some b) with ⟨b, n, h⟩ | hno
      · rw [whole_of h]
        exact whole_of (n := n + 1) (by simp only [runN, hs]; exact h)
      · have h1 : whole.run step y = none := dif_neg hno
        rw [h1]
        refine dif_neg ?_
        rintro ⟨b, n, h⟩
        cases n with
        | zero => cases h
        | succ n =>
          simp only [runN, hs] at h
          exact hno ⟨b, n, h⟩

/-! ### code by paths -/
def child : Nat → Code → Code
  | 0, .seq a _ => a
  | 1, .seq _ b => b
  | 0, .cond _ a _ => a
  | 1, .cond _ _ b => b
  | 0, .block _ b => b
  | 0, .loop b => b
  | _, c => c
def cd (fn : Func) : List Nat → Code
  | [] => fn.body.getD .skip
  | i :: p => child i (cd fn p)
def opsOf : Code → Array Oper | .region _ ops _ => ops | _ => #[]
/-- 0 skip, 1 ret, 2 seq, 3 cond, 4 loop, 5 region, 6 drawing region, 7 block, 8 exit -/
def kd : Code → Nat
  | .skip => 0 | .ret => 1 | .seq .. => 2 | .cond .. => 3 | .loop _ => 4 | .region _ _ d => bif d then 6 else 5 | .block .. => 7 | .exit _ => 8 | _ => 9
def idOf : Code → Nat | .block i _ => i | .exit i => i | _ => 0
def condE (X : Cx) (T : Tm) : Code → Option Bool
  | .cond o _ _ => match evO X T o with | some (.cell (.c (.bool b))) => some b | _ => none
  | _ => none

section
variable {X : Cx} {N : Nat} {σ σ1 : Hp} {T T1 : Tm} {Q : Exit → Hp → Tm → Prop} {fn : Func} {p : List Nat}

theorem W_seq_at (h : kd (cd fn p) = 2) (hw : W X N (cd fn (0 :: p)) σ T (thenQ (fun σ' T' => W X N (cd fn (1 :: p)) σ' T' Q) Q)) : W X N (cd fn p) σ T Q := by
  simp only [cd] at hw
  generalize cd fn p = c at h hw
  cases c <;> first | exact W_seq hw | (cases h; done) | (rename_i d; cases d <;> cases h)
theorem W_cut (h : kd (cd fn p) = 2) (σ1 : Hp) (T1 : Tm) (hJ : W X N (cd fn (1 :: p)) σ1 T1 Q) (ha : W X N (cd fn (0 :: p)) σ T (thenQ (fun σ' T' => Ent X N σ' T' σ1 T1) Q)) : W X N (cd fn p) σ T Q := by
  refine W_seq_at h (ha.mono fun e σ' T' hq => ?_)
  cases e <;> first | exact W_ent hq hJ | exact hq
theorem W_skip_at (h : kd (cd fn p) = 0) (hq : Q .normal σ T) : W X N (cd fn p) σ T Q := by
  generalize cd fn p = c at h
  cases c <;> first | exact W_skip hq | (cases h; done) | (rename_i d; cases d <;> cases h)
theorem W_ret_at (h : kd (cd fn p) = 1) (hq : Q .ret σ T) : W X N (cd fn p) σ T Q := by
  generalize cd fn p = c at h
  cases c <;> first | exact W_ret hq | (cases h; done) | (rename_i d; cases d <;> cases h)
theorem W_exit_at (i : Nat) (h : kd (cd fn p) = 8) (hi : idOf (cd fn p) = i) (hq : Q (.exit i) σ T) : W X N (cd fn p) σ T Q := by
  subst hi
  generalize cd fn p = c at h hq
  cases c <;> first | exact W_exit hq | (cases h; done) | (rename_i d; cases d <;> cases h)
theorem W_block_at (i : Nat) (h : kd (cd fn p) = 7) (hi : idOf (cd fn p) = i) (hw : W X N (cd fn (0 :: p)) σ T (blockQ i Q)) : W X N (cd fn p) σ T Q := by
  subst hi
  simp only [cd] at hw
  generalize cd fn p = c at h hw
  cases c <;> first | exact W_block hw | (cases h; done) | (rename_i d; cases d <;> cases h)
theorem W_cond_at {b : Bool} (h : condE X T (cd fn p) = some b) (ht : b = true → W X N (cd fn (0 :: p)) σ T Q) (hf : b = false → W X N (cd fn (1 :: p)) σ T Q) : W X N (cd fn p) σ T Q := by
  simp only [cd] at ht hf
  generalize cd fn p = c at h ht hf
  unfold condE at h
  split at h
  case h_2 => cases h
  split at h
  case h_2 => cases h
  rename_i hb
  obtain rfl := Option.some.inj h
  exact W_cond hb ht hf
theorem W_region_at (h : kd (cd fn p) = 5) (hw : WO X N (opsOf (cd fn p)) 0 σ T Q) : W X N (cd fn p) σ T Q := by
  generalize cd fn p = c at h hw
  cases c with
  | region id ops d => cases d <;> first | exact W_region hw | cases h
  | _ => cases h
theorem W_draw_at {s : Nat} (h : kd (cd fn p) = 6) (hm : X.P.follows .mixedOrders = true) (hs : okDraw (opsOf (cd fn p)) s = true) (hw : WQ X N (opsOf (cd fn p)) σ (fun T' => WO X N (opsOf (cd fn p)) s σ T' Q) s 0 T) : W X N (cd fn p) σ T Q := by
  generalize cd fn p = c at h hw hs
  cases c with
  | region id ops d => cases d <;> first | exact W_draw hm hs hw | cases h
  | _ => cases h

theorem blockQ_hit {i : Nat} (h : Q .normal σ T) : blockQ i Q (.exit i) σ T := by simp only [blockQ, if_true]; exact h
theorem blockQ_miss {i j : Nat} (hij : Nat.beq j i = false) (h : Q (.exit j) σ T) : blockQ i Q (.exit j) σ T := by
  have : j ≠ i := fun e => by subst e; simp at hij
  simp only [blockQ, if_neg this]; exact h

def roundQ {s β : Type} (X : Cx) (N : Nat) (S : s → Hp × Tm) (o : s ⊕ β) (b : β) (Q : Exit → Hp → Tm → Prop) : Exit → Hp → Tm → Prop
  | .normal, σ, T => ∃ y, o = .inl y ∧ Ent X N σ T (S y).1 (S y).2
  | e, σ, T => ∃ b', o = .inr b' ∧ (b' = b → Q e σ T)

theorem W_loop_at {s β : Type} (S : s → Hp × Tm) (step : s → Option (s ⊕ β)) {x0 : s} {b : β} (hrun : ∃ n, runN step n x0 = some b) (h : kd (cd fn p) = 4) (hS : Ent X N σ T (S x0).1 (S x0).2)
    (round : ∀ x o, step x = some o → W X N (cd fn (0 :: p)) (S x).1 (S x).2 (roundQ X N S o b Q)) : W X N (cd fn p) σ T Q := by
  simp only [cd] at round
  generalize cd fn p = c at h round
  cases c with
  | loop c =>
    intro w G m a s t
    obtain ⟨n, hn⟩ := hrun
    refine wp_loop_rounds n ?_
    have key : ∀ (n : Nat) (x : _) (a' : Act) (w' : World), runN step n x = some b → (∃ G' m', St X w' G' m' (S x).1 ∧ TR N G' m' a' (S x).2 ∧ Tran w G m σ w' G' m' (S x).1) → Code.rounds X.P c (PostW X N w G m σ Q) n a' w' := by
      intro n
      induction n with
      | zero => intro x a' w' hr; cases hr
      | succ n ih =>
        rintro x a' w' hr ⟨G', m', s', t', tr⟩
        simp only [runN] at hr
        cases ho : step x with
        | none => rw [ho] at hr; cases hr
        | some o =>
          rw [ho] at hr
          refine wp_mono (round x o ho w' G' m' a' s' t') ?_
          rintro e a2 w2 ⟨G2, m2, σ2, T2, s2, t2, tr2, q2⟩
          cases e with
          | normal =>
            obtain ⟨y, rfl, hent⟩ := q2
            obtain ⟨G3, m3, s3, t3, tr3⟩ := hent w2 G2 m2 a2 s2 t2
            exact ih y a2 w2 hr ⟨G3, m3, s3, t3, (tr.trans tr2).trans tr3⟩
          | _ =>
            obtain ⟨b', rfl, hq⟩ := q2
            obtain rfl := Option.some.inj hr
            exact ⟨G2, m2, σ2, T2, s2, t2, tr.trans tr2, hq rfl⟩
    obtain ⟨G', m', s', t', tr⟩ := hS w G m a s t
    exact key n x0 a w hn ⟨G', m', s', t', tr⟩
  | region id ops d => cases d <;> cases h
  | _ => cases h
end

/-! ### steps of a run -/
theorem bind_some {α β : Type} {x : Option α} {f : α → Option β} {r : β} (h : x.bind f = some r) : ∃ y, x = some y ∧ f y = some r := by
  cases x with
  | none => cases h
  | some y => exact ⟨y, rfl, h⟩
def ck (p : Prop) [Decidable p] : Option Unit := if p then some () else none
theorem ck_bind {β : Type} {p : Prop} [Decidable p] {f : Unit → Option β} {r : β} (h : (ck p).bind f = some r) : p ∧ f () = some r := by
  unfold ck at h
  split at h
  · exact ⟨‹_›, h⟩
  · cases h
def ix {α : Type} (d : α) (l : List α) (i : Int) : Option α := if 0 ≤ i ∧ i < (l.length : Int) then some (l.getD i.toNat d) else none
theorem ix_bind {α β : Type} {d : α} {l : List α} {i : Int} {f : α → Option β} {r : β} (h : (ix d l i).bind f = some r) : (0 ≤ i ∧ i < (l.length : Int)) ∧ f (l.getD i.toNat d) = some r := by
  unfold ix at h
  split at h
  · exact ⟨‹_›, h⟩
  · cases h
instance inRDec : (k : IntKind) → (z : Int) → Decidable (inR k z)
  | .i8, z => inferInstanceAs (Decidable (-128 ≤ z ∧ z ≤ 127))
  | .i16, z => inferInstanceAs (Decidable (-32768 ≤ z ∧ z ≤ 32767))
  | .i32, z => inferInstanceAs (Decidable (-2147483648 ≤ z ∧ z ≤ 2147483647))
  | .i64, z => inferInstanceAs (Decidable (-9223372036854775808 ≤ z ∧ z ≤ 9223372036854775807))
  | .u8, z => inferInstanceAs (Decidable (0 ≤ z ∧ z ≤ 255))
  | .u16, z => inferInstanceAs (Decidable (0 ≤ z ∧ z ≤ 65535))
  | .u32, z => inferInstanceAs (Decidable (0 ≤ z ∧ z ≤ 4294967295))
  | .u64, z => inferInstanceAs (Decidable (0 ≤ z ∧ z ≤ 18446744073709551615))
theorem cond_t {α : Type} {b : Bool} {x y z : α} (hb : b = true) (h : (bif b then x else y) = z) : x = z := by subst hb; exact h
theorem cond_f {α : Type} {b : Bool} {x y z : α} (hb : b = false) (h : (bif b then x else y) = z) : y = z := by subst hb; exact h
end Go.Av

namespace Go.Av
open Go

/-- how a row's element is told in cells -/
structure En (α : Type) where
  sz : Nat
  row : α → List C
  d : α
def slC {α : Type} (E : En α) (l : List α) : C := .sl l.length E.sz fun i j => (E.row (l.getD i E.d)).getD j .jk
def rwB {α : Type} (E : En α) (ver e : Nat) (l : List α) : Blk := .rows ver e E.sz l.length fun i j => (E.row (l.getD i E.d)).getD j .jk
def ptC {α : Type} (E : En α) (l : List α) (i : Int) (j : Nat) : C := .ptr E.sz l.length (fun i j => (E.row (l.getD i E.d)).getD j .jk) i.toNat j
def boxC (cs : List C) (j : Nat) : C := .ptr cs.length 1 (fun _ j => cs.getD j .jk) 0 j
def tupV (vs : List V) : V := .tup vs.length fun i => vs.getD i (.agg [])
def fnC (f : Nat) (cs : List C) : C := .fn f cs.length fun i => cs.getD i .jk
def rawC (n sz : Nat) (cs : List C) : C := .sl n sz fun a b => cs.getD (a * sz + b) .jk

def sub {α : Type} (l : List α) (lo hi : Int) : List α := (l.drop lo.toNat).take (hi.toNat - lo.toNat)

section
variable {X : Cx} {N : Nat} {σ σ' : Hp} {T T' : Tm} {Q : Exit → Hp → Tm → Prop} {ops : Array Oper} {k : Nat} {α : Type} {Φ : Prop}

theorem ent_of_eq (h : σ = σ') (h' : T = T') : Ent X N σ T σ' T' := by subst h; subst h'; exact .refl

theorem getD_append_lt {l l2 : List α} {d : α} {i : Nat} (h : i < l.length) : (l ++ l2).getD i d = l.getD i d := by
  rw [List.getD_eq_getElem?_getD, List.getD_eq_getElem?_getD, List.getElem?_append_left h]
theorem getD_append_ge {l l2 : List α} {d : α} {i : Nat} (h : l.length ≤ i) : (l ++ l2).getD i d = l2.getD (i - l.length) d := by
  rw [List.getD_eq_getElem?_getD, List.getD_eq_getElem?_getD, List.getElem?_append_right h]

theorem del_del (T : Tm) (d : Nat) : del (del T d) d = del T d := by
  induction T with
  | nil => rfl
  | cons p r ih =>
    obtain ⟨q, v⟩ := p
    simp only [del]
    split
    · exact ih
    · rename_i hq
      simp only [del, if_neg hq, ih]

/-- appending to a row of one's own -/
theorem WO_app (E : En α) (l l2 : List α) {b ver e d : Nat} {row2 : Nat → Nat → C}
    (hs : exs X N ops 1 k σ T = some (σ.set b (some (.rows (ver + 1) e E.sz (l.length + l2.length) fun a j => if a < l.length then (E.row (l.getD a E.d)).getD j .jk else row2 (a - l.length) j)), put T (some d) (.cell (.sl b (ver + 1) (l.length + l2.length))), Φ)) (hΦ : Φ) (hb : b < σ.length)
    (h2 : ∀ i, i < l2.length → ∀ j, j < E.sz → row2 i j = (E.row (l2.getD i E.d)).getD j .jk)
    (hσ : σ.set b (some (rwB E (ver + 1) e (l ++ l2))) = σ') (hT : put T (some d) (.cell (.sl b (ver + 1) (l ++ l2).length)) = T')
    (next : WO X N ops (k + 1) σ' T' Q) : WO X N ops k σ T Q := by
  refine WO_exs 1 hs hΦ ?_
  have el : (l ++ l2).length = l.length + l2.length := List.length_append
  refine WO_ent (ent_rows (b := b) (row' := fun i j => (E.row ((l ++ l2).getD i E.d)).getD j .jk) (by rw [List.getElem?_set, if_pos rfl, if_pos hb]) ?_ rfl) ?_
  · intro i hi j hj
    show (if _ then _ else _) = _
    split
    · rename_i h; rw [getD_append_lt h]
    · rename_i h
      rw [getD_append_ge (by omega)]
      exact h2 _ (by omega) j hj
  · subst hσ; subst hT
    rw [List.set_set]
    unfold rwB at next
    rw [el] at next
    exact next

theorem WO_sub (E : En α) (l : List α) (lo hi : Int) {d : Nat}
    (hs : exs X N ops 1 k σ T = some (σ, put T (some d) (.cell (.c (.sl (hi.toNat - lo.toNat) E.sz fun i j => (E.row (l.getD (lo.toNat + i) E.d)).getD j .jk))), Φ)) (hΦ : Φ) (hb : 0 ≤ lo ∧ lo ≤ hi ∧ hi ≤ (l.length : Int))
    (hT : put T (some d) (.cell (.c (slC E (sub l lo hi)))) = T') (next : WO X N ops (k + 1) σ T' Q) : WO X N ops k σ T Q := by
  refine WO_exs 1 hs hΦ (WO_ent (ent_weak (x := .cell (.c (.sl (hi.toNat - lo.toNat) E.sz fun i j => (E.row (l.getD (lo.toNat + i) E.d)).getD j .jk))) (x' := .cell (.c (slC E (sub l lo hi)))) (T' := T') d (by simp [put, get]) ?_ ?_) next)
  · intro G m v h
    refine sl_weak ?_ ?_ h
    · unfold sub; simp; omega
    · intro i hi' j hj
      have : (sub l lo hi).getD i E.d = l.getD (lo.toNat + i) E.d := by
        unfold sub
        rw [List.getD_eq_getElem?_getD, List.getD_eq_getElem?_getD, List.getElem?_take, if_pos hi', List.getElem?_drop]
      rw [this]
  · rw [← hT]
    simp only [put, del, if_true, del_del]

/-- a raw row as a typed one -/
theorem raw_weak (E : En α) {n sz : Nat} {cs : List C} {xs : List α} (hz : sz = E.sz) (hn : n = xs.length) (hc : (List.range n).all (fun i => (List.range sz).all fun j => true) = true)
    (hr : (List.range n).map (fun i => (List.range sz).map fun j => cs.getD (i * sz + j) .jk) = xs.map (fun x => (List.range sz).map fun j => (E.row x).getD j .jk)) : ∀ (G : GM) (m : OM) (v : Value), VRV G m (.cell (.c (rawC n sz cs))) v → VRV G m (.cell (.c (slC E xs))) v := by
  subst hz; subst hn
  intro G m v h
  refine sl_weak rfl (fun i hi j hj => ?_) h
  have h1 := congrArg (fun l => (l[i]?).bind (·[j]?)) hr
  simp only [List.getElem?_map, List.getElem?_range, hi, hj] at h1
  rw [List.getElem?_eq_getElem hi] at h1
  simp only [Option.map_some, Option.bind_some, List.getElem?_map, List.getElem?_range hj, Option.some.injEq] at h1
  rw [h1, List.getD_eq_getElem?_getD (l := xs), List.getElem?_eq_getElem hi]
  rfl

theorem raw_rows (E : En α) {n sz : Nat} {cs : List C} {xs : List α} (hz : sz = E.sz) (hn : n = xs.length)
    (hr : (List.range n).map (fun i => (List.range sz).map fun j => cs.getD (i * sz + j) .jk) = xs.map (fun x => (List.range sz).map fun j => (E.row x).getD j .jk)) : ∀ i, i < xs.length → ∀ j, j < E.sz → cs.getD (i * sz + j) .jk = (E.row (xs.getD i E.d)).getD j .jk := by
  subst hz; subst hn
  intro i hi j hj
  have h1 := congrArg (fun l => (l[i]?).bind (·[j]?)) hr
  simp only [List.getElem?_map, List.getElem?_range, hi, hj] at h1
  rw [List.getElem?_eq_getElem hi] at h1
  simp only [Option.map_some, Option.bind_some, List.getElem?_map, List.getElem?_range hj, Option.some.injEq] at h1
  rw [h1, List.getD_eq_getElem?_getD (l := xs), List.getElem?_eq_getElem hi]
  rfl

/-- a row made of zeros -/
theorem ent_make (E : En α) (b e : Nat) {n : Nat} {row : Nat → Nat → C} {t : Nat} (hB : σ[b]? = some (some (.rows 0 e E.sz n row))) (hr : ∀ j, j < E.sz → ∀ i, row i j = (E.row E.d).getD j .jk)
    (hg : get T t = some (.cell (.sl b 0 n))) (hσ : σ.set b (some (rwB E 0 e (List.replicate n E.d))) = σ') (hT : put T (some t) (.cell (.sl b 0 (List.replicate n E.d).length)) = T') : Ent X N σ T σ' T' := by
  have el : (List.replicate n E.d).length = n := List.length_replicate
  unfold rwB at hσ
  rw [el] at hσ hT
  refine (ent_rows hB (fun i hi j hj => ?_) hσ).trans (ent_weak t hg (fun _ _ _ h => h) hT)
  rw [hr j hj i]
  have : (List.replicate n E.d).getD i E.d = E.d := by
    rw [List.getD_eq_getElem?_getD, List.getElem?_replicate, if_pos hi]; rfl
  rw [this]
end

/-! ### steps that make lists -/
def app {α : Type} (bytes : Nat) (l l2 : List α) : Option (List α) := if (l.length + l2.length) * bytes ≤ 140737488355328 ∧ l.length + l2.length ≤ 140737488355328 then some (l ++ l2) else none
theorem app_bind {α β : Type} {bytes : Nat} {l l2 : List α} {f : List α → Option β} {r : β} (h : (app bytes l l2).bind f = some r) : ((l.length + l2.length) * bytes ≤ 140737488355328 ∧ l.length + l2.length ≤ 140737488355328) ∧ f (l ++ l2) = some r := by
  unfold app at h
  split at h
  · exact ⟨‹_›, h⟩
  · cases h
end Go.Av

namespace Go.Av
open Go

inductive Stp where
  | keep (ks : List Nat)
  | ver0 (b : Nat)
  | freeze (b : Nat)
  | take (n : Nat)
  | own (t e sz : Nat) (row : Nat → Nat → C)
  | nil (t sz : Nat) (row : Nat → Nat → C)

def stp : Stp → Hp → Tm → Option (Hp × Tm)
  | .keep ks, σ, T => some (σ, keepT ks T)
  | .ver0 b, σ, T => match σ[b]? with
    | some (some B) => some (setV0 b (σ.map (mpB (zA b B.ver))), mpT (zA b B.ver) T)
    | _ => none
  | .freeze b, σ, T => match σ[b]? with
    | some (some B) => match frB B with
      | some (sz, n, row) => some ((σ.map (mpB (fzA b B.ver sz n row))).set b none, mpT (fzA b B.ver sz n row) T)
      | none => none
    | _ => none
  | .take n, σ, T => bif clT n T && clH n (σ.take n) then some (σ.take n, T) else none
  | .own t e sz row, σ, T => match get T t with
    | some (.cell (.c .nsl)) => bif Nat.blt 0 sz then some (σ ++ [some (.rows 0 e sz 0 row)], put T (some t) (.cell (.sl σ.length 0 0))) else none
    | _ => none
  | .nil t sz row, σ, T => match get T t with
    | some (.cell (.c .nsl)) => some (σ, put T (some t) (.cell (.c (.sl 0 sz row))))
    | _ => none
def stps : List Stp → Hp → Tm → Option (Hp × Tm)
  | [], σ, T => some (σ, T)
  | s :: l, σ, T => match stp s σ T with | some (σ', T') => stps l σ' T' | none => none

section
variable {X : Cx} {N : Nat} {σ σ' : Hp} {T T' : Tm} {Q : Exit → Hp → Tm → Prop} {ops : Array Oper} {k : Nat}

theorem stp_ok : ∀ {s : Stp}, stp s σ T = some (σ', T') → Ent X N σ T σ' T' := by
  intro s h
  cases s with
  | keep ks =>
    simp only [stp, Option.some.injEq, Prod.mk.injEq] at h
    obtain ⟨rfl, rfl⟩ := h
    exact ent_keep ks rfl
  | ver0 b =>
    simp only [stp] at h
    split at h
    · simp only [Option.some.injEq, Prod.mk.injEq] at h
      exact ent_ver0 b ‹_› h.1 h.2
    · cases h
  | freeze b =>
    simp only [stp] at h
    split at h
    · split at h
      · simp only [Option.some.injEq, Prod.mk.injEq] at h
        exact ent_freeze b ‹_› ‹_› h.1 h.2
      · cases h
    · cases h
  | take n =>
    simp only [stp] at h
    cases hc : clT n T && clH n (σ.take n) with
    | false => rw [hc] at h; cases h
    | true =>
      rw [hc] at h
      simp only [cond_true, Option.some.injEq, Prod.mk.injEq] at h
      rw [Bool.and_eq_true] at hc
      obtain ⟨rfl, rfl⟩ := h
      exact ent_take n rfl hc
  | own t e sz row =>
    simp only [stp] at h
    split at h
    · cases hz : Nat.blt 0 sz with
      | false => rw [hz] at h; cases h
      | true =>
        rw [hz] at h
        simp only [cond_true, Option.some.injEq, Prod.mk.injEq] at h
        exact ent_nil t e sz row (Nat.le_of_ble_eq_true hz) ‹_› h.1 h.2
    · cases h
  | nil t sz row =>
    simp only [stp] at h
    split at h
    · simp only [Option.some.injEq, Prod.mk.injEq] at h
      obtain ⟨rfl, h⟩ := h
      rename_i hg
      exact ent_weak t hg (x' := .cell (.c (.sl 0 sz row))) (fun G m v h' => nsl_weak (show VRC G .nsl v from h')) h
    · cases h
theorem stps_ok : ∀ (l : List Stp) {σ : Hp} {T : Tm}, stps l σ T = some (σ', T') → Ent X N σ T σ' T'
  | [], σ, T, h => by
    simp only [stps, Option.some.injEq, Prod.mk.injEq] at h
    obtain ⟨rfl, rfl⟩ := h
    exact .refl
  | s :: l, σ, T, h => by
    simp only [stps] at h
    split at h
    · exact (stp_ok ‹_›).trans (stps_ok l h)
    · cases h

theorem thenQ_n {K : Hp → Tm → Prop} (h : K σ T) : thenQ K Q .normal σ T := h
theorem thenQ_r {K : Hp → Tm → Prop} (h : Q .ret σ T) : thenQ K Q .ret σ T := h
theorem thenQ_e {K : Hp → Tm → Prop} {i : Nat} (h : Q (.exit i) σ T) : thenQ K Q (.exit i) σ T := h
theorem blockQ_n {i : Nat} (h : Q .normal σ T) : blockQ i Q .normal σ T := h
theorem blockQ_r {i : Nat} (h : Q .ret σ T) : blockQ i Q .ret σ T := h
section
variable {s β : Type} {S : s → Hp × Tm} {o : s ⊕ β} {b : β}
theorem round_n (y : s) (ho : o = .inl y) (h : Ent X N σ T (S y).1 (S y).2) : roundQ X N S o b Q .normal σ T := ⟨y, ho, h⟩
theorem round_r {b' : β} (ho : o = .inr b') (h : b' = b → Q .ret σ T) : roundQ X N S o b Q .ret σ T := ⟨b', ho, h⟩
theorem round_e {i : Nat} {b' : β} (ho : o = .inr b') (h : b' = b → Q (.exit i) σ T) : roundQ X N S o b Q (.exit i) σ T := ⟨b', ho, h⟩
end
theorem W_cutE {fn : Func} {p : List Nat} {Y : Type} (h : kd (cd fn p) = 2) (R : Y → Prop) (st : Y → Hp × Tm) (hJ : ∀ y, R y → W X N (cd fn (1 :: p)) (st y).1 (st y).2 Q)
    (ha : W X N (cd fn (0 :: p)) σ T (thenQ (fun σ' T' => ∃ y, R y ∧ Ent X N σ' T' (st y).1 (st y).2) Q)) : W X N (cd fn p) σ T Q := by
  refine W_seq_at h (ha.mono fun e σ' T' hq => ?_)
  cases e with
  | normal => obtain ⟨y, hy, he⟩ := hq; exact W_ent he (hJ y hy)
  | _ => exact hq

theorem WO_join (k' : Nat) (σ1 : Hp) (T1 : Tm) (hJ : WO X N ops k' σ1 T1 Q) (h : WO X N ops k' σ1 T1 Q → WO X N ops k σ T Q) : WO X N ops k σ T Q := h hJ

theorem ent_bool (t : Nat) {e b : Bool} (hb : e = b) (hg : get T t = some (.cell (.c (.bool e)))) (hT : put T (some t) (.cell (.c (.bool b))) = T') : Ent X N σ T σ T' := by
  subst hb
  exact ent_weak t hg (fun _ _ _ h => h) hT

def lendAOKB (σ : Hp) : A → Bool
  | .c _ => true
  | .sl b ver _ => match σ[b]? with | some (some (.rows v _ _ _ _)) => Nat.beq ver v | _ => false
  | _ => false
def lendROKB (σ : Hp) : V → Bool
  | .cell a => lendAOKB σ a
  | .agg cs => cs.all (lendAOKB σ)
  | .tup n f => (List.range n).all fun i => lendROKB σ (f i)
theorem lendAOKB_ok : ∀ {a : A}, lendAOKB σ a = true → lendAOK σ a := by
  intro a h
  cases a with
  | c => trivial
  | op => cases h
  | clos => cases h
  | sl b ver n =>
    simp only [lendAOKB] at h
    simp only [lendAOK]
    split at h
    · rename_i hb
      rw [hb]
      exact Nat.eq_of_beq_eq_true h
    · cases h
theorem lendLB_ok : ∀ {cs : List A}, cs.all (lendAOKB σ) = true → lendL σ cs
  | [], _ => trivial
  | a :: cs, h => by
    rw [List.all_cons, Bool.and_eq_true] at h
    exact ⟨lendAOKB_ok h.1, lendLB_ok h.2⟩
theorem lendROKB_ok : ∀ {v : V}, lendROKB σ v = true → lendROK σ v := by
  intro v
  induction v with
  | cell a => exact lendAOKB_ok
  | agg cs =>
    intro h
    exact lendLB_ok h
  | tup n f ih =>
    intro h i hi
    exact ih i (List.all_eq_true.1 h i (List.mem_range.2 hi))
theorem lendRs_of : ∀ {vs : List V}, vs.all (lendROKB σ) = true → lendRs σ vs
  | [], _ => trivial
  | [v], h => by simp at h; exact lendROKB_ok h
  | v :: v' :: r, h => by
    rw [List.all_cons, Bool.and_eq_true] at h
    exact ⟨lendROKB_ok h.1, lendRs_of h.2⟩
theorem qret {fn : Func} {r : V} (vs : List V) (h : evRs X σ T fn.results.toList = some vs) (hl : vs.all (lendROKB σ) = true) (us : List Up) (hr : resV (upVs us (vs.map (lendR σ))) = r) : QRet X fn r .ret σ T :=
  ⟨.inl rfl, vs, h, lendRs_of hl, us, hr⟩
theorem qnor {fn : Func} {r : V} (vs : List V) (h : evRs X σ T fn.results.toList = some vs) (hl : vs.all (lendROKB σ) = true) (us : List Up) (hr : resV (upVs us (vs.map (lendR σ))) = r) : QRet X fn r .normal σ T :=
  ⟨.inr rfl, vs, h, lendRs_of hl, us, hr⟩
end
end Go.Av

namespace Go.Av
open Go

def Sub (T' T : Tm) : Prop := ∀ k x, get T' k = some x → get T k = some x

section
variable {X : Cx} {N : Nat} {σ σ' : Hp} {T T' : Tm} {Q : Exit → Hp → Tm → Prop} {ops : Array Oper} {k n' : Nat} {Φ : Prop} {K : Tm → Prop}

theorem sub_keep {ks : List Nat} : Sub (keepT ks T) T := fun _ _ h => get_keepT h
theorem get_put {d : Option Tmp} {r : V} {t : Nat} : get (put T d r) t = if d = some t then some r else get T t := by
  cases d with
  | none => simp [put]
  | some d =>
    simp only [put, get, get_del, Option.some.injEq]
    by_cases h : d = t <;> simp [h]
theorem get_drp {d : Option Tmp} {t : Nat} : get (drp T d) t = if d = some t then none else get T t := by
  cases d with
  | none => simp [drp]
  | some d =>
    simp only [drp, get_del, Option.some.injEq]
theorem sub_put {d : Option Tmp} {r : V} (h : Sub T' T) : Sub (put T' d r) (put T d r) := by
  intro t x hx
  rw [get_put] at hx ⊢
  split at hx
  · rename_i hd; rw [if_pos hd]; exact hx
  · rename_i hd; rw [if_neg hd]; exact h t x hx
theorem sub_drp {d : Option Tmp} (h : Sub T' T) : Sub (drp T' d) (drp T d) := by
  intro t x hx
  rw [get_drp] at hx ⊢
  split at hx
  · cases hx
  · rename_i hd; rw [if_neg hd]; exact h t x hx
theorem sub_evO {x : Operand} {v : V} (h : Sub T' T) (he : evO X T' x = some v) : evO X T x = some v := by
  cases x with
  | tmp t => exact h t v he
  | _ => exact he
theorem sub_wanted {o : Oper} {b : Bool} (h : Sub T' T) (hw : wantedA ops T' o = some b) : wantedA ops T o = some b := by
  unfold wantedA at hw ⊢
  split at hw
  · exact hw
  · split at hw
    case h_2 => cases hw
    split at hw
    case h_2 => cases hw
    split at hw
    · rename_i hg
      rw [h _ _ hg]; exact hw
    · rename_i hg
      rw [h _ _ hg]; exact hw
    · cases hw
theorem Quiet.sub {o : Oper} {r : V} (h : Sub T' T) (hq : Quiet X o σ T' r) : Quiet X o σ T r :=
  fun w G m ρ s hρ => hq w G m ρ s fun x hx v hv => hρ x hx v (sub_evO h hv)
theorem WQ_sub (hK : ∀ T T', Sub T' T → K T' → K T) : ∀ (n : Nat) {k : Nat} {T T' : Tm}, Sub T' T → WQ X N ops σ K n k T' → WQ X N ops σ K n k T
  | 0, _, T, T', h, hw => hK T T' h hw
  | n + 1, k, T, T', h, hw => by
    obtain ⟨o, ho, h1 | h1⟩ := hw
    · obtain ⟨h1, h2, r, h3, h4⟩ := h1
      exact ⟨o, ho, .inl ⟨sub_wanted h h1, h2, r, h3.sub h, WQ_sub hK n (sub_put h) h4⟩⟩
    · obtain ⟨h1, h2, h3⟩ := h1
      exact ⟨o, ho, .inr ⟨sub_wanted h h1, h2, WQ_sub hK n (sub_put h) h3⟩⟩
theorem WO_sub' {k : Nat} (T T' : Tm) (h : Sub T' T) (hw : WO X N ops k σ T' Q) : WO X N ops k σ T Q :=
  fun w0 G0 μ σ0 w G m a s t tr => hw w0 G0 μ σ0 w G m a s (t.sub h) tr

/-! ### chunks -/
def exk (X : Cx) (N : Nat) (ops : Array Oper) (ks : List Nat) (n k : Nat) (σ : Hp) (T : Tm) : Option (Hp × Tm × Prop) :=
  match exs X N ops n k σ T with
  | some (σ', T', Φ) => some (σ', keepT ks T', Φ)
  | none => none
theorem WO_exk (n : Nat) (ks : List Nat) (h : exk X N ops ks n k σ T = some (σ', T', Φ)) (hΦ : Φ) (hw : WO X N ops (k + n) σ' T' Q) : WO X N ops k σ T Q := by
  unfold exk at h
  split at h
  · rename_i h1
    simp only [Option.some.injEq, Prod.mk.injEq] at h
    obtain ⟨rfl, rfl, rfl⟩ := h
    exact WO_exs n h1 hΦ (WO_keep ks rfl hw)
  · cases h
/-- the last chunk of a region -/
theorem WO_fin (n : Nat) (ks : List Nat) (h : exk X N ops ks n k σ T = some (σ', T', Φ)) (hΦ : Φ) (he : Nat.ble ops.toList.length (k + n) = true) (hq : Q .normal σ' T') : WO X N ops k σ T Q :=
  WO_exk n ks h hΦ (WO_end (Nat.le_of_ble_eq_true he) hq)
def exqk (X : Cx) (N : Nat) (ops : Array Oper) (σ : Hp) (ks : List Nat) (n k : Nat) (T : Tm) : Option (Tm × Prop) :=
  match exq X N ops σ n k T with
  | some (T', Φ) => some (keepT ks T', Φ)
  | none => none
abbrev KO (X : Cx) (N : Nat) (ops : Array Oper) (s : Nat) (σ : Hp) (Q : Exit → Hp → Tm → Prop) : Tm → Prop := fun T' => WO X N ops s σ T' Q
theorem KO_sub {s : Nat} : ∀ T T', Sub T' T → KO X N ops s σ Q T' → KO X N ops s σ Q T := fun T T' h hw => WO_sub' T T' h hw
theorem WQ_exk {s : Nat} (n : Nat) (ks : List Nat) (h : exqk X N ops σ ks n k T = some (T', Φ)) (hΦ : Φ) (hw : WQ X N ops σ (KO X N ops s σ Q) n' (k + n) T') : WQ X N ops σ (KO X N ops s σ Q) (n' + n) k T := by
  unfold exqk at h
  split at h
  · rename_i h1
    simp only [Option.some.injEq, Prod.mk.injEq] at h
    obtain ⟨rfl, rfl⟩ := h
    exact WQ_exq n h1 hΦ (WQ_sub KO_sub n' sub_keep hw)
  · cases h
theorem WQ_bool {s : Nat} (t : Nat) {e b : Bool} (hb : e = b) (hg : get T t = some (.cell (.c (.bool e)))) (hT : put T (some t) (.cell (.c (.bool b))) = T') (hw : WQ X N ops σ (KO X N ops s σ Q) n' k T') : WQ X N ops σ (KO X N ops s σ Q) n' k T := by
  subst hb; subst hT
  refine WQ_sub KO_sub n' (fun q x hx => ?_) hw
  rw [get_put] at hx
  split at hx
  · rename_i hd
    obtain rfl := Option.some.inj hd
    obtain rfl := Option.some.inj hx
    exact hg
  · exact hx
theorem WQ_keep {s : Nat} (ks : List Nat) (h : keepT ks T = T') (hw : WQ X N ops σ (KO X N ops s σ Q) n' k T') : WQ X N ops σ (KO X N ops s σ Q) n' k T := by
  subst h
  exact WQ_sub KO_sub n' sub_keep hw
theorem WQ_join {s : Nat} (n1 k' : Nat) (T1 : Tm) (hJ : WQ X N ops σ (KO X N ops s σ Q) n1 k' T1) (h : WQ X N ops σ (KO X N ops s σ Q) n1 k' T1 → WQ X N ops σ (KO X N ops s σ Q) n' k T) : WQ X N ops σ (KO X N ops s σ Q) n' k T := h hJ
theorem W_drawK {fn : Func} {p : List Nat} (s : Nat) (h : kd (cd fn p) = 6) (hm : X.P.follows .mixedOrders = true) (hs : okDraw (opsOf (cd fn p)) s = true) (hw : WQ X N (opsOf (cd fn p)) σ (KO X N (opsOf (cd fn p)) s σ Q) s 0 T) : W X N (cd fn p) σ T Q :=
  W_draw_at h hm hs hw
theorem WQ_done {s k : Nat} (h : WO X N ops s σ T Q) : WQ X N ops σ (KO X N ops s σ Q) 0 k T := h
end
end Go.Av

namespace Go.Av
open Go

section
variable {X : Cx} {N : Nat} {σ σ' : Hp} {T T' : Tm} {Q : Exit → Hp → Tm → Prop} {ops : Array Oper} {k n' : Nat} {φ : Prop} {K : Tm → Prop} {r r' : V} {d : Option Tmp} {ld : Bool}

theorem Quiet.weak {o : Oper} (hw : ∀ G m v, VRV G m r v → VRV G m r' v) (h : Quiet X o σ T r) : Quiet X o σ T r' := by
  intro w G m ρ s hρ
  have h1 := h w G m ρ s hρ
  generalize (execOp ρ o).run X.P w = q at h1
  have key : ∀ v w', QPost X w G m σ r v w' → QPost X w G m σ r' v w' := fun v w' ⟨G', h2, h3, h4⟩ => ⟨G', h2, h3, hw _ _ _ h4⟩
  unfold RunsQ at h1 ⊢
  split at h1
  · exact key _ _ h1
  · exact ⟨h1.1, h1.2.mono fun e w'' ⟨v, h2, h3⟩ => ⟨v, h2, key _ _ h3⟩⟩
  · exact h1.elim

def q1 (X : Cx) (N : Nat) (ops : Array Oper) (σ : Hp) (k : Nat) (T : Tm) : Option (V × Option Tmp × Prop) :=
  match ops[k]? with
  | some o =>
    match evq X σ T o with
    | some (r, ld, φ) => bif isYes (wantedA ops T o) && fitD N o.dst then some (r, o.dst, (bif ld then φ else True)) else none
    | none => none
  | none => none

theorem q1_ok (h : q1 X N ops σ k T = some (r, d, φ)) (hφ : φ) : ∃ o, ops[k]? = some o ∧ wantedA ops T o = some true ∧ fitD N o.dst = true ∧ o.dst = d ∧ Quiet X o σ T r := by
  unfold q1 at h
  split at h
  case h_2 => cases h
  rename_i o ho
  split at h
  case h_2 => cases h
  rename_i r' ld' φ' he
  cases hc : isYes (wantedA ops T o) && fitD N o.dst with
  | false => rw [hc] at h; cases h
  | true =>
    rw [hc] at h
    simp only [cond_true, Option.some.injEq, Prod.mk.injEq] at h
    obtain ⟨rfl, rfl, rfl⟩ := h
    rw [Bool.and_eq_true] at hc
    refine ⟨o, ho, isYes_ok hc.1, hc.2, rfl, evq_ok he fun hl => ?_⟩
    subst hl
    exact hφ

theorem WO_q1 (hw : ∀ G m v, VRV G m r v → VRV G m r' v) (h : q1 X N ops σ k T = some (r, d, φ)) (hφ : φ) (next : WO X N ops (k + 1) σ (put T d r') Q) : WO X N ops k σ T Q := by
  obtain ⟨o, h1, h2, h3, rfl, h5⟩ := q1_ok h hφ
  exact WO_eff h1 h2 h3 (h5.weak hw).eff next
theorem WQ_q1 (hw : ∀ G m v, VRV G m r v → VRV G m r' v) (h : q1 X N ops σ k T = some (r, d, φ)) (hφ : φ) (next : WQ X N ops σ K n' (k + 1) (put T d r')) : WQ X N ops σ K (n' + 1) k T := by
  obtain ⟨o, h1, h2, h3, rfl, h5⟩ := q1_ok h hφ
  exact ⟨o, h1, .inl ⟨h2, h3, r', h5.weak hw, next⟩⟩

theorem sub_weak {α : Type} (E : En α) (l : List α) (lo hi : Int) (hb : 0 ≤ lo ∧ lo ≤ hi ∧ hi ≤ (l.length : Int)) : ∀ (G : GM) (m : OM) (v : Value), VRV G m (.cell (.c (.sl (hi.toNat - lo.toNat) E.sz fun i j => (E.row (l.getD (lo.toNat + i) E.d)).getD j .jk))) v → VRV G m (.cell (.c (slC E (sub l lo hi)))) v := by
  intro G m v h
  refine sl_weak ?_ ?_ h
  · unfold sub; simp; omega
  · intro i hi' j hj
    have : (sub l lo hi).getD i E.d = l.getD (lo.toNat + i) E.d := by
      unfold sub
      rw [List.getD_eq_getElem?_getD, List.getD_eq_getElem?_getD, List.getElem?_take, if_pos hi', List.getElem?_drop]
    rw [this]

theorem caps_frozen {n : Nat} {cap : Nat → C} : (capsC n cap).all frozenV = true := by
  simp [capsC, List.all_eq_true, frozenV, frozenA]
theorem WO_callf {f : FuncId} {n : Nat} {cap : Nat → C} {avs : List V} (h : atCall X N ops k T = some (f, avs ++ capsC n cap, d)) (hz : avs.all frozenV = true) (hr : frozenV r = true) (hc : ∀ (as : Array Value) (w : World), (callFunc f as).run X.P w = .ok (.enter f as) w)
    (hp : Pure X f (avs ++ capsC n cap) r) (hw : WO X N ops (k + 1) σ (put T d r) Q) : WO X N ops k σ T Q :=
  WO_call h (by rw [List.all_append, hz, caps_frozen]; rfl) hr hc hp hw
theorem WQ_callf {f : FuncId} {n : Nat} {cap : Nat → C} {avs : List V} (h : atCall X N ops k T = some (f, avs ++ capsC n cap, d)) (hz : avs.all frozenV = true) (hr : frozenV r = true) (hc : ∀ (as : Array Value) (w : World), (callFunc f as).run X.P w = .ok (.enter f as) w)
    (hp : Pure X f (avs ++ capsC n cap) r) (hw : WQ X N ops σ K n' (k + 1) (put T d r)) : WQ X N ops σ K (n' + 1) k T :=
  WQ_call h (by rw [List.all_append, hz, caps_frozen]; rfl) hr hc hp hw
theorem pure_args {f : FuncId} {xs ys : List V} (h : xs = ys) (hp : Pure X f ys r) : Pure X f xs r := by subst h; exact hp

def lendOKB (σ : Hp) : V → Bool
  | .cell (.sl b ver _) => match σ[b]? with | some (some (.rows v _ _ _ _)) => Nat.beq ver v | _ => false
  | v => frozenV v
theorem lendAll_of : ∀ {xs : List V}, xs.all (lendOKB σ) = true → lendAll σ xs
  | [], _ => trivial
  | v :: r, h => by
    rw [List.all_cons, Bool.and_eq_true] at h
    refine ⟨?_, lendAll_of h.2⟩
    have h1 := h.1
    unfold lendOKB at h1
    unfold lendOK
    split at h1
    · split at h1
      · rename_i hb; simp only [hb]; exact Nat.eq_of_beq_eq_true h1
      · cases h1
    · rename_i hne
      split
      · exact (hne _ _ _ rfl).elim
      · exact h1
end
end Go.Av

namespace Go.Av
open Go

def upC : Up → C → C
  | .sl sz row, .nsl => .sl 0 sz row
  | _, a => a
def upCs : List Up → List C → List C
  | u :: l, c :: cs => upC u c :: upCs l cs
  | _, cs => cs
theorem upC_ok {G : GM} {u : Up} {c : C} {v : Value} (h : VRC G c v) : VRC G (upC u c) v := by
  unfold upC
  split
  · exact ⟨none, 0, h, by omega, by omega, .inl rfl⟩
  · exact h
theorem upCs_len : ∀ {l : List Up} {cs : List C}, (upCs l cs).length = cs.length
  | [], cs => by cases cs <;> rfl
  | _ :: _, [] => rfl
  | u :: l, c :: cs => by simp [upCs, upCs_len (l := l)]
theorem upCs_get : ∀ {l : List Up} {cs : List C} {i : Nat}, ∃ u, (upCs l cs).getD i .jk = upC u (cs.getD i .jk)
  | [], cs, i => ⟨.no, by cases cs <;> rfl⟩
  | _ :: _, [], i => ⟨.no, rfl⟩
  | u :: l, c :: cs, 0 => ⟨u, rfl⟩
  | u :: l, c :: cs, i + 1 => by simpa [upCs] using upCs_get (l := l) (cs := cs) (i := i)
theorem raw_up {n sz : Nat} {cs : List C} (l : List Up) : ∀ (G : GM) (m : OM) (v : Value), VRV G m (.cell (.c (rawC n sz cs))) v → VRV G m (.cell (.c (rawC n sz (upCs l cs)))) v := by
  rintro G m v ⟨a, cap, rfl, h1, h2, h3⟩
  refine ⟨a, cap, rfl, h1, h2, h3.imp id ?_⟩
  rintro ⟨blk, off, arr, rfl, h4, h5⟩
  refine ⟨blk, off, arr, rfl, h4, fun i hi j hj => ?_⟩
  obtain ⟨u, hu, hr⟩ := h5 i hi j hj
  obtain ⟨up, hup⟩ := upCs_get (l := l) (cs := cs) (i := i * sz + j)
  exact ⟨u, hu, by show VRC G ((upCs l cs).getD (i * sz + j) .jk) u; rw [hup]; exact upC_ok hr⟩
end Go.Av

namespace Go.Av
open Go

section
variable {X : Cx} {N : Nat} {σ σ' : Hp} {T T' : Tm} {Q : Exit → Hp → Tm → Prop} {ops : Array Oper} {k : Nat} {o : Oper}

theorem ok_put {t : Nat} {p x : Operand} (ho : o.op = .store t p x) {i : TI} (hi : X.ty t = some i) {b ver sz j e n r : Nat} {row : Nat → Nat → C} {cs : List A} {l : List C} {v : V} (hp : evO X T p = some (.cell (.op b ver sz r j))) (hx : evO X T x = some v) (hc : cellsV v = some cs) (hfz : frzA cs = some l)
    (hB : σ[b]? = some (some (.rows ver e sz n row))) (hl : cs.length = i.size) (hj : j + cs.length ≤ sz) (hr : r < n) :
    Eff X o σ T none (σ.set b (some (.rows ver e sz n fun a q => if a = r ∧ j ≤ q ∧ q < j + cs.length then l.getD (q - j) .jk else row a q))) := by
  intro w G m ρ s hρ
  have hv := cellsV_ok hc (hρ x (by simp [ho, Op.operands]) _ hx)
  obtain ⟨hll, hlv⟩ := frzA_ok hfz hv
  obtain ⟨g, n', cp, hm, hlt, hpv⟩ := hρ p (by simp [ho, Op.operands]) _ hp
  obtain ⟨v0, h0, ⟨xs, hown, hcell⟩, -⟩ := s.own _ _ hB
  obtain rfl : v0 = _ := Option.some.inj (h0.symm.trans hm)
  have hown' := hown
  rcases hown.2 with ⟨h, _⟩ | ⟨g', cap, cur, h, _, hg, hle, hcap, hcs, htk⟩
  · cases h
  cases h
  have hm : m b ver = some (.slice (some ⟨g, 0, none⟩) n cp) := hm
  simp only [Blk.sz, Blk.len, Blk.e] at hg hle hcs htk hown hown' hcell
  have hxl : xs.length = n * sz := by have := hown.1; simpa using this
  have hone : ∀ u ∈ (ρ x).cells.toList, u.oneCell' = true := fun u hu => by
    obtain ⟨q, hq, rfl⟩ := List.mem_iff_getElem.1 hu
    obtain ⟨u', h1, h2⟩ := hv.2 q _ (List.getElem?_eq_getElem (by rw [← hv.1]; exact hq))
    rw [List.getElem?_eq_getElem hq] at h1
    obtain rfl := Option.some.inj h1
    exact VRA.one h2
  have hlen : (ρ x).cells.size = cs.length := by simpa using hv.1
  have hll' : l.length = cs.length := by rw [hll, Array.length_toList, hlen]
  have hoff : r * sz + j + cs.length ≤ n * sz := by
    have h1 : (r + 1) * sz ≤ n * sz := Nat.mul_le_mul_right _ hr
    have h2 : (r + 1) * sz = r * sz + sz := by rw [Nat.add_mul, Nat.one_mul]
    omega
  have hcur : n * sz ≤ cur.size := by
    rw [hcs]
    exact Nat.mul_le_mul_right _ hle
  have hst := run_storeCells_at (P := X.P) g (r * sz + j) e (ρ x).cells.toList 0 cur w hg (by simp [hlen]; omega) hone
  have hrun : (execOp ρ o).run X.P w = .ok .skip (w.setRow g (cur.toList.take (r * sz + j) ++ (ρ x).cells.toList ++ cur.toList.drop (r * sz + j + cs.length)).toArray) := by
    have hno : ¬ ((ρ x).cells.size ≠ i.size) := by omega
    simp only [execOp, ho, Instr.storeAt, hpv, Instr.sureAddr, storeVar, Sem.run_bind, Sem.run_pure, Result.andThen_ok, run_sizeOf hi]
    rw [if_neg hno, hst]
    simp [hlen]
  rw [hrun]
  have hgrown : w.grownBy (w.setRow g (cur.toList.take (r * sz + j) ++ (ρ x).cells.toList ++ cur.toList.drop (r * sz + j + cs.length)).toArray) (Value.slice (some ⟨g, 0, none⟩) n cp).ownBlock :=
    ⟨rfl, rfl, rfl, by simp, fun k _ hk => setRow_other w g k _ (fun e => hk (by simp [Value.ownBlock, e]))⟩
  have hmin : min (r * sz + j) cur.size = r * sz + j := by omega
  have hminx : min (r * sz + j) xs.length = r * sz + j := by omega
  obtain ⟨h2, h3⟩ := s.upd (B' := .rows ver e sz n fun a q => if a = r ∧ j ≤ q ∧ q < j + cs.length then l.getD (q - j) .jk else row a q) (v' := .slice (some ⟨g, 0, none⟩) n cp) hB hm hgrown (.inl ⟨rfl, rfl⟩) (fun k hk => .inl hk)
    ⟨xs.take (r * sz + j) ++ (ρ x).cells.toList ++ xs.drop (r * sz + j + cs.length), ⟨by
      show _ = n * sz
      simp only [List.length_append, List.length_take, List.length_drop, Array.length_toList]
      omega, .inr ⟨g, cp, _, rfl, Nat.zero_le _, setRow_heap w g cur _ e _ hg, hle, hcap, by
        show _ = cp * sz
        simp [hlen]; omega, by
        show List.take (n * sz) (cur.toList.take (r * sz + j) ++ (ρ x).cells.toList ++ cur.toList.drop (r * sz + j + cs.length)) = xs.take (r * sz + j) ++ (ρ x).cells.toList ++ xs.drop (r * sz + j + cs.length)
        rw [← htk]
        apply List.ext_getElem?
        intro q
        simp only [List.getElem?_take, List.getElem?_append, List.getElem?_drop, List.length_take, List.length_append, Array.length_toList, hlen]
        have e1 : min (r * sz + j) (min (n * sz) cur.size) = r * sz + j := by omega
        simp only [hmin, e1]
        by_cases q1 : q < n * sz
        · by_cases q2 : q < r * sz + j
          · simp [q1, q2, show q < r * sz + j + cs.length by omega]
          · by_cases q3 : q < r * sz + j + cs.length
            · simp [q1, q2, q3]
            · have e2 : r * sz + j + cs.length + (q - (r * sz + j + cs.length)) = q := by omega
              simp [q1, q3, e2]
        · have e2 : ¬ q < r * sz + j := by omega
          have e3 : ¬ q < r * sz + j + cs.length := by omega
          have e4 : ¬ (r * sz + j + cs.length + (q - (r * sz + j + cs.length)) < n * sz) := by omega
          simp [q1, e3, e4]⟩⟩, fun a ha q hq => by
      simp only [Blk.len] at ha
      simp only [Blk.sz] at hq ⊢
      show ∃ u, _ ∧ VRC G (if a = r ∧ j ≤ q ∧ q < j + cs.length then l.getD (q - j) .jk else row a q) u
      by_cases hin : a = r ∧ j ≤ q ∧ q < j + cs.length
      · rw [if_pos hin]
        obtain ⟨rfl, hq1, hq2⟩ := hin
        obtain ⟨u, hu, hr'⟩ := hlv (q - j) _ (List.getElem?_eq_getElem (by omega))
        refine ⟨u, ?_, ?_⟩
        · have e1 : ¬ (a * sz + q < a * sz + j) := by omega
          have e2 : a * sz + q < a * sz + j + cs.length := by omega
          have e3 : a * sz + q - (a * sz + j) = q - j := by omega
          simp only [List.getElem?_append, List.length_append, List.length_take, hminx, Array.length_toList, hlen, e2, if_true, e1, if_false, e3]
          exact hu
        · rw [List.getD_eq_getElem?_getD, List.getElem?_eq_getElem (by omega)]; exact hr'
      · rw [if_neg hin]
        obtain ⟨u, hu, hr'⟩ := hcell a ha q hq
        refine ⟨u, ?_, hr'⟩
        have hcase : a * sz + q < r * sz + j ∨ r * sz + j + cs.length ≤ a * sz + q := by
          rcases Nat.lt_trichotomy a r with h | h | h
          · have h1 : (a + 1) * sz ≤ r * sz := Nat.mul_le_mul_right _ h
            have h2 : (a + 1) * sz = a * sz + sz := by rw [Nat.add_mul, Nat.one_mul]
            omega
          · subst h
            rcases Nat.lt_or_ge q j with h4 | h4
            · omega
            · have : ¬ q < j + cs.length := fun h5 => hin ⟨rfl, h4, h5⟩
              omega
          · have h1 : (r + 1) * sz ≤ a * sz := Nat.mul_le_mul_right _ h
            have h2 : (r + 1) * sz = r * sz + sz := by rw [Nat.add_mul, Nat.one_mul]
            omega
        have hu : xs[a * sz + q]? = some u := hu
        rcases hcase with h | h
        · have e2 : a * sz + q < r * sz + j + cs.length := by omega
          simp only [List.getElem?_append, List.length_append, List.length_take, hminx, Array.length_toList, hlen, e2, h, if_true, List.getElem?_take]
          exact hu
        · have e1 : ¬ (a * sz + q < r * sz + j + cs.length) := by omega
          have e3 : r * sz + j + cs.length + (a * sz + q - (r * sz + j + cs.length)) = a * sz + q := by omega
          simp only [List.getElem?_append, List.length_append, List.length_take, hminx, Array.length_toList, hlen, e1, if_false, List.getElem?_drop, e3]
          exact hu⟩
  refine ⟨⟨G, _, h2, h3, fun x hx => by cases hx⟩, rfl⟩

/-- which store stands at k: block, version, row, the cells -/
def atPut (X : Cx) (N : Nat) (ops : Array Oper) (σ : Hp) (k : Nat) (T : Tm) : Option (Nat × Nat × Nat × Nat × List C) :=
  match ops[k]? with
  | some o =>
    match o.op with
    | .store t p x =>
      match X.ty t, evO X T p, evO X T x with
      | some i, some (.cell (.op b ver sz r j)), some v =>
        match cellsV v with
        | some cs =>
          match frzA cs with
          | some l => bif isYes (wantedA ops T o) && fitD N o.dst && Nat.beq cs.length i.size && Nat.beq j 0 && Nat.beq cs.length sz && Nat.beq l.length sz && o.dst.isNone then some (b, ver, sz, r, l) else none
          | none => none
        | none => none
      | _, _, _ => none
    | _ => none
  | none => none

theorem WO_put {α : Type} (E : En α) (l : List α) (x : α) {b ver e r : Nat} (h : atPut X N ops σ k T = some (b, ver, E.sz, r, (List.range E.sz).map fun q => (E.row x).getD q .jk)) (hB : σ[b]? = some (some (rwB E ver e l))) (hr : r < l.length)
    (hσ : σ.set b (some (rwB E ver e (l.set r x))) = σ') (Tf : Nat → Tm) (hT : T = Tf l.length) (next : WO X N ops (k + 1) σ' (Tf (l.set r x).length) Q) : WO X N ops k σ T Q := by
  have el0 : (l.set r x).length = l.length := List.length_set
  rw [el0, ← hT] at next
  unfold atPut at h
  split at h
  case h_2 => cases h
  rename_i o ho
  split at h
  case h_2 => cases h
  rename_i t p y hop
  split at h
  case h_2 => cases h
  rename_i i b' ver' sz' r' j v hi hp hx
  split at h
  case h_2 => cases h
  rename_i cs hc
  split at h
  case h_2 => cases h
  rename_i lc hf
  cases hb : isYes (wantedA ops T o) && fitD N o.dst && Nat.beq cs.length i.size && Nat.beq j 0 && Nat.beq cs.length sz' && Nat.beq lc.length sz' && o.dst.isNone with
  | false => rw [hb] at h; cases h
  | true =>
    rw [hb] at h
    simp only [cond_true, Option.some.injEq, Prod.mk.injEq] at h
    simp only [Bool.and_eq_true] at hb
    obtain ⟨⟨⟨⟨⟨⟨w1, w2⟩, w3⟩, w4⟩, w5⟩, w6⟩, w7⟩ := hb
    obtain ⟨rfl, rfl, rfl, rfl, rfl⟩ := h
    have w4 := Nat.eq_of_beq_eq_true w4
    subst w4
    have hcs := Nat.eq_of_beq_eq_true w5
    have hnone : o.dst = none := by cases hd : o.dst with | none => rfl | some d => rw [hd] at w7; cases w7
    have hB' : σ[b']? = some (some (.rows ver' e E.sz l.length fun i j => (E.row (l.getD i E.d)).getD j .jk)) := hB
    have heff := ok_put (r := r') (j := 0) hop hi hp hx hc hf hB' (Nat.eq_of_beq_eq_true w3) (by omega) hr
    refine WO_eff ho (isYes_ok w1) w2 heff ?_
    rw [hnone]
    have hbl : b' < σ.length := (List.getElem?_eq_some_iff.1 hB).1
    refine WO_ent (ent_rows (b := b') (row' := fun i j => (E.row ((l.set r' x).getD i E.d)).getD j .jk) (by rw [List.getElem?_set, if_pos rfl, if_pos hbl]) ?_ rfl) ?_
    · intro a ha q hq
      show (if _ then _ else _) = _
      by_cases har : a = r'
      · subst har
        rw [if_pos ⟨rfl, Nat.zero_le _, by omega⟩]
        have e1 : (l.set a x).getD a E.d = x := by
          rw [List.getD_eq_getElem?_getD, List.getElem?_set, if_pos rfl, if_pos ha]; rfl
        rw [e1, Nat.sub_zero, List.getD_eq_getElem?_getD, List.getElem?_map, List.getElem?_range hq]
        rfl
      · rw [if_neg (fun h => har h.1)]
        have e1 : (l.set r' x).getD a E.d = l.getD a E.d := by
          rw [List.getD_eq_getElem?_getD, List.getD_eq_getElem?_getD, List.getElem?_set, if_neg (fun h => har h.symm)]
        rw [e1]
    · subst hσ
      rw [List.set_set]
      have el : (l.set r' x).length = l.length := List.length_set
      unfold rwB at next
      rw [el] at next
      exact next
end
end Go.Av

namespace Go.Av
open Go

section
variable {X : Cx} {N : Nat} {σ σ' : Hp} {T T' : Tm} {Q : Exit → Hp → Tm → Prop} {ops : Array Oper} {k : Nat} {o : Oper}

def evRowOwn (X : Cx) (σ : Hp) (t n : Nat) (ps : List (Nat × Option V)) : Option (A × Blk) :=
  match X.ty t with
  | some ⟨.slice e, _, _, _⟩ =>
    match X.ty e with
    | some i =>
      if n * i.size ≤ 16777216 ∧ n ≤ 16777216 then
        ((fillA (fun j => some (j * i.size, i.size)) ((List.range (n * i.size)).map fun q => .c (i.zero.getD (q % i.size) .jk)) ps).bind frzA).map
          fun l => (.sl σ.length 0 n, .rows 0 e i.size n fun a b => l.getD (a * i.size + b) .jk)
      else none
    | none => none
  | _ => none

theorem ok_row_own {t n : Nat} {r : A} {B : Blk} {ps : Array (Nat × Operand)} (ho : o.op = .buildSlice t n ps) (he : evRowOwn X σ t n (ps.toList.map fun p => (p.1, evO X T p.2)) = some (r, B)) : Eff X o σ T (some (.cell r)) (σ ++ [some B]) := by
  intro w G m ρ s hρ
  have hops : ∀ p ∈ ps.toList, ∀ v, evO X T p.2 = some v → VRV G m v (ρ p.2) := by
    intro p hp v hv
    refine hρ p.2 ?_ v hv
    simp [ho, Op.operands]
    exact ⟨p.1, by simpa using hp⟩
  unfold evRowOwn at he
  split at he
  case h_2 => cases he
  rename_i e _ _ _ ht
  split at he
  case h_2 => cases he
  rename_i i hi
  split at he
  case isFalse => cases he
  rename_i hn
  simp only [Option.map_eq_some_iff, Option.bind_eq_some_iff] at he
  obtain ⟨l, ⟨cs, hcs, hl⟩, he⟩ := he
  obtain ⟨rfl, rfl⟩ := Prod.mk.inj he
  have hu := und_slice ht rfl
  obtain ⟨z, hz1, hz2, hz3, -, hz5⟩ := zero_ok hi (G := G) (m := m)
  let zs : Array Value := (Array.range (n * i.size)).map ((if n * i.size = 0 then #[] else z.cells)[· % (if n * i.size = 0 then #[] else z.cells).size]!)
  have hzs : VRL G m ((List.range (n * i.size)).map fun q => A.c (i.zero.getD (q % i.size) .jk)) zs.toList := by
    refine ⟨by simp [zs], fun q a hq => ?_⟩
    simp only [List.getElem?_map, Option.map_eq_some_iff] at hq
    obtain ⟨q', hq', rfl⟩ := hq
    obtain ⟨h2, rfl⟩ := List.getElem?_eq_some_iff.1 hq'
    simp only [List.length_range] at h2
    simp only [List.getElem_range]
    have hne : ¬ n * i.size = 0 := by omega
    have hpos : 0 < i.size := by
      rcases Nat.eq_zero_or_pos i.size with h | h
      · rw [h] at h2; omega
      · exact h
    have hlt : q % i.size < i.size := Nat.mod_lt _ hpos
    have hzl : (i.zero.map A.c).length = z.cells.size := by simpa using hz2.1.symm
    simp at hzl
    obtain ⟨u, hu1, hu2⟩ := hz2.2 (q % i.size) (.c (i.zero.getD (q % i.size) .jk)) (by
      rw [List.getElem?_map, List.getD_eq_getElem?_getD, List.getElem?_eq_getElem (by omega)]; rfl)
    refine ⟨u, ?_, hu2⟩
    have h3 : z.cells[q % i.size]? = some u := by simpa using hu1
    simp only [zs, hne, if_false, Array.toList_map, List.getElem?_map, Array.toList_range, hz3]
    rw [List.getElem?_range h2]
    simp [getElem!_def, h3]
  obtain ⟨vs, h1, h2⟩ := fill_ok (ρ := ρ) ps.toList _ _ zs hzs hcs hops
  obtain ⟨h3, h4⟩ := frzA_ok hl h2
  have hrun : (execOp ρ o).run X.P w = .ok (.value (.slice (some ⟨w.heap.size, 0, none⟩) n n)) (w.alloc (.cells vs e)) := by
    have e1 : (ps.map fun x => (x.1, ρ x.2)).toList = ps.toList.map fun p => (p.1, ρ p.2) := by simp
    have hno : ¬ (n * i.size > 2 ^ 24) := by omega
    by_cases h0 : n * i.size = 0
    · simp only [execOp, ho, Instr.buildSlice, Sem.run_bind, run_underlying hu, Result.andThen_ok, run_sizeOf hi, h0]
      rw [if_neg (by omega)]
      simp only [Sem.run_bind, Sem.run_pure, if_true, Result.andThen_ok, e1]
      have : (Array.range 0).map ((#[] : Array Value)[· % (#[] : Array Value).size]!) = zs := by simp [zs, h0]
      rw [this, h1]
      rfl
    · simp only [execOp, ho, Instr.buildSlice, Sem.run_bind, run_underlying hu, Result.andThen_ok, run_sizeOf hi, if_neg hno, if_neg h0, Sem.run_pure, e1, hz1]
      have : (Array.range (n * i.size)).map (z.cells[· % z.cells.size]!) = zs := by simp [zs, h0]
      rw [this, h1]
      rfl
  rw [hrun]
  have hext : ∀ a u x, m a u = some x → updM m σ.length 0 (.slice (some ⟨w.heap.size, 0, none⟩) n n) a u = some x := updM_ext (.inl (s.lim _ _ (Nat.le_refl _)))
  have hsz : vs.size = n * i.size := by
    have h7 := h2.1
    rw [fillA_len _ _ _ _ hcs] at h7
    simpa using h7
  obtain ⟨g1, g2⟩ := s.push (v := .slice (some ⟨w.heap.size, 0, none⟩) n n) (B := .rows 0 e i.size n fun a b => l.getD (a * i.size + b) .jk) (World.grownBy_alloc w (.cells vs e) none) rfl (fun k hk => by simp [Value.ownBlock] at hk; omega)
    ⟨vs.toList, ⟨by simp [Blk.sz, Blk.len, hsz], .inr ⟨w.heap.size, n, vs, rfl, Nat.zero_le _, heap_alloc_new w _, Nat.le_refl _, by simp [maxLen]; omega, by simp [Blk.sz, hsz], by show List.take (n * i.size) vs.toList = vs.toList; exact List.take_of_length_le (by simp [hsz])⟩⟩, fun a ha b hb => by
      have ha : a < n := ha
      have hb : b < i.size := hb
      have hlt : a * i.size + b < l.length := by
        rw [h3]
        have : (a + 1) * i.size ≤ n * i.size := Nat.mul_le_mul_right _ ha
        rw [Nat.add_mul] at this
        simp [hsz]; omega
      obtain ⟨u, h5, h6⟩ := h4 _ _ (List.getElem?_eq_getElem hlt)
      refine ⟨u, h5, ?_⟩
      show VRC _ (l.getD (a * i.size + b) .jk) u
      rw [List.getD_eq_getElem?_getD, List.getElem?_eq_getElem hlt]
      exact h6⟩
  exact ⟨G, _, g1, g2, fun y hy => by obtain rfl := Option.some.inj hy; exact ⟨updM_same, by omega, .inr ⟨w.heap.size, n, rfl⟩⟩⟩

def atRowOwn (X : Cx) (N : Nat) (ops : Array Oper) (σ : Hp) (k : Nat) (T : Tm) : Option (A × Blk × Option Tmp) :=
  match ops[k]? with
  | some o =>
    match o.op with
    | .buildSlice t n ps =>
      match evRowOwn X σ t n (ps.toList.map fun p => (p.1, evO X T p.2)) with
      | some (r, B) => bif isYes (wantedA ops T o) && fitD N o.dst then some (r, B, o.dst) else none
      | none => none
    | _ => none
  | none => none
theorem WO_rowown {α : Type} (E : En α) (xs : List α) {cs : List C} {d e n : Nat} (h : atRowOwn X N ops σ k T = some (.sl σ.length 0 n, .rows 0 e E.sz n (fun a b => cs.getD (a * E.sz + b) .jk), some d)) (hn : n = xs.length)
    (hr : (List.range n).map (fun i => (List.range E.sz).map fun j => cs.getD (i * E.sz + j) .jk) = xs.map (fun x => (List.range E.sz).map fun j => (E.row x).getD j .jk))
    (hσ : σ ++ [some (rwB E 0 e xs)] = σ') (hT : put T (some d) (.cell (.sl σ.length 0 xs.length)) = T') (next : WO X N ops (k + 1) σ' T' Q) : WO X N ops k σ T Q := by
  subst hn; subst hσ; subst hT
  unfold atRowOwn at h
  split at h
  case h_2 => cases h
  rename_i o ho
  split at h
  case h_2 => cases h
  rename_i t n' ps hop
  split at h
  case h_2 => cases h
  rename_i r B he
  cases hc : isYes (wantedA ops T o) && fitD N o.dst with
  | false => rw [hc] at h; cases h
  | true =>
    rw [hc] at h
    simp only [cond_true, Option.some.injEq, Prod.mk.injEq] at h
    obtain ⟨rfl, rfl, hd⟩ := h
    rw [Bool.and_eq_true] at hc
    refine WO_eff ho (isYes_ok hc.1) hc.2 (ok_row_own hop he) ?_
    rw [hd]
    refine WO_ent (ent_rows (b := σ.length) (row' := fun i j => (E.row (xs.getD i E.d)).getD j .jk) (by rw [List.getElem?_append_right (Nat.le_refl _)]; simp only [Nat.sub_self]; rfl) (raw_rows E rfl rfl hr) ?_) next
    rw [List.set_append_right _ _ (Nat.le_refl _)]
    simp [rwB]

/-- a slice held against nil: whichever it is -/
def atNil (X : Cx) (N : Nat) (ops : Array Oper) (k : Nat) (T : Tm) : Option (Option Tmp × Nat) :=
  match ops[k]? with
  | some o =>
    match o.op with
    | .binOp .eql t x (.const (.slice none 0 0)) _ =>
      match X.ty t, evO X T x with
      | some ⟨.slice _, _, _, _⟩, some (.cell (.c (.sl len _ _))) => bif isYes (wantedA ops T o) && fitD N o.dst then some (o.dst, len) else none
      | _, _ => none
    | _ => none
  | none => none
theorem WO_isnil {d : Option Tmp} {len : Nat} (h : atNil X N ops k T = some (d, len)) (next : ∀ b : Bool, (b = true → len = 0) → WO X N ops (k + 1) σ (put T d (.cell (.c (.bool b)))) Q) : WO X N ops k σ T Q := by
  unfold atNil at h
  split at h
  case h_2 => cases h
  rename_i o ho
  split at h
  case h_2 => cases h
  rename_i t x t' hop
  split at h
  case h_2 => cases h
  rename_i e sz by' ze len' sz' row ht hx
  cases hc : isYes (wantedA ops T o) && fitD N o.dst with
  | false => rw [hc] at h; cases h
  | true =>
    rw [hc] at h
    simp only [cond_true, Option.some.injEq, Prod.mk.injEq] at h
    obtain ⟨rfl, rfl⟩ := h
    rw [Bool.and_eq_true] at hc
    intro w0 G0 μ σ0 w G m a s tm tr
    obtain ⟨ad, cap, hv, h1, h2, h3⟩ : VRC G (.sl len' sz' row) (a.eval x) := evO_ok s tm hx
    have hu := und_slice ht rfl
    have hrun : (execOp a.eval o).run X.P w = .ok (.value (.bool ad.isNone)) w := by
      have he : (Act.eval a (.const (.slice none 0 0))) = .slice none 0 0 := rfl
      have heq : (Op.equalIn 10000 t (.slice ad len' cap) (.slice none 0 0)).run X.P w = .ok ad.isNone w := by
        have key : ∀ q : Nat, (Op.equalIn (q + 1) t (.slice ad len' cap) (.slice none 0 0)).run X.P w = .ok ad.isNone w := by
          intro q
          cases ad <;> simp [Op.equalIn, run_underlying hu]
        exact key 9999
      have hb : (binOp .eql t (.slice ad len' cap) (.slice none 0 0)).run X.P w = ((Op.equalIn 10000 t (.slice ad len' cap) (.slice none 0 0)).run X.P w).andThen fun b w' => .ok (.bool b) w' := by
        simp only [binOp]
        simp [Op.equal, Op.maxDepth]
      have hgd : (eqGuard .eql t x (.const (.slice none 0 0)) (.slice ad len' cap) (.slice none 0 0)).run X.P w = .ok () w := by simp [eqGuard]
      rw [heq] at hb
      simp only [execOp, hop, hv, he, Sem.run_bind, hgd, Result.andThen_ok, hb, Sem.run_pure]
    rw [drop_cons ho]
    refine wpList_step fun K hK => ?_
    rw [if_pos (wanted_ok tm (isYes_ok hc.1))]
    refine wp_of_runs (X := X) (G := G) (m := m) (σ := σ) (σ' := σ) (r := some (.cell (.c (.bool ad.isNone)))) (by rw [hrun]; exact ⟨G, m, s, ⟨.refl _ _ _ _, fun _ _ _ h => h⟩, fun y hy => by obtain rfl := Option.some.inj hy; rfl⟩) ?_
    rintro v w' ⟨G', m', s', tr', hvv⟩
    refine hK _ _ (next ad.isNone ?_ w0 G0 μ σ0 w' G' m' _ s' ((tm.mono tr'.tr.gext tr'.mono).put hc.2 (hvv _ rfl)) (tr.trans tr'.tr))
    intro hb
    rcases h3 with h | ⟨blk, off, arr, h, _⟩
    · exact h
    · rw [h] at hb; cases hb
end
end Go.Av

namespace Go.Av
open Go

section
variable {X : Cx} {N : Nat} {σ σ' : Hp} {T T' : Tm} {Q : Exit → Hp → Tm → Prop} {ops : Array Oper} {k : Nat} {o : Oper} {w w' : World} {G : GM} {m : OM}

theorem St.adopt (s : St X w G m σ) {v : Value} {B : Blk} (hver : B.ver = 0) (hob : ∀ k, v.ownBlock = some k → G k = none ∧ ¬ Img m σ k) (hat : BlkAt w G (updM m σ.length 0 v) v B) :
    St X w G (updM m σ.length 0 v) (σ ++ [some B]) := by
  have hext : ∀ a u x, m a u = some x → updM m σ.length 0 v a u = some x := updM_ext (.inl (s.lim _ _ (Nat.le_refl _)))
  have hold : ∀ (i : Nat) B', (σ ++ [some B])[i]? = some (some B') → (i < σ.length ∧ σ[i]? = some (some B')) ∨ (i = σ.length ∧ B' = B) := by
    intro i B' h
    rcases Nat.lt_trichotomy i σ.length with h1 | h1 | h1
    · rw [List.getElem?_append_left h1] at h; exact .inl ⟨h1, h⟩
    · subst h1; rw [List.getElem?_append_right (Nat.le_refl _)] at h; simp at h; exact .inr ⟨rfl, h.symm⟩
    · rw [List.getElem?_append_right (by omega)] at h
      have : i - σ.length ≠ 0 := by omega
      rw [List.getElem?_eq_none (by simp; omega)] at h; cases h
  have hmo : ∀ i, i < σ.length → ∀ u, updM m σ.length 0 v i u = m i u := by
    intro i hi u
    unfold updM; rw [if_neg (by omega)]
  refine ⟨s.fro, s.glob, fun i B' h => ?_, fun i j B1 B2 v1 v2 hij h1 h2 h3 h4 => ?_, fun i B' u h hu => ?_, fun i u hi => ?_⟩
  · rcases hold i B' h with ⟨h1, h2⟩ | ⟨rfl, rfl⟩
    · obtain ⟨v2, h3, h4, h5⟩ := s.own i B' h2
      exact ⟨v2, hext _ _ _ h3, h4.mono (fun _ _ => rfl) (fun _ _ h => h) hext, h5⟩
    · exact ⟨v, by rw [hver]; exact updM_same, hat, fun k hk => (hob k hk).1⟩
  · rcases hold i B1 h1 with ⟨i1, i2⟩ | ⟨rfl, rfl⟩ <;> rcases hold j B2 h2 with ⟨j1, j2⟩ | ⟨rfl, rfl⟩
    · rw [hmo i i1] at h3; rw [hmo j j1] at h4
      exact s.sep i j B1 B2 v1 v2 hij i2 j2 h3 h4
    · rw [hmo i i1] at h3
      rw [hver, updM_same] at h4
      obtain rfl := Option.some.inj h4
      cases hv1 : v1.ownBlock with
      | none => exact .inl rfl
      | some k => exact .inr fun hk => (hob k hk.symm).2 ⟨i, B1, v1, i2, h3, hv1⟩
    · rw [hmo j j1] at h4
      rw [hver, updM_same] at h3
      obtain rfl := Option.some.inj h3
      cases hv1 : v.ownBlock with
      | none => exact .inl rfl
      | some k => exact .inr fun hk => (hob k hv1).2 ⟨j, B2, v2, j2, h4, hk.symm⟩
    · exact (hij rfl).elim
  · rcases hold i B' h with ⟨h1, h2⟩ | ⟨rfl, rfl⟩
    · rw [hmo i h1]; exact s.top i B' u h2 hu
    · unfold updM
      rw [hver] at hu
      rw [if_neg (by omega)]
      exact s.lim _ _ (Nat.le_refl _)
  · simp at hi
    unfold updM
    rw [if_neg (by omega)]
    exact s.lim i u (by omega)

/-- The function, called with these, gives back a row that nobody else knows. -/
def Fresh (X : Cx) (f : FuncId) (args : List V) (e sz len : Nat) (row : Nat → Nat → C) : Prop :=
  ∀ w G (vs : List Value), St X w G m0 [] → VRs G m0 args vs → Calls X.P f vs.toArray w fun ex w' => ∃ v G', ex = .returned v ∧ Grow w G w' G' ∧ BlkAt w' G' m0 v (.rows 0 e sz len row) ∧ len ≤ 140737488355328 ∧ ∀ k, v.ownBlock = some k → G' k = none ∧ w.heap.size ≤ k

theorem ok_fresh {fo : Operand} {args : Array Operand} {ts : Array TypeId} {f : FuncId} {n : Nat} {cap : Nat → C} {avs : List V} {e sz len : Nat} {row : Nat → Nat → C} (ho : o.op = .call ⟨.value fo, args, ts⟩) (hf : evO X T fo = some (.cell (.c (.fn f n cap))))
    (ha : allSome (args.toList.map (evO X T)) = some avs) (hz : avs.all frozenV = true) (hc : ∀ (as : Array Value) (w : World), (callFunc f as).run X.P w = .ok (.enter f as) w) (hp : Fresh X f (avs ++ capsC n cap) e sz len row) :
    Eff X o σ T (some (.cell (.sl σ.length 0 len))) (σ ++ [some (.rows 0 e sz len row)]) := by
  intro w G m ρ s hρ
  obtain ⟨caps, hfv, hs, hcv⟩ := hρ fo (by simp [ho, Op.operands, Call.operands]) _ hf
  rw [run_call ho hfv hc]
  refine ⟨rfl, ?_⟩
  have h1 : VRs G m avs (args.toList.map ρ) := allSome_ok ha fun x hx => hρ x (by simp [ho, Op.operands, Call.operands]; exact .inr (by simpa using hx))
  have h2 := (h1.any hz (m' := m0)).append (capsC_ok (m := m0) hs hcv)
  refine (hp w G _ s.bare h2).mono ?_
  rintro ex w' ⟨v, G', rfl, hg, hb, hl, hk⟩
  refine ⟨v, rfl, ?_⟩
  have hext : ∀ a u x, m a u = some x → updM m σ.length 0 v a u = some x := updM_ext (.inl (s.lim _ _ (Nat.le_refl _)))
  have s' := s.grow hg
  have himg : ∀ k, Img m σ k → k < w.heap.size := by
    rintro k ⟨i, B, v1, g1, g2, g3⟩
    obtain ⟨v2, g4, g5, -⟩ := s.own i B g1
    obtain rfl := Option.some.inj (g2.symm.trans g4)
    exact g5.lt g3
  have hbat : BlkAt w' G' (updM m σ.length 0 v) v (.rows 0 e sz len row) := by
    obtain ⟨xs, g1, g2⟩ := hb
    exact ⟨xs, g1, fun i hi j hj => let ⟨u, hu, hr⟩ := g2 i hi j hj; ⟨u, hu, hr⟩⟩
  have s2 := s'.adopt (B := .rows 0 e sz len row) rfl (fun k hk' => ⟨(hk k hk').1, fun hI => by have := himg k hI; have := (hk k hk').2; omega⟩) hbat
  refine ⟨G', _, s2, ⟨⟨hg.os, hg.tape, hg.output, hg.size, fun k hk _ => hg.frame k hk, hg.gext, fun b arr h => (hg.gnew b arr h).imp id .inr, ?_, fun i B hB hv => ?_⟩, hext⟩, fun x hx => ?_⟩
  · rintro k ⟨i, B, v1, g1, g2, g3⟩
    rcases Nat.lt_or_ge i σ.length with hi | hi
    · rw [List.getElem?_append_left hi] at g1
      have : updM m σ.length 0 v i B.ver = m i B.ver := by unfold updM; rw [if_neg (by omega)]
      rw [this] at g2
      exact .inl ⟨i, B, v1, g1, g2, g3⟩
    · rw [List.getElem?_append_right hi] at g1
      have hi0 : i - σ.length = 0 := by
        rcases Nat.eq_zero_or_pos (i - σ.length) with h | h
        · exact h
        · rw [List.getElem?_eq_none (by simp; omega)] at g1; cases g1
      obtain rfl : i = σ.length := by omega
      simp at g1
      subst g1
      have g2 : updM m σ.length 0 v σ.length 0 = some v1 := g2
      rw [updM_same] at g2
      obtain rfl := Option.some.inj g2
      exact .inr (hk k g3).2
  · rcases Nat.lt_or_ge i σ.length with hi | hi
    · rw [List.getElem?_append_left hi] at hB
      exact ⟨⟨B, hB, hv⟩, by unfold updM; rw [if_neg (by omega)]⟩
    · rw [List.getElem?_append_right hi] at hB
      have hi0 : i - σ.length = 0 := by
        rcases Nat.eq_zero_or_pos (i - σ.length) with h | h
        · exact h
        · rw [List.getElem?_eq_none (by simp; omega)] at hB; cases hB
      rw [hi0] at hB
      simp at hB
      subst hB
      cases hv
  · obtain rfl := Option.some.inj hx
    refine ⟨updM_same, hl, ?_⟩
    obtain ⟨xs, g1, -⟩ := hb
    exact sl_form g1

theorem WO_fresh {f : FuncId} {all : List V} {d : Option Tmp} {e sz len : Nat} {row : Nat → Nat → C} (h : atCall X N ops k T = some (f, all, d)) (hz : all.all frozenV = true) (hc : ∀ (as : Array Value) (w : World), (callFunc f as).run X.P w = .ok (.enter f as) w)
    (hp : Fresh X f all e sz len row) (hw : WO X N ops (k + 1) (σ ++ [some (.rows 0 e sz len row)]) (put T d (.cell (.sl σ.length 0 len))) Q) : WO X N ops k σ T Q := by
  obtain ⟨o, fo, args, ts, n, cap, avs, h1, h2, rfl, h3, h4, h5, h6, rfl⟩ := (atCall_ok h).h
  exact WO_eff h1 h3 h4 (ok_fresh h2 h5 h6 (frozen_caps hz) hc hp) hw
end
end Go.Av

namespace Go.Av
open Go

section
variable {X : Cx} {N : Nat} {σ σ' : Hp} {T T' : Tm} {Q : Exit → Hp → Tm → Prop} {ops : Array Oper} {k : Nat} {o : Oper} {c : Code}

def QFresh (fn : Func) (e sz len : Nat) (row : Nat → Nat → C) (ex : Exit) (σ : Hp) (T : Tm) : Prop :=
  (ex = .ret ∨ ex = .normal) ∧ ∃ t b ver, fn.results.toList = [.tmp t] ∧ get T t = some (.cell (.sl b ver len)) ∧ σ[b]? = some (some (.rows ver e sz len row))

theorem Fresh_of_W {f : FuncId} {fn : Func} {args : List V} {e sz len : Nat} {row : Nat → Nat → C} (hf : X.P.funcs[f]? = some fn) (hb : fn.body = some c) (hN : fn.ntmps = N) (hl : args.length ≤ N) (h : W X N c [] (argsT 0 args) (QFresh fn e sz len row)) : Fresh X f args e sz len row := by
  intro w G vs s hv
  refine calls_of_wp hf hb (wp_mono (h w G m0 _ s ⟨?_, rfl, fun k x hx => ?_⟩) ?_)
  · simp [hN, hv.1]; omega
  · obtain ⟨-, h1⟩ := get_argsT hx
    simp only [Nat.sub_zero] at h1
    have hk : k < args.length := (List.getElem?_eq_some_iff.1 h1).1
    obtain ⟨u, hu, hr⟩ := hv.2 k x h1
    refine ⟨by omega, ?_⟩
    have hk' : k < vs.length := by rw [hv.1]; exact hk
    have : (vs.toArray ++ Array.replicate (fn.ntmps - vs.toArray.size) undef).getD k undef = u := by
      rw [List.getElem?_eq_getElem hk'] at hu
      obtain rfl := Option.some.inj hu
      simp [Array.getD, hk', Array.getElem_append]
      omega
    rw [this]; exact hr
  · rintro ex a' w' ⟨G2, m2, σ2, T2, s2, t2, tr2, he, t, b, ver, hres, hT, hB⟩
    obtain ⟨-, hm, hle, -⟩ := t2.vals t _ hT
    obtain ⟨v, hv1, ⟨xs, ho, hc⟩, hG⟩ := s2.own b _ hB
    obtain rfl : v = _ := Option.some.inj (hv1.symm.trans hm)
    have hno : ∀ k, ¬ Img m0 [] k := fun k ⟨i, B, v, h, _⟩ => by simp at h
    have hgrow : Grow w G w' G2 := by
      refine ⟨tr2.os, tr2.tape, tr2.output, tr2.size, fun k hk => tr2.frame k hk (hno k), tr2.gext, fun b arr h => ?_, s2.fro⟩
      rcases tr2.gnew b arr h with h | h | h
      · exact .inl h
      · exact (hno b h).elim
      · exact .inr h
    have hrun : (results fn a'.tmps).run X.P w' = .ok (a'.tmps.getD t undef) w' := by
      unfold results
      rw [Array.mapM_eq_mapM_toList, hres]
      simp
    have hat : BlkAt w' G2 m0 (a'.tmps.getD t undef) (.rows 0 e sz len row) :=
      ⟨xs, ho, fun i hi j hj => let ⟨u, hu, hr⟩ := hc i hi j hj; ⟨u, hu, hr⟩⟩
    have hown : ∀ k, (a'.tmps.getD t undef).ownBlock = some k → G2 k = none ∧ w.heap.size ≤ k := fun k hk =>
      ⟨hG k hk, (tr2.img k ⟨b, _, _, hB, hv1, hk⟩).resolve_left (hno k)⟩
    rcases he with rfl | rfl
    · exact ⟨t2.defers, _, hrun, _, G2, rfl, hgrow, hat, hle, hown⟩
    · exact ⟨t2.defers, _, hrun, _, G2, rfl, hgrow, hat, hle, hown⟩
end
end Go.Av


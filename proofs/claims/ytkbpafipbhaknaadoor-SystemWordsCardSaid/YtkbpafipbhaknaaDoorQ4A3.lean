/- Abstract values over the worlds of the model: rules by which a function is walked; plain lemmas. -/
import Derived.Test.YtkbpafipbhaknaaDoorQ4A2
import Derived.Lib.AppendZerosOnto
namespace Go.Av
open Go

section
variable {X : Cx} {N : Nat} {σ σ' : Hp} {T T' : Tm} {Q : Exit → Hp → Tm → Prop} {ops : Array Oper} {k : Nat} {o : Oper}

theorem ok_capnil {t e : Nat} {x : Operand} {args : Array Operand} {ts : Array TypeId} {i : TI} (ho : o.op = .call ⟨.builtin .cap, args, ts⟩) (ha : args = #[x]) (hts : ts = #[t]) (ht : X.ty t = some i) (hk : i.k = .slice e) (hx : evO X T x = some (.cell (.c .nsl))) : Quiet X o σ T (.cell (.c (.int .i64 0))) := by
  subst ha; subst hts
  refine quiet_of_run fun w G m ρ _ hρ => ?_
  have hv : ρ x = .slice none 0 0 := hρ x (by simp [ho, Op.operands, Call.operands]) _ hx
  have hrun : ∀ v, (Builtin.cap_ #[t] o.type #[ρ x]).run X.P w = .ok v w → (execOp ρ o).run X.P w = .ok (.value v) w := by
    intro v hv
    simp [execOp, ho, resolve, invoke, builtin, hv]
  exact ⟨_, hrun _ (by simp [Builtin.cap_, run_underlying (und_slice ht hk), hv]; rfl), rfl⟩

theorem ok_slicenil {t e : Nat} {x y : Operand} {i : TI} {ki : IntKind} (ho : o.op = .slice t x none (some y) none) (ht : X.ty t = some i) (hk : i.k = .slice e) {ie : TI} (hie : X.ty e = some ie) (hx : evO X T x = some (.cell (.c .nsl))) (hy : evO X T y = some (.cell (.c (.int ki 0)))) : Quiet X o σ T (.cell (.c .nsl)) := by
  refine quiet_of_run fun w G m ρ _ hρ => ?_
  have hv : ρ x = .slice none 0 0 := hρ x (by simp [ho, Op.operands]) _ hx
  have hvy : ρ y = .int ki 0 := hρ y (by simp [ho, Op.operands]) _ hy
  refine ⟨.slice none 0 0, ?_, rfl⟩
  have hb := run_bounds (X := X) (w := w) (s := true) (len := 0) (cap := 0) (lo := none) (hi := some (.int ki 0)) (l := 0) (h := 0) (k := ki) (k' := ki) (.inl ⟨rfl, rfl⟩) (.inr rfl) (by omega) (by omega) (by omega)
  simp only [Int.toNat_zero] at hb
  simp [execOp, ho, hv, hvy, Instr.sliceAt, Instr.slice, run_underlying (und_slice ht hk), hb, run_sizeOf hie]

theorem zeroCells_get (z : Array Value) (n sz : Nat) (hz : z.size = sz) {a j : Nat} (ha : a < n) (hj : j < sz) : (Builtin.zeroCells z n).toList[a * sz + j]? = z[j]? := by
  subst hz
  have hlt : a * z.size + j < n * z.size := by
    have : (a + 1) * z.size ≤ n * z.size := Nat.mul_le_mul_right _ ha
    rw [Nat.add_mul] at this; omega
  have hmod : (a * z.size + j) % z.size = j := by
    rw [Nat.mul_comm, Nat.mul_add_mod, Nat.mod_eq_of_lt hj]
  unfold Builtin.zeroCells
  simp [hlt, hmod, hj, getElem!_def]
theorem zeroCells_size (z : Array Value) (n : Nat) : (Builtin.zeroCells z n).size = n * z.size := by simp [Builtin.zeroCells]

theorem ok_appz {t tn e : Nat} {i ti tni : TI} {s x : Operand} {args : Array Operand} {ts : Array TypeId} {kq kn : IntKind} {n : Int} (ho : o.op = .call ⟨.builtin .append, args, ts⟩) (ha : args = #[s, x]) (hts : ts = #[t, tn]) (ht : X.ty t = some ti) (hk : ti.k = .slice e) (htn : X.ty tn = some tni) (hkn : tni.k = .int kn) (hi : X.ty e = some i) (hsz : 0 < i.size)
    (hs : evO X T s = some (.cell (.c .nsl))) (hx : evO X T x = some (.cell (.c (.int kq n)))) (h0 : 0 < n) (hb : n * i.bytes ≤ 140737488355328) (hn : n ≤ 140737488355328) :
    Eff X o σ T (some (.cell (.sl σ.length 0 n.toNat))) (σ ++ [some (.rows 0 e i.size n.toNat fun _ j => i.zero.getD j .jk)]) := by
  subst ha; subst hts
  intro w G m ρ st hρ
  obtain ⟨q, rfl⟩ := Int.eq_ofNat_of_zero_le (Int.le_of_lt h0)
  have hsv : ρ s = .slice none 0 0 := hρ s (by simp [ho, Op.operands, Call.operands]) _ hs
  have hxv : ρ x = .int kq q := hρ x (by simp [ho, Op.operands, Call.operands]) _ hx
  obtain ⟨inf, z, h1, h2, h3, h4, h5, h6, h7, h8⟩ := (X.ok e i hi).2
  have hb' : q * inf.bytes ≤ 281474976710656 := by
    rw [h3]
    have : ((q * i.bytes : Nat) : Int) ≤ 140737488355328 := by rw [Int.natCast_mul]; exact hb
    omega
  have hq0 : 0 < q := by omega
  have hr := Lib.run_append_nil_zeros w t tn o.type e inf z kq kn (und_slice ht hk) (und_int htn hkn) h1 h4 q hq0 (by omega) (by omega) hb'
  have hrun : (execOp ρ o).run X.P w = .ok (.value (.slice (some ⟨w.heap.size, 0, none⟩) q (grownCap w q 0 e))) (w.drew.alloc (.cells (Builtin.zeroCells z.cells q ++ Builtin.zeroCells z.cells (grownCap w q 0 e - q)) e)) := by
    simp [execOp, ho, resolve, invoke, builtin, hsv, hxv, hr]
  rw [hrun]
  obtain ⟨z', hz1, hz2, hz3, -⟩ := zero_ok hi (G := G) (m := m)
  obtain rfl : z' = z := by
    have h9 : (zeroValue e).run X.P w = .ok z w := by simp [zeroValue, typeInfo, h1, h4]
    rw [hz1 w] at h9; cases h9; rfl
  have hext : ∀ a u x, m a u = some x → updM m σ.length 0 (.slice (some ⟨w.heap.size, 0, none⟩) q (grownCap w q 0 e)) a u = some x := updM_ext (.inl (st.lim _ _ (Nat.le_refl _)))
  simp only [Int.ofNat_eq_natCast, Int.toNat_natCast]
  have hge := grownCap_ge w q 0 e
  have hle := grownCap_le_maxLen w q 0 e (by simp [maxLen]; omega)
  have hg0 := World.grownBy_alloc w.drew (.cells (Builtin.zeroCells z'.cells q ++ Builtin.zeroCells z'.cells (grownCap w q 0 e - q)) e) none
  have hgb : w.grownBy (w.drew.alloc (.cells (Builtin.zeroCells z'.cells q ++ Builtin.zeroCells z'.cells (grownCap w q 0 e - q)) e)) none := ⟨hg0.os, hg0.tape, hg0.output, hg0.size, hg0.block⟩
  have hsize : (Builtin.zeroCells z'.cells q ++ Builtin.zeroCells z'.cells (grownCap w q 0 e - q)).size = grownCap w q 0 e * i.size := by
    rw [Array.size_append, zeroCells_size, zeroCells_size, hz3, ← Nat.add_mul]
    congr 1; omega
  obtain ⟨g1, g2⟩ := st.push (v := .slice (some ⟨w.heap.size, 0, none⟩) q (grownCap w q 0 e)) (B := .rows 0 e i.size q fun _ j => i.zero.getD j .jk) hgb rfl (fun k hk => by simp [Value.ownBlock] at hk; omega)
    ⟨(Builtin.zeroCells z'.cells q).toList, ⟨by simp [Blk.sz, Blk.len, zeroCells_size, hz3], .inr ⟨w.heap.size, grownCap w q 0 e, _, rfl, Nat.zero_le _, heap_alloc_new w.drew _, hge, hle, hsize, by
      show List.take (q * i.size) (Builtin.zeroCells z'.cells q ++ Builtin.zeroCells z'.cells (grownCap w q 0 e - q)).toList = _
      rw [Array.toList_append, List.take_append_of_le_length (by simp [zeroCells_size, hz3])]
      exact List.take_of_length_le (by simp [zeroCells_size, hz3])⟩⟩, fun a ha b hb => by
      have ha : a < q := ha
      have hb : b < i.size := hb
      have hzl : i.zero.length = z'.cells.size := by simpa using hz2.1.symm
      obtain ⟨u, hu1, hu2⟩ := hz2.2 b (.c (i.zero.getD b .jk)) (by
        rw [List.getElem?_map, List.getD_eq_getElem?_getD, List.getElem?_eq_getElem (by omega)]; rfl)
      refine ⟨u, ?_, hu2⟩
      show (Builtin.zeroCells z'.cells q).toList[a * i.size + b]? = some u
      rw [zeroCells_get z'.cells q i.size hz3 ha hb]
      simpa using hu1⟩
  exact ⟨G, _, g1, g2, fun y hy => by obtain rfl := Option.some.inj hy; exact ⟨updM_same, by omega, .inr ⟨w.heap.size, _, rfl⟩⟩⟩
end
end Go.Av

namespace Go.Av
open Go

section
variable {X : Cx} {N : Nat} {σ σ' : Hp} {T T' : Tm} {Q : Exit → Hp → Tm → Prop} {ops : Array Oper} {k : Nat} {o : Oper}

theorem ok_cut0 {t e e' : Nat} {x y : Operand} {i ie : TI} {ki : IntKind} {b ver len sz n : Nat} {row : Nat → Nat → C} (ho : o.op = .slice t x none (some y) none) (ht : X.ty t = some i) (hk : i.k = .slice e) (hie : X.ty e = some ie) (hx : evO X T x = some (.cell (.sl b ver len))) (hy : evO X T y = some (.cell (.c (.int ki 0))))
    (hB : σ[b]? = some (some (.rows ver e' sz n row))) (h1000 : ver + 1 ≠ 1000) : Eff X o σ T (some (.cell (.sl b (ver + 1) 0))) (σ.set b (some (.rows (ver + 1) e' sz 0 row))) := by
  intro w G m ρ s hρ
  obtain ⟨hm, hle, hform⟩ := hρ x (by simp [ho, Op.operands]) _ hx
  have hvy : ρ y = .int ki 0 := hρ y (by simp [ho, Op.operands]) _ hy
  obtain ⟨v, hv, ⟨xs, hown, hcell⟩, hG⟩ := s.own b _ hB
  obtain rfl : v = ρ x := Option.some.inj (hv.symm.trans hm)
  have hgr : ∀ r, w.grownBy w r := fun r => ⟨rfl, rfl, rfl, Nat.le_refl _, fun _ _ _ => rfl⟩
  have fin : ∀ v' : Value, (execOp ρ o).run X.P w = .ok (.value v') w → (∀ k, v'.ownBlock = some k → (ρ x).ownBlock = some k) → w.ownsRow 0 e' sz v' 0 [] → RunsE X w G m σ (some (.cell (.sl b (ver + 1) 0))) (σ.set b (some (.rows (ver + 1) e' sz 0 row))) ((execOp ρ o).run X.P w) := by
    intro v' hrun hob how
    rw [hrun]
    obtain ⟨g1, g2⟩ := s.upd (B' := .rows (ver + 1) e' sz 0 row) (v' := v') hB hv (hgr _) (.inr ⟨Nat.lt_succ_self _, h1000⟩) (fun k hk => .inl (hob k hk)) ⟨[], how, fun i hi => absurd hi (Nat.not_lt_zero _)⟩
    exact ⟨G, _, g1, g2, fun z hz => by obtain rfl := Option.some.inj hz; exact ⟨updM_same, by omega, sl_form how⟩⟩
  rcases hown.2 with ⟨h1, h2⟩ | ⟨g, cap, cur, h1, h0, h2, h3, h4, h5, h6⟩
  · have hb := run_bounds (X := X) (w := w) (s := true) (len := 0) (cap := 0) (lo := none) (hi := some (.int ki 0)) (l := 0) (h := 0) (k := ki) (k' := ki) (.inl ⟨rfl, rfl⟩) (.inr rfl) (by omega) (by omega) (by omega)
    simp only [Int.toNat_zero] at hb
    refine fin (.slice none 0 0) ?_ (fun k hk => by cases hk) ⟨by simp, .inl ⟨rfl, rfl⟩⟩
    simp [execOp, ho, h1, hvy, Instr.sliceAt, Instr.slice, run_underlying (und_slice ht hk), hb, run_sizeOf hie]
  · have hb := run_bounds (X := X) (w := w) (s := true) (len := n) (cap := cap) (lo := none) (hi := some (.int ki 0)) (l := 0) (h := 0) (k := ki) (k' := ki) (.inl ⟨rfl, rfl⟩) (.inr rfl) (by omega) (by omega) (by omega)
    simp only [Int.toNat_zero] at hb
    have h1 : ρ x = .slice (some ⟨g, 0, none⟩) n cap := h1
    refine fin (.slice (some ⟨g, 0, none⟩) 0 cap) ?_ (fun k hk => by rw [h1]; exact hk) ⟨by simp, .inr ⟨g, cap, cur, rfl, h0, h2, Nat.zero_le _, h4, h5, by simp⟩⟩
    simp [execOp, ho, h1, hvy, Instr.sliceAt, Instr.slice, run_underlying (und_slice ht hk), hb, run_sizeOf hie, Addr.add]
end
end Go.Av

namespace Go.Av
open Go

section
variable {X : Cx} {N : Nat} {σ σ' : Hp} {T T' : Tm} {Q : Exit → Hp → Tm → Prop} {ops : Array Oper} {k : Nat}

def yes (N : Nat) (ops : Array Oper) (T : Tm) (o : Oper) : Bool := isYes (wantedA ops T o) && fitD N o.dst
theorem yes_ok {o : Oper} (h : yes N ops T o = true) : wantedA ops T o = some true ∧ fitD N o.dst = true := by
  unfold yes at h
  rw [Bool.and_eq_true] at h
  exact ⟨isYes_ok h.1, h.2⟩

def atCapNil (X : Cx) (N : Nat) (ops : Array Oper) (k : Nat) (T : Tm) : Option (Option Tmp) :=
  match ops[k]? with
  | some o =>
    match o.op with
    | .call ⟨.builtin .cap, args, ts⟩ =>
      match args.toList, ts.toList with
      | [x], [t] =>
        match X.ty t, evO X T x with
        | some ⟨.slice _, _, _, _⟩, some (.cell (.c .nsl)) => bif yes N ops T o then some o.dst else none
        | _, _ => none
      | _, _ => none
    | _ => none
  | none => none
theorem WO_capnil {d : Option Tmp} (h : atCapNil X N ops k T = some d) (next : WO X N ops (k + 1) σ (put T d (.cell (.c (.int .i64 0)))) Q) : WO X N ops k σ T Q := by
  unfold atCapNil at h
  split at h
  case h_2 => cases h
  rename_i o ho
  split at h
  case h_2 => cases h
  rename_i args ts hop
  split at h
  case h_2 => cases h
  rename_i x t ha hts
  obtain rfl : args = #[x] := by rw [← Array.toArray_toList (xs := args), ha]
  obtain rfl : ts = #[t] := by rw [← Array.toArray_toList (xs := ts), hts]
  split at h
  case h_2 => cases h
  rename_i ht hx
  cases hc : yes N ops T o with
  | false => rw [hc] at h; cases h
  | true =>
    rw [hc] at h
    obtain rfl := Option.some.inj h
    obtain ⟨h1, h2⟩ := yes_ok hc
    exact WO_eff ho h1 h2 (ok_capnil hop rfl rfl ht rfl hx).eff next

def atSliceNil (X : Cx) (N : Nat) (ops : Array Oper) (k : Nat) (T : Tm) : Option (Option Tmp) :=
  match ops[k]? with
  | some o =>
    match o.op with
    | .slice t x none (some y) none =>
      match X.ty t with
      | some ⟨.slice e, _, _, _⟩ =>
        match X.ty e, evO X T x, evO X T y with
        | some _, some (.cell (.c .nsl)), some (.cell (.c (.int _ 0))) => bif yes N ops T o then some o.dst else none
        | _, _, _ => none
      | _ => none
    | _ => none
  | none => none
theorem WO_slicenil {d : Option Tmp} (h : atSliceNil X N ops k T = some d) (next : WO X N ops (k + 1) σ (put T d (.cell (.c .nsl))) Q) : WO X N ops k σ T Q := by
  unfold atSliceNil at h
  split at h
  case h_2 => cases h
  rename_i o ho
  split at h
  case h_2 => cases h
  rename_i t x y hop
  split at h
  case h_2 => cases h
  rename_i ht
  split at h
  case h_2 => cases h
  rename_i hi hx hy
  cases hc : yes N ops T o with
  | false => rw [hc] at h; cases h
  | true =>
    rw [hc] at h
    obtain rfl := Option.some.inj h
    obtain ⟨h1, h2⟩ := yes_ok hc
    exact WO_eff ho h1 h2 (ok_slicenil hop ht rfl hi hx hy).eff next

def atAppz (X : Cx) (N : Nat) (ops : Array Oper) (k : Nat) (T : Tm) : Option (Option Tmp × Nat × TI × Int) :=
  match ops[k]? with
  | some o =>
    match o.op with
    | .call ⟨.builtin .append, args, ts⟩ =>
      match args.toList, ts.toList with
      | [s, x], [t, tn] =>
        match X.ty t, X.ty tn, evO X T s, evO X T x with
        | some ⟨.slice e, _, _, _⟩, some ⟨.int _, _, _, _⟩, some (.cell (.c .nsl)), some (.cell (.c (.int _ n))) =>
          match X.ty e with
          | some i => bif yes N ops T o && Nat.blt 0 i.size then some (o.dst, e, i, n) else none
          | none => none
        | _, _, _, _ => none
      | _, _ => none
    | _ => none
  | none => none
theorem WO_appz {d : Option Tmp} {e : Nat} {i : TI} {n : Int} (h : atAppz X N ops k T = some (d, e, i, n)) (h0 : 0 < n) (hb : n * i.bytes ≤ 140737488355328) (hn : n ≤ 140737488355328) (next : WO X N ops (k + 1) (σ ++ [some (.rows 0 e i.size n.toNat fun _ j => i.zero.getD j .jk)]) (put T d (.cell (.sl σ.length 0 n.toNat))) Q) : WO X N ops k σ T Q := by
  unfold atAppz at h
  split at h
  case h_2 => cases h
  rename_i o ho
  split at h
  case h_2 => cases h
  rename_i args ts hop
  split at h
  case h_2 => cases h
  rename_i s x t tn ha hts
  obtain rfl : args = #[s, x] := by rw [← Array.toArray_toList (xs := args), ha]
  obtain rfl : ts = #[t, tn] := by rw [← Array.toArray_toList (xs := ts), hts]
  split at h
  case h_2 => cases h
  rename_i ht htn hs hx
  split at h
  case h_2 => cases h
  rename_i i2 hi
  cases hc : yes N ops T o && Nat.blt 0 i2.size with
  | false => rw [hc] at h; cases h
  | true =>
    rw [hc] at h
    simp only [cond_true, Option.some.injEq, Prod.mk.injEq] at h
    obtain ⟨rfl, rfl, rfl, rfl⟩ := h
    rw [Bool.and_eq_true] at hc
    obtain ⟨h1, h2⟩ := yes_ok hc.1
    exact WO_eff ho h1 h2 (ok_appz hop rfl rfl ht rfl htn rfl hi (Nat.le_of_ble_eq_true hc.2) hs hx h0 hb hn) next

def atCut0 (X : Cx) (N : Nat) (ops : Array Oper) (k : Nat) (T : Tm) : Option (Option Tmp × Nat × Nat) :=
  match ops[k]? with
  | some o =>
    match o.op with
    | .slice t x none (some y) none =>
      match X.ty t with
      | some ⟨.slice e, _, _, _⟩ =>
        match X.ty e, evO X T x, evO X T y with
        | some _, some (.cell (.sl b ver _)), some (.cell (.c (.int _ 0))) => bif yes N ops T o && Nat.blt ver 999 then some (o.dst, b, ver) else none
        | _, _, _ => none
      | _ => none
    | _ => none
  | none => none
theorem WO_cut0 {d : Option Tmp} {b ver e' sz n : Nat} {row : Nat → Nat → C} (h : atCut0 X N ops k T = some (d, b, ver)) (hB : σ[b]? = some (some (.rows ver e' sz n row))) (next : WO X N ops (k + 1) (σ.set b (some (.rows (ver + 1) e' sz 0 row))) (put T d (.cell (.sl b (ver + 1) 0))) Q) : WO X N ops k σ T Q := by
  unfold atCut0 at h
  split at h
  case h_2 => cases h
  rename_i o ho
  split at h
  case h_2 => cases h
  rename_i t x y hop
  split at h
  case h_2 => cases h
  rename_i ht
  split at h
  case h_2 => cases h
  rename_i hi hx hy
  cases hc : yes N ops T o && Nat.blt _ 999 with
  | false => rw [hc] at h; cases h
  | true =>
    rw [hc] at h
    simp only [cond_true, Option.some.injEq, Prod.mk.injEq] at h
    obtain ⟨rfl, rfl, rfl⟩ := h
    rw [Bool.and_eq_true] at hc
    obtain ⟨h1, h2⟩ := yes_ok hc.1
    have h3 := Nat.le_of_ble_eq_true hc.2
    exact WO_eff ho h1 h2 (ok_cut0 hop ht rfl hi hx hy hB (by omega)) next
end
end Go.Av

namespace Go.Av
open Go

noncomputable def mixed (n : Nat) : LP where
  run := fun step x => match runN step n x with | some b => some b | none => whole.run step x
  ok := by
    intro s β step x b h
    split at h
    · obtain rfl := Option.some.inj h
      exact ⟨n, ‹_›⟩
    · exact whole.ok step x b h
theorem mixed_eq (n : Nat) : mixed n = whole := by
  have h : @LP.run (mixed n) = @LP.run whole := by
    funext s β step x
    show (match runN step n x with | some b => some b | none => whole.run step x) = _
    split
    · exact (whole_of ‹_›).symm
    · rfl
  cases hm : mixed n with
  | mk r ok =>
    rw [hm] at h
    cases hw : whole with
    | mk r' ok' =>
      rw [hw] at h
      have h : @r = @r' := h
      subst h
      rfl
end Go.Av

namespace Go.Av
open Go

theorem run_go {s β : Type} {step : s → Option (s ⊕ β)} {x y : s} (h : step x = some (.inl y)) : whole.run step x = whole.run step y := by
  rw [whole_step, h]
theorem run_out {s β : Type} {step : s → Option (s ⊕ β)} {x : s} {b : β} (h : step x = some (.inr b)) : whole.run step x = some b := by
  rw [whole_step, h]

theorem run_upto {s β : Type} {step : s → Option (s ⊕ β)} (st : Nat → s) : ∀ (n : Nat), (∀ i, i < n → step (st i) = some (.inl (st (i + 1)))) → whole.run step (st 0) = whole.run step (st n)
  | 0, _ => rfl
  | n + 1, h => by
    rw [run_upto st n fun i hi => h i (by omega)]
    exact run_go (h n (by omega))
theorem run_range {s β : Type} {step : s → Option (s ⊕ β)} (st : Nat → s) (n : Nat) {b : β} (h : ∀ i, i < n → step (st i) = some (.inl (st (i + 1)))) (he : step (st n) = some (.inr b)) : whole.run step (st 0) = some b := by
  rw [run_upto st n h, run_out he]

/-- a loop that ends at the first element that fails -/
theorem run_all {s β α : Type} {step : s → Option (s ⊕ β)} (l : List α) (p : α → Bool) (st : Nat → s) {bad fin : β}
    (h : ∀ i x, l[i]? = some x → step (st i) = some (bif p x then .inl (st (i + 1)) else .inr bad)) (he : step (st l.length) = some (.inr fin)) :
    whole.run step (st 0) = some (bif l.all p then fin else bad) := by
  have key : ∀ (k : Nat), k ≤ l.length → whole.run step (st (l.length - k)) = some (bif (l.drop (l.length - k)).all p then fin else bad) := by
    intro k
    induction k with
    | zero =>
      intro _
      rw [Nat.sub_zero, List.drop_length]
      exact run_out he
    | succ k ih =>
      intro hk
      have hlt : l.length - (k + 1) < l.length := by omega
      have h1 := h _ _ (List.getElem?_eq_getElem hlt)
      have e1 : l.length - (k + 1) + 1 = l.length - k := by omega
      rw [List.drop_eq_getElem_cons hlt, List.all_cons, e1]
      cases hp : p l[l.length - (k + 1)] with
      | false =>
        rw [hp] at h1
        rw [run_out h1]
        rfl
      | true =>
        rw [hp] at h1
        rw [run_go h1, e1, ih (by omega)]
        rfl
  have h0 := key l.length (Nat.le_refl _)
  simpa using h0
end Go.Av

namespace Go.Av
open Go

section
variable {X : Cx} {N : Nat} {σ σ' : Hp} {T T' : Tm} {Q : Exit → Hp → Tm → Prop} {ops : Array Oper} {k n' : Nat} {K : Tm → Prop} {o : Oper}

theorem ok_wrapadd {t t' : Nat} {x y : Operand} {ki : IntKind} {a b : Int} (ho : o.op = .binOp .add t x y t') (hx : evO X T x = some (.cell (.c (.int ki a)))) (hy : evO X T y = some (.cell (.c (.int ki b)))) : Quiet X o σ T (.cell (.c (.int ki (ki.wrap (a + b))))) := by
  refine quiet_of_run fun w G m ρ _ hρ => ?_
  have hvx : ρ x = .int ki a := hρ x (by simp [ho, Op.operands]) _ hx
  have hvy : ρ y = .int ki b := hρ y (by simp [ho, Op.operands]) _ hy
  refine ⟨.int ki (ki.wrap (a + b)), ?_, rfl⟩
  simp [execOp, ho, hvx, hvy, eqGuard_int, binOp, Op.intArith]

def atAdd (X : Cx) (N : Nat) (ops : Array Oper) (k : Nat) (T : Tm) : Option (Option Tmp × IntKind × Int × Int) :=
  match ops[k]? with
  | some o =>
    match o.op with
    | .binOp .add _ x y _ =>
      match evO X T x, evO X T y with
      | some (.cell (.c (.int ki a))), some (.cell (.c (.int kj b))) => if ki = kj then (bif yes N ops T o then some (o.dst, ki, a, b) else none) else none
      | _, _ => none
    | _ => none
  | none => none
theorem atAdd_ok {d : Option Tmp} {ki : IntKind} {a b : Int} (h : atAdd X N ops k T = some (d, ki, a, b)) : ∃ o, ops[k]? = some o ∧ wantedA ops T o = some true ∧ fitD N o.dst = true ∧ o.dst = d ∧ Quiet X o σ T (.cell (.c (.int ki (ki.wrap (a + b))))) := by
  unfold atAdd at h
  split at h
  case h_2 => cases h
  rename_i o ho
  split at h
  case h_2 => cases h
  rename_i t x y t' hop
  split at h
  case h_2 => cases h
  rename_i ki' a' kj b' hx hy
  split at h
  case isFalse => cases h
  rename_i hk
  subst hk
  cases hc : yes N ops T o with
  | false => rw [hc] at h; cases h
  | true =>
    rw [hc] at h
    simp only [cond_true, Option.some.injEq, Prod.mk.injEq] at h
    obtain ⟨rfl, rfl, rfl, rfl⟩ := h
    obtain ⟨h1, h2⟩ := yes_ok hc
    exact ⟨o, ho, h1, h2, rfl, ok_wrapadd hop hx hy⟩
theorem WO_wrapadd {d : Option Tmp} {ki : IntKind} {a b : Int} (h : atAdd X N ops k T = some (d, ki, a, b)) (next : WO X N ops (k + 1) σ (put T d (.cell (.c (.int ki (ki.wrap (a + b)))))) Q) : WO X N ops k σ T Q := by
  obtain ⟨o, h1, h2, h3, rfl, h5⟩ := atAdd_ok (σ := σ) h
  exact WO_eff h1 h2 h3 h5.eff next
theorem WQ_wrapadd {d : Option Tmp} {ki : IntKind} {a b : Int} (h : atAdd X N ops k T = some (d, ki, a, b)) (next : WQ X N ops σ K n' (k + 1) (put T d (.cell (.c (.int ki (ki.wrap (a + b))))))) : WQ X N ops σ K (n' + 1) k T := by
  obtain ⟨o, h1, h2, h3, rfl, h5⟩ := atAdd_ok (σ := σ) h
  exact ⟨o, h1, .inl ⟨h2, h3, _, h5, next⟩⟩
end
end Go.Av

namespace Go.Av
open Go

def scan {α σ β : Type} (f : σ → α → σ ⊕ β) : List α → σ → σ ⊕ β
  | [], x => .inl x
  | a :: l, x => match f x a with | .inl y => scan f l y | .inr b => .inr b

theorem scan_inl {α σ β : Type} (g : σ → α → σ) : ∀ (l : List α) (x : σ), scan (fun x a => (.inl (g x a) : σ ⊕ β)) l x = .inl (l.foldl g x)
  | [], _ => rfl
  | a :: l, x => scan_inl g l (g x a)

theorem run_scan_from {s β α σ : Type} {step : s → Option (s ⊕ β)} (P : Nat → σ → Prop) (f : σ → α → σ ⊕ β) (st : Nat → σ → s) : ∀ (l : List α) (k : Nat) (x0 : σ), P k x0 →
    (∀ i a x, l[i]? = some a → P (k + i) x → step (st (k + i) x) = some (match f x a with | .inl y => .inl (st (k + i + 1) y) | .inr b => .inr b) ∧ ∀ y, f x a = .inl y → P (k + i + 1) y) →
    (whole.run step (st k x0) = match scan f l x0 with | .inl y => whole.run step (st (k + l.length) y) | .inr b => some b) ∧ ∀ y, scan f l x0 = .inl y → P (k + l.length) y
  | [], k, x0, h0, _ => ⟨rfl, fun y hy => by obtain rfl := Sum.inl.inj hy; exact h0⟩
  | a :: l, k, x0, h0, h => by
    obtain ⟨h1, h2⟩ := h 0 a x0 rfl h0
    simp only [Nat.add_zero] at h1 h2
    have e : k + (a :: l).length = k + 1 + l.length := by simp only [List.length_cons]; omega
    rw [e]
    unfold scan
    cases hf : f x0 a with
    | inr b =>
      rw [hf] at h1
      exact ⟨run_out h1, fun y hy => by cases hy⟩
    | inl y =>
      rw [hf] at h1
      have ih := run_scan_from P f st l (k + 1) y (h2 y hf) (fun i b x hi hx => by
        have e2 : k + 1 + i = k + (i + 1) := by omega
        rw [e2] at hx ⊢
        exact h (i + 1) b x (by simpa using hi) hx)
      exact ⟨(run_go h1).trans ih.1, ih.2⟩

/-- a loop over a list with a state, an invariant and an early end -/
theorem run_scan {s β α σ : Type} {step : s → Option (s ⊕ β)} (l : List α) (P : Nat → σ → Prop) (f : σ → α → σ ⊕ β) (st : Nat → σ → s) {x0 : σ} (h0 : P 0 x0)
    (h : ∀ i a x, l[i]? = some a → P i x → step (st i x) = some (match f x a with | .inl y => .inl (st (i + 1) y) | .inr b => .inr b) ∧ ∀ y, f x a = .inl y → P (i + 1) y) :
    (whole.run step (st 0 x0) = match scan f l x0 with | .inl y => whole.run step (st l.length y) | .inr b => some b) ∧ ∀ y, scan f l x0 = .inl y → P l.length y := by
  have := run_scan_from P f st l 0 x0 h0 (fun i a x hi hx => by simpa only [Nat.zero_add] using h i a x hi (by simpa only [Nat.zero_add] using hx))
  simpa only [Nat.zero_add] using this

theorem run_fold {s β α σ : Type} {step : s → Option (s ⊕ β)} (l : List α) (P : Nat → σ → Prop) (g : σ → α → σ) (st : Nat → σ → s) {x0 : σ} {b : β} (h0 : P 0 x0)
    (h : ∀ i a x, l[i]? = some a → P i x → step (st i x) = some (.inl (st (i + 1) (g x a))) ∧ P (i + 1) (g x a))
    (he : P l.length (l.foldl g x0) → step (st l.length (l.foldl g x0)) = some (.inr b)) : whole.run step (st 0 x0) = some b ∧ P l.length (l.foldl g x0) := by
  have := run_scan (β := β) l P (fun x a => .inl (g x a)) st h0 (fun i a x hi hx => ⟨(h i a x hi hx).1, fun y hy => by obtain rfl := Sum.inl.inj hy; exact (h i a x hi hx).2⟩)
  rw [scan_inl] at this
  have hp := this.2 _ rfl
  exact ⟨this.1.trans (run_out (he hp)), hp⟩

/-- a loop that ends at the first element that is met -/
theorem run_find {s β α : Type} {step : s → Option (s ⊕ β)} (l : List α) (p : α → Bool) (st : Nat → s) (out : Nat → β) {fin : β}
    (h : ∀ i x, l[i]? = some x → step (st i) = some (bif p x then .inr (out i) else .inl (st (i + 1)))) (he : step (st l.length) = some (.inr fin)) :
    whole.run step (st 0) = some (match l.findIdx? p with | some i => out i | none => fin) := by
  have := run_scan (β := β) l (fun i x => x = i) (fun (x : Nat) a => bif p a then .inr (out x) else .inl (x + 1)) (fun i _ => st i) (x0 := 0) rfl (fun i a x hi hx => by
    subst hx
    have h1 := h x a hi
    cases hp : p a with
    | true => rw [hp] at h1; exact ⟨h1, fun y hy => by cases hy⟩
    | false => rw [hp] at h1; exact ⟨h1, fun y hy => by obtain rfl := Sum.inl.inj hy; rfl⟩)
  rw [this.1]
  have key : ∀ (l : List α) (k : Nat), scan (fun (x : Nat) a => (bif p a then .inr (out x) else .inl (x + 1) : Nat ⊕ β)) l k = match l.findIdx? p with | some i => .inr (out (k + i)) | none => .inl (k + l.length) := by
    intro l
    induction l with
    | nil => intro k; rfl
    | cons a l ih =>
      intro k
      unfold scan
      rw [List.findIdx?_cons]
      cases hp : p a with
      | true => rfl
      | false =>
        simp only [cond_false]
        rw [ih (k + 1)]
        cases l.findIdx? p with
        | none => show Sum.inl (k + 1 + l.length) = Sum.inl (k + (l.length + 1)); congr 1; omega
        | some i => show Sum.inr (out (k + 1 + i)) = Sum.inr (out (k + (i + 1))); congr 2; omega
  rw [key l 0]
  cases l.findIdx? p with
  | none => exact run_out he
  | some i => simp

/-! not by rfl: the kernel shall not unfold the other side -/
theorem b_some {α β : Type} (a : α) (f : α → Option β) : (some a).bind f = f a := by
  cases h : f a with
  | none => rw [← h]; rfl
  | some b => rw [← h]; rfl
theorem c_true {α : Type} (x y : α) : (bif true then x else y) = x := by
  have h : ∀ b : Bool, b = true → (bif b then x else y) = x := fun b hb => by cases b with | true => rfl | false => cases hb
  exact h true rfl
theorem c_false {α : Type} (x y : α) : (bif false then x else y) = y := by
  have h : ∀ b : Bool, b = false → (bif b then x else y) = y := fun b hb => by cases b with | false => rfl | true => cases hb
  exact h false rfl
theorem cond_some {α : Type} (b : Bool) (x y : α) : (bif b then some x else some y) = some (bif b then x else y) := by cases b <;> rfl
theorem ck_t {β : Type} {p : Prop} [Decidable p] {f : Unit → Option β} (h : p) : (ck p).bind f = f () := by
  unfold ck; rw [if_pos h]; rfl
theorem cond_or (b c : Bool) : (bif b then true else c) = (b || c) := by cases b <;> rfl
theorem cond_and (b c : Bool) : (bif b then c else false) = (b && c) := by cases b <;> rfl
theorem getD_of {α : Type} {l : List α} {i : Nat} {x d : α} (h : l[i]? = some x) : l.getD i d = x := by rw [List.getD_eq_getElem?_getD, h]; rfl
theorem lt_of {α : Type} {l : List α} {i : Nat} {x : α} (h : l[i]? = some x) : i < l.length := (List.getElem?_eq_some_iff.1 h).1
theorem mem_of {α : Type} {l : List α} {i : Nat} {x : α} (h : l[i]? = some x) : x ∈ l := List.mem_of_getElem? h
theorem any_findIdx {α : Type} (l : List α) (p : α → Bool) : l.any p = (l.findIdx? p).isSome := by
  induction l with
  | nil => rfl
  | cons a l ih =>
    rw [List.any_cons, List.findIdx?_cons, ih]
    cases p a with
    | true => rfl
    | false => cases l.findIdx? p <;> rfl
end Go.Av


/- Abstract values over the worlds of the model: rules by which a function is walked; plain lemmas. -/
import Derived.Test.YtkbpafipbhaknaaDoorQ4A3
import Derived.WalkKit
import Derived.ProofKit
import Derived.OpenShut
import Derived.SizedLaws
import Derived.Carry
namespace Go.Av
open Go Go.RowKit Go.ChangeShapes

def GW (w : World) : GM := fun b => match w.heap[b]? with | some (.cells arr _ _) => some arr | _ => none

theorem GW_some {w : World} {b : Nat} {arr : Array Value} (h : GW w b = some arr) : ∃ t fr, w.heap[b]? = some (.cells arr t fr) := by
  unfold GW at h
  split at h
  · rename_i a t fr hb
    obtain rfl := Option.some.inj h
    exact ⟨t, fr, hb⟩
  · cases h

theorem cell_at {w : World} {a : Addr} {m : Nat} {u : Value} (h : w.cell? (a.add m) = some u) : ∃ arr, GW w a.block = some arr ∧ arr[a.off + m]? = some u := by
  have hb : (a.add m).block = a.block := by unfold Addr.add; split <;> rfl
  have ho : (a.add m).off = a.off + m := by unfold Addr.add; split <;> simp_all
  unfold World.cell? at h
  rw [hb, ho] at h
  unfold GW
  split at h
  · rename_i c t fr hc
    rw [hc]
    split at h
    · cases h
    · exact ⟨c, rfl, h⟩
  · cases h
theorem spot_at {w : World} {a : Addr} {u : Value} (h : w.cell? (a.add 0) = some u) : a.spot = none := by
  have : a.add 0 = a := by unfold Addr.add; simp
  rw [this] at h
  unfold World.cell? at h
  split at h
  · split at h
    · cases h
    · rename_i hs; cases hx : a.spot <;> simp_all
  · cases h

theorem choose_list {α : Type} (R : Nat → α → Prop) : ∀ n, (∀ i, i < n → ∃ x, R i x) → ∃ l : List α, l.length = n ∧ ∀ i x, l[i]? = some x → R i x
  | 0, _ => ⟨[], rfl, fun i x h => by simp at h⟩
  | n + 1, h => by
    obtain ⟨l, hl, hr⟩ := choose_list R n (fun i hi => h i (by omega))
    obtain ⟨x, hx⟩ := h n (by omega)
    refine ⟨l ++ [x], by simp [hl], fun i y hy => ?_⟩
    rcases Nat.lt_trichotomy i n with hi | rfl | hi
    · rw [List.getElem?_append_left (by omega)] at hy; exact hr i y hy
    · rw [List.getElem?_append_right (by omega), hl, Nat.sub_self] at hy
      obtain rfl : x = y := by simpa using hy
      exact hx
    · rw [List.getElem?_eq_none (by simp; omega)] at hy; cases hy

def wts {H : Type} (P : Program) (t : TypeId) (d : DataW H) : Prop := ∀ n ∈ d.weights P t, n ≤ reachBytes

/-- whatever reads at this type is told by x, with Q x -/
def Rd {α : Type} (P : Program) (t : TypeId) (E : En α) (Q : α → Prop) : Prop :=
  ∀ (H : Type) (enc : TypeId × Value → H) (w : World) (fuel : Nat) (cs : List Value) (d : DataW H) (ps : List MemPlace),
    DataW.trod enc P w 0 (fun _ => true) true fuel t cs = some (d, ps) → wts P t d →
    ∃ x : α, Q x ∧ cs.length = E.sz ∧ ∀ j, j < E.sz → ∃ u, cs[j]? = some u ∧ VRC (GW w) ((E.row x).getD j .jk) u

section
variable {P : Program} {t : TypeId} {α β : Type}

theorem inR_of_wf {k : IntKind} {n : Int} (h : (Lit.int k n).wf = true) : inR k n := by
  cases k
  · exact bounds_i8 h
  · exact bounds_i16 h
  · exact bounds_i32 h
  · exact bounds_i64 h
  · exact bounds_u8 h
  · exact bounds_u16 h
  · exact bounds_u32 h
  · exact bounds_u64 h

theorem Rd_int (k : IntKind) (E : En Int) (hu : P.underlying t = some (.int k)) (hz : E.sz = 1) (hr : ∀ x, E.row x = [.int k x]) : Rd P t E (inR k) := by
  intro H enc w fuel cs d ps h _
  obtain ⟨n, rfl, hx, hw⟩ := DataW.trod_int hu h
  refine ⟨n, inR_of_wf hw, by rw [hz]; rfl, fun j hj => ?_⟩
  rw [hz] at hj
  obtain rfl : j = 0 := by omega
  exact ⟨_, rfl, by rw [hr]; rfl⟩
theorem Rd_bool (E : En Bool) (hu : P.underlying t = some .bool) (hz : E.sz = 1) (hr : ∀ x, E.row x = [.bool x]) : Rd P t E (fun _ => True) := by
  intro H enc w fuel cs d ps h _
  obtain ⟨n, rfl, hx⟩ := DataW.trod_bool hu h
  refine ⟨n, trivial, by rw [hz]; rfl, fun j hj => ?_⟩
  rw [hz] at hj
  obtain rfl : j = 0 := by omega
  exact ⟨_, rfl, by rw [hr]; rfl⟩
theorem Rd_str (E : En ByteArray) (hu : P.underlying t = some .string) (hz : E.sz = 1) (hr : ∀ x, E.row x = [.str x]) : Rd P t E (fun s => s.size ≤ reachBytes) := by
  intro H enc w fuel cs d ps h hw
  obtain ⟨n, rfl, hx, _⟩ := DataW.trod_string hu h
  obtain ⟨rfl, rfl⟩ := Prod.mk.inj hx
  refine ⟨n, by simpa using hw _ (by simp [DataW.weights]), by rw [hz]; rfl, fun j hj => ?_⟩
  rw [hz] at hj
  obtain rfl : j = 0 := by omega
  exact ⟨_, rfl, by rw [hr]; rfl⟩

theorem weights_all {H : Type} (e : TypeId) : ∀ (ds : List (DataW H)) (d : DataW H), d ∈ ds → ∀ n ∈ d.weights P e, n ∈ DataW.weightsAll P e ds
  | d0 :: ds, d, hd, n, hn => by
    simp only [DataW.weightsAll, List.mem_append]
    rcases List.mem_cons.1 hd with rfl | hd
    · exact .inl hn
    · exact .inr (weights_all e ds d hd n hn)
theorem reach_lt : reachBytes ≤ 140737488355328 := by decide

theorem Rd_slice {e : TypeId} {B : Nat} {E : En α} {Q : α → Prop} (he : Rd P e E Q) (EL : En (List α)) (hu : P.underlying t = some (.slice e)) (hc : P.cellsOf e = E.sz) (hb : P.bytesOf e = B) (hB : 0 < B) (hs : 0 < E.sz) (hz : EL.sz = 1) (hr : ∀ x, EL.row x = [slC E x]) :
    Rd P t EL (fun l => l.length * B ≤ reachBytes ∧ ∀ x ∈ l, Q x) := by
  intro H enc w fuel cs d ps h hw
  rcases DataW.trod_slice hu h with ⟨rfl, hx⟩ | ⟨a, len, cap, elems, rest, n, _, rfl, hx, _, hlc, _, hlen, hel, _⟩
  · refine ⟨[], ⟨by simp, fun x hx => by cases hx⟩, by rw [hz]; rfl, fun j hj => ?_⟩
    rw [hz] at hj
    obtain rfl : j = 0 := by omega
    refine ⟨_, rfl, ?_⟩
    rw [hr]
    exact ⟨none, 0, rfl, by simp, by simp, .inl rfl⟩
  · obtain ⟨rfl, rfl⟩ := Prod.mk.inj hx
    have hwt : (elems.length + rest.length) * B ≤ reachBytes := by
      have := hw ((elems.length + rest.length) * P.bytesOf e) (by simp [DataW.weights, hu])
      rw [hb] at this; exact this
    have hlB : len * B ≤ reachBytes := by
      refine Nat.le_trans (Nat.mul_le_mul_right B (by omega)) hwt
    have key : ∀ i, i < len → ∃ x, Q x ∧ ∀ j, j < E.sz → ∃ u, w.cell? (a.add (i * E.sz + j)) = some u ∧ VRC (GW w) ((E.row x).getD j .jk) u := by
      intro i hi
      have h1 := hel i hi
      have hi' : i < elems.length := by omega
      rw [List.getElem?_eq_getElem hi', hc, Option.bind_eq_some_iff] at h1
      obtain ⟨cs', hcs, hy⟩ := h1
      obtain ⟨x, hq, hl, hj⟩ := he H enc w n cs' elems[i].1 elems[i].2 hy (fun m hm => hw m (by
        simp only [DataW.weights, hu, List.mem_cons, List.mem_append]
        exact .inr (.inl (weights_all e _ _ (List.mem_map.2 ⟨elems[i], List.getElem_mem hi', rfl⟩) m hm))))
      refine ⟨x, hq, fun j hj' => ?_⟩
      obtain ⟨u, h2, h3⟩ := hj j hj'
      refine ⟨u, ?_, h3⟩
      have h4 := (World.cells?_some hcs).2.2 j hj'
      rw [h2] at h4
      rw [← h4]
      congr 1
      unfold Addr.add
      by_cases h0 : i * E.sz = 0
      · simp [h0]
      · by_cases hj0 : j = 0
        · subst hj0; simp
        · rw [if_neg h0, if_neg hj0, if_neg (by omega)]
          simp [Nat.add_assoc]
    obtain ⟨l, hl, hR⟩ := choose_list _ len key
    refine ⟨l, ⟨by rw [hl]; exact hlB, fun x hx => ?_⟩, by rw [hz]; rfl, fun j hj => ?_⟩
    · obtain ⟨i, hi⟩ := List.getElem?_of_mem hx
      exact (hR i x hi).1
    · rw [hz] at hj
      obtain rfl : j = 0 := by omega
      refine ⟨_, rfl, ?_⟩
      rw [hr]
      have hlen2 : len ≤ 140737488355328 := by
        have := reach_lt
        have h5 : len * 1 ≤ len * B := Nat.mul_le_mul_left len hB
        omega
      show VRC (GW w) (slC E l) _
      refine ⟨some a, cap, by rw [hl], by rw [hl]; exact hlen2, by rw [hl]; exact hlc, ?_⟩
      rw [hl]
      rcases Nat.eq_zero_or_pos len with h0 | h0
      · exact .inl h0
      · have hx0 := List.getElem?_eq_getElem (l := l) (i := 0) (by omega)
        obtain ⟨_, h6⟩ := hR 0 _ hx0
        obtain ⟨u0, hu0, _⟩ := h6 0 hs
        have hsp : a.spot = none := spot_at (by simpa using hu0)
        obtain ⟨arr, harr, _⟩ := cell_at hu0
        refine .inr ⟨a.block, a.off, arr, by rw [show a = ⟨a.block, a.off, none⟩ by cases a; simp_all], harr, fun i hi j hj => ?_⟩
        have hxi := List.getElem?_eq_getElem (l := l) (i := i) (by omega)
        obtain ⟨_, h7⟩ := hR i _ hxi
        obtain ⟨u, h8, h9⟩ := h7 j hj
        obtain ⟨arr', harr', hget⟩ := cell_at h8
        rw [harr] at harr'
        obtain rfl := Option.some.inj harr'
        exact ⟨u, hget, by show VRC (GW w) ((E.row (l.getD i E.d)).getD j .jk) u; rw [getD_of hxi]; exact h9⟩

/-- the fields of a struct, one behind the other -/
def RdFs (P : Program) (fs : List Field) (o sz : Nat) (row : β → List C) (Q : β → Prop) : Prop :=
  ∀ (H : Type) (enc : TypeId × Value → H) (w : World) (n : Nat) (cs : List Value) (xs : List (DataW H × List MemPlace)), xs.length = fs.length →
    (∀ (i : Nat) (f : Field) x, fs[i]? = some f → xs[i]? = some x → DataW.trod enc P w 0 (fun _ => true) true n f.type ((cs.drop f.offset).take (P.cellsOf f.type)) = some x ∧ wts P f.type x.1) →
    ∃ x : β, Q x ∧ (row x).length = sz ∧ ∀ j, j < sz → ∃ u, cs[o + j]? = some u ∧ VRC (GW w) ((row x).getD j .jk) u

theorem RdFs_one {f : Field} {E : En α} {Q : α → Prop} (h : Rd P f.type E Q) (hc : P.cellsOf f.type = E.sz) (hl : ∀ x, (E.row x).length = E.sz) : RdFs P [f] f.offset E.sz E.row Q := by
  intro H enc w n cs xs hxs hall
  match xs, hxs with
  | [x], _ =>
    obtain ⟨h1, h2⟩ := hall 0 f x rfl rfl
    obtain ⟨y, hq, hl', hj⟩ := h H enc w n _ x.1 x.2 h1 h2
    refine ⟨y, hq, hl y, fun j hj' => ?_⟩
    obtain ⟨u, h3, h4⟩ := hj j hj'
    refine ⟨u, ?_, h4⟩
    rw [hc, List.getElem?_take, if_pos hj', List.getElem?_drop] at h3
    exact h3

theorem RdFs_cons {f : Field} {fs : List Field} {o sz : Nat} {E : En α} {Q : α → Prop} {row : β → List C} {Q' : β → Prop} (h : Rd P f.type E Q) (hc : P.cellsOf f.type = E.sz) (hl : ∀ x, (E.row x).length = E.sz)
    (h' : RdFs P fs o sz row Q') (ho : o = f.offset + E.sz) : RdFs P (f :: fs) f.offset (E.sz + sz) (fun x : α × β => E.row x.1 ++ row x.2) (fun x => Q x.1 ∧ Q' x.2) := by
  intro H enc w n cs xs hxs hall
  match xs, hxs with
  | x :: xs, hxs =>
    obtain ⟨h1, h2⟩ := hall 0 f x rfl rfl
    obtain ⟨y, hq, hl', hj⟩ := h H enc w n _ x.1 x.2 h1 h2
    obtain ⟨z, hq', hl'', hj'⟩ := h' H enc w n cs xs (by simpa using hxs) (fun i (g : Field) v hg hv => hall (i + 1) g v (by simpa using hg) (by simpa using hv))
    refine ⟨(y, z), ⟨hq, hq'⟩, by simp [hl, hl''], fun j hjt => ?_⟩
    rcases Nat.lt_or_ge j E.sz with hlt | hge
    · obtain ⟨u, h3, h4⟩ := hj j hlt
      refine ⟨u, ?_, ?_⟩
      · rw [hc, List.getElem?_take, if_pos hlt, List.getElem?_drop] at h3
        exact h3
      · show VRC _ ((E.row y ++ row z).getD j .jk) u
        rw [getD_append_lt (by rw [hl]; exact hlt)]
        exact h4
    · obtain ⟨u, h3, h4⟩ := hj' (j - E.sz) (by omega)
      refine ⟨u, ?_, ?_⟩
      · rw [ho] at h3
        rw [show f.offset + j = f.offset + E.sz + (j - E.sz) by omega]
        exact h3
      · show VRC _ ((E.row y ++ row z).getD j .jk) u
        rw [getD_append_ge (by rw [hl]; exact hge), hl]
        exact h4

theorem fs_one {f : Field} {t' : TypeId} {E : En α} {Q : α → Prop} {o sz : Nat} {row : α → List C} (h : Rd P t' E Q) (hc : P.cellsOf t' = E.sz) (hl : ∀ x, (E.row x).length = E.sz) (ht : f.type = t') (ho : f.offset = o) (hz : sz = E.sz) (hr : ∀ x, row x = E.row x) : RdFs P [f] o sz row Q := by
  subst ht; subst ho; subst hz
  obtain rfl : row = E.row := funext hr
  exact RdFs_one h hc hl
theorem fs_cons {f : Field} {fs : List Field} {t' : TypeId} {o o' sz sz' : Nat} {E : En α} {Q : α → Prop} {row : β → List C} {row' : α × β → List C} {Q' : β → Prop} (h : Rd P t' E Q) (hc : P.cellsOf t' = E.sz) (hl : ∀ x, (E.row x).length = E.sz)
    (h' : RdFs P fs o sz row Q') (ht : f.type = t') (ho' : f.offset = o') (ho : o = f.offset + E.sz) (hz : sz' = E.sz + sz) (hr : ∀ x, row' x = E.row x.1 ++ row x.2) : RdFs P (f :: fs) o' sz' row' (fun x => Q x.1 ∧ Q' x.2) := by
  subst ht; subst ho'; subst hz
  obtain rfl : row' = fun x => E.row x.1 ++ row x.2 := funext hr
  exact RdFs_cons h hc hl h' ho
theorem weights_each {H : Type} : ∀ (fs : List Field) (ds : List (DataW H)) (i : Nat) (f : Field) (d : DataW H), fs[i]? = some f → ds[i]? = some d → ∀ n ∈ d.weights P f.type, n ∈ DataW.weightsEach P (fs.map (·.type)) ds
  | [], _, _, _, _, h, _, _, _ => by simp at h
  | _ :: _, [], _, _, _, _, h, _, _ => by simp at h
  | g :: fs, e :: ds, 0, f, d, hf, hd, n, hn => by
    obtain rfl : g = f := by simpa using hf
    obtain rfl : e = d := by simpa using hd
    simp only [List.map_cons, DataW.weightsEach, List.mem_append]
    exact .inl hn
  | g :: fs, e :: ds, i + 1, f, d, hf, hd, n, hn => by
    simp only [List.map_cons, DataW.weightsEach, List.mem_append]
    exact .inr (weights_each fs ds i f d (by simpa using hf) (by simpa using hd) n hn)

theorem Rd_struct {fs : Array Field} {E : En α} {Q Q' : α → Prop} (hu : P.underlying t = some (.struct fs)) (hc : P.cellsOf t = E.sz) {l : List Field} (hl : fs.toList = l) (h : RdFs P l 0 E.sz E.row Q') (hQ : ∀ x, Q' x → Q x) : Rd P t E Q := by
  subst hl
  intro H enc w fuel cs d ps hd hw
  obtain ⟨xs, n, _, hx, hlen, hxl, hall⟩ := DataW.trod_struct hu hd
  obtain ⟨rfl, rfl⟩ := Prod.mk.inj hx
  obtain ⟨x, hq, _, hj⟩ := h H enc w n cs xs (by simpa using hxl) (fun i (f : Field) x hf hx => by
    refine ⟨by rw [← hx]; exact hall i f (by simpa using hf), fun m hm => hw m ?_⟩
    simp only [DataW.weights, hu]
    exact weights_each fs.toList (xs.map (·.1)) i f x.1 hf (by simp [hx]) m hm)
  exact ⟨x, hQ x hq, by rw [hlen, hc], fun j hj' => by simpa using hj j hj'⟩
end

section
variable {P : Program} {t : TypeId} {α : Type} {H : Type} {enc : TypeId × Value → H} {w : World}

/-- an argument of one cell -/
theorem arg_cell {E : En α} {Q : α → Prop} (h : Rd P t E Q) (hz : E.sz = 1) {b0 : Nat} {v : Value} {d : DataW H} {ps : List MemPlace} {c : α → C} (hr : ∀ x, E.row x = [c x]) (hna : ∀ fs, P.underlying t ≠ some (.struct fs)) (hna2 : ∀ n e, P.underlying t ≠ some (.array n e))
    (hval : Value.okWide P w .any b0 t v) (hd : DataW.Trod enc P w 0 (fun _ => true) true t v d ps) (hw : wts P t d) : ∃ x, Q x ∧ VRV (GW w) m0 (.cell (.c (c x))) v := by
  obtain ⟨fuel, hd⟩ := hd
  obtain ⟨x, hq, hl, hj⟩ := h H enc w fuel _ d ps hd hw
  obtain ⟨u, hu, hv⟩ := hj 0 (by omega)
  refine ⟨x, hq, ?_⟩
  rw [hr] at hv
  have hv : VRC (GW w) (c x) u := hv
  show VRC (GW w) (c x) v
  have : v.cells = #[v] := by
    unfold Value.okWide at hval
    split at hval
    · rename_i fs hf; exact absurd hf (hna fs)
    · rename_i n e hf; exact absurd hf (hna2 n e)
    · cases v <;> first | rfl | (exfalso; unfold Cell.okWide at hval; split at hval <;> simp_all [Cell.ok])
  rw [this] at hu
  obtain rfl : v = u := by simpa using hu
  exact hv

/-- an argument of many cells -/
theorem arg_agg {E : En α} {Q : α → Prop} (h : Rd P t E Q) (hl : ∀ x, (E.row x).length = E.sz) {b0 : Nat} {v : Value} {d : DataW H} {ps : List MemPlace} (ha : (∃ fs, P.underlying t = some (.struct fs)) ∨ ∃ n e, P.underlying t = some (.array n e))
    (hval : Value.okWide P w .any b0 t v) (hd : DataW.Trod enc P w 0 (fun _ => true) true t v d ps) (hw : wts P t d) : ∃ x, Q x ∧ VRV (GW w) m0 (.agg ((E.row x).map .c)) v := by
  obtain ⟨fuel, hd⟩ := hd
  obtain ⟨x, hq, hlen, hj⟩ := h H enc w fuel _ d ps hd hw
  have : ∃ cs, v = .agg cs := by
    unfold Value.okWide at hval
    rcases ha with ⟨fs, hf⟩ | ⟨n, e, hf⟩
    · rw [hf] at hval; obtain ⟨cs, rfl, _⟩ := hval; exact ⟨cs, rfl⟩
    · rw [hf] at hval; obtain ⟨cs, rfl, _⟩ := hval; exact ⟨cs, rfl⟩
  obtain ⟨cs, rfl⟩ := this
  refine ⟨x, hq, cs, rfl, by simpa [hl, Value.cells] using hlen, fun i a hi => ?_⟩
  rw [List.getElem?_map, Option.map_eq_some_iff] at hi
  obtain ⟨c, hc, rfl⟩ := hi
  have hi' : i < E.sz := by rw [← hl x]; exact lt_of hc
  obtain ⟨u, h1, h2⟩ := hj i hi'
  refine ⟨u, by simpa [Value.cells] using h1, ?_⟩
  rw [getD_of hc] at h2
  exact h2
end

theorem St_GW {X : Cx} {w : World} (hg : ∀ g c, X.Γ g = some c → VRC (GW w) c (.pointer (some ⟨g, 0, none⟩))) : St X w (GW w) m0 [] :=
  ⟨fun b arr h => GW_some h, hg, fun i B h => by simp at h, fun i j B B' v v' _ h => by simp at h, fun i B u h => by simp at h, fun i u _ => rfl⟩
theorem below_of_grow {w w' : World} {G G' : GM} (h : Grow w G w' G') : Below w.heap.size w w' := ⟨h.os, h.tape, h.output, h.size, h.frame⟩
end Go.Av


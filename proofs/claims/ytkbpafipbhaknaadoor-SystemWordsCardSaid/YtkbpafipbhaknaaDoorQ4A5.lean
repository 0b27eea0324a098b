/- Abstract values over the worlds of the model: rules by which a function is walked; plain lemmas. -/
import Derived.Test.YtkbpafipbhaknaaDoorQ4A4
import Derived.Deep.DeepHandedRow
import Derived.Deep.DeepWitnessRowRef
import Derived.Lay
import Derived.MakeChecks
namespace Go.Av
open Go Go.RowKit Go.ChangeShapes

section
variable {P : Program} {H : Type} {enc : TypeId × Value → H}

theorem VRs_nil {G : GM} {m : OM} : VRs G m [] [] := ⟨rfl, fun i x h => by simp at h⟩
theorem VRs_cons {G : GM} {m : OM} {x : V} {v : Value} {xs : List V} {vs : List Value} (h : VRV G m x v) (h' : VRs G m xs vs) : VRs G m (x :: xs) (v :: vs) := by
  refine ⟨by simp [h'.1], fun i y hy => ?_⟩
  cases i with
  | zero => obtain rfl : x = y := by simpa using hy
            exact ⟨v, rfl, h⟩
  | succ i => simpa using h'.2 i y (by simpa using hy)

theorem trodAll_stays (hl : laidOutB P = true) {W W' : World} {sp : Nat → Bool} : ∀ (ts : List TypeId) (vs : List Value) (ds : List (DataW H)) (ps : List MemPlace), (ts.all fun t => P.readableRec t && decide (t < P.types.size)) = true →
    DataW.TrodAll enc P W 0 (fun _ => true) true ts vs ds ps → (∀ p ∈ ps, W.sameAt W' p) → (∀ p ∈ ps, sp p.block = true) → DataW.TrodAll enc P W' 0 sp true ts vs ds ps
  | [], [], [], _, _, h, _, _ => h
  | [], _ :: _, _, _, _, h, _, _ => h.elim
  | [], [], _ :: _, _, _, h, _, _ => h.elim
  | _ :: _, [], _, _, _, h, _, _ => h.elim
  | _ :: _, _ :: _, [], _, _, h, _, _ => h.elim
  | t :: ts, v :: vs, d :: ds, ps, hr, ⟨p, q, h1, h2, e⟩, hsame, hsp => by
    subst e
    simp only [List.all_cons, Bool.and_eq_true, decide_eq_true_eq] at hr
    exact ⟨p, q, WideElems.Trod_stays hl hr.1.1 hr.1.2 h1 (fun x hx => hsame x (List.mem_append_left _ hx)) (fun x hx => hsp x (List.mem_append_left _ hx)),
      trodAll_stays hl ts vs ds q hr.2 h2 (fun x hx => hsame x (List.mem_append_right _ hx)) (fun x hx => hsp x (List.mem_append_right _ hx)), rfl⟩

theorem trodAll_len {W : World} {b : Nat} {sp : Nat → Bool} {hd : Bool} : ∀ {ts : List TypeId} {vs : List Value} {ds : List (DataW H)} {ps : List MemPlace}, DataW.TrodAll enc P W b sp hd ts vs ds ps → ds.length = ts.length
  | [], [], [], _, _ => rfl
  | [], _ :: _, _, _, h => h.elim
  | [], [], _ :: _, _, h => h.elim
  | _ :: _, [], _, _, h => h.elim
  | _ :: _, _ :: _, [], _, h => h.elim
  | _ :: _, _ :: _, _ :: _, _, ⟨_, _, _, h2, _⟩ => by simp only [List.length_cons, trodAll_len h2]
/-- what a law's row asks of the call, out of what the law computes -/
theorem contract_of {X : Cx} {f : FuncId} {fn : Func} {s : ChangeSpec} {avs : List V} {W : World} {args : Array Value} {ds gs : List (DataW H)} {before : List MemPlace} {tb : TypeId} {apart fresh handsOn again : Bool}
    (hp : Pure X f avs (.cell (.c (.bool true)))) (hst : St X W (GW W) m0 []) (havs : VRs (GW W) m0 avs args.toList)
    (hl : laidOutB X.P = true) (hr : (fn.params.toList.all fun t => X.P.readableRec t && decide (t < X.P.types.size)) = true)
    (hrt : fn.resultTypes = #[tb]) (hb : X.P.underlying tb = some .bool)
    (hv : s.vars = []) (hs : ∀ (ds : List (DataW H)), ds.length = fn.params.toList.length → s.fn H ds = { results := [.lit (.bool true)], args := ds })
    (hW : DataW.Whole enc X.P fn.params.toList s.vars apart W args.toList ds gs before) :
    Calls X.P f args W fun e W' => ∃ v, e = .returned v ∧ s.post enc X.P fn apart fresh handsOn again W args v W' := by
  have hW' := hW
  obtain ⟨p, q, hA, hV, rfl, hfz, hnd⟩ := hW
  have h1 := hp W (GW W) args.toList hst havs
  rw [Array.toArray_toList] at h1
  refine h1.mono ?_
  rintro e W' ⟨v, G', rfl, hg, hv'⟩
  have hv' : v = .bool true := hv'
  subst hv'
  refine ⟨_, rfl, ?_⟩
  have hbel := below_of_grow hg
  rw [hv] at hV
  have hgs : gs = [] ∧ q = [] := by
    cases gs with
    | nil => exact ⟨rfl, hV⟩
    | cons => exact hV.elim
  obtain ⟨rfl, rfl⟩ := hgs
  have hlen : ds.length = fn.params.toList.length := trodAll_len hA
  have hfn : s.fn H (ds ++ []) = { results := [.lit (.bool true)], args := ds } := by rw [List.append_nil]; exact hs ds hlen
  have hlt : ∀ x ∈ p, x.block < W.heap.size := fun x hx => by simpa using hW'.lt x (List.mem_append_left _ hx)
  have hold : ∀ x ∈ p, (fun b => decide (b < W.heap.size)) x.block = true := fun x hx => by simpa using hlt x hx
  have hargs : ∀ sp : Nat → Bool, (∀ x ∈ p, sp x.block = true) → DataW.TrodAll enc X.P W' 0 sp true fn.params.toList args.toList (s.fn H (ds ++ [])).args p := fun sp hsp => by
    rw [hfn]
    exact trodAll_stays hl _ _ _ _ hr hA (fun x hx => hbel.same (hlt x hx)) hsp
  have hres : ∀ (b : Nat) (sp : Nat → Bool) (hd : Bool), DataW.TrodAll enc X.P W' b sp hd fn.resultTypes.toList ((Value.bool true).resultList fn.resultTypes.size) (s.fn H (ds ++ [])).results [] := fun b sp hd => by
    rw [hfn, hrt]
    exact trodAll_mk1 (shut_bool hb true)
  have hvars : ∀ sp : Nat → Bool, DataW.TrodVars enc X.P W' sp s.vars (s.fn H (ds ++ [])).vars [] := fun sp => by
    rw [hfn, hv]
    exact rfl
  refine ⟨ds, [], p ++ [], [], p, [], hW', hres _ _ _, hargs _ hold, hvars _, hbel.frame _, fun _ => ?_⟩
  refine ⟨ok_one hrt rfl (okWide_bool_mk hb true), (s.fn H (ds ++ [])).results ++ (s.fn H (ds ++ [])).args, (s.fn H (ds ++ [])).vars, ([] ++ p) ++ [], ⟨[] ++ p, [], trodAll_append (hargs _ (fun _ _ => rfl)) (hres _ _ _), hvars _, rfl, ?_, fun ha => by simpa using hnd ha⟩, fun x hx _ => by simpa using hx⟩
  intro b off hx
  have hx' : MemPlace.cell b off ∈ p := by simpa using hx
  rw [hbel.frozen (p := ⟨b, off, none⟩) (hlt _ hx')]
  exact hfz b off (by simpa using hx')
end
end Go.Av

namespace Go.Av
open Go Go.RowKit Go.ChangeShapes

def eU : En Int := ⟨1, fun x => [.int .u64 x], 0⟩
abbrev Rec := Int × Int × Int × Int × List Int
def recS : List Int → C | [] => .nsl | l => slC eU l
def recT {H : Type} : List Int → DataW H | [] => .nil | l => .slice (l.map fun z => .lit (.int .u64 z)) []
def recL (r : Rec) : List C := [.int .u64 r.1, .int .u64 r.2.1, .int .i64 r.2.2.1, .int .i64 r.2.2.2.1, recS r.2.2.2.2]
def recD {H : Type} (r : Rec) : DataW H := .agg [.lit (.int .u64 r.1), .lit (.int .u64 r.2.1), .lit (.int .i64 r.2.2.1), .lit (.int .i64 r.2.2.2.1), recT r.2.2.2.2]

section
variable {P : Program} {H : Type} {enc : TypeId × Value → H} {w : World} {base : Nat} {sp : Nat → Bool} {held : Bool} {ta te tu ti ts : TypeId} {fs : Array Field}

theorem recS_ok (hs : P.underlying ts = some (.slice tu)) (hu : P.underlying tu = some (.int .u64)) (hc : P.cellsOf tu = 1) {n : Nat} {l : List Int} {cs : List Value} {q : List MemPlace}
    (hl : l.length ≤ 1000) (h : DataW.trod enc P w base sp held n ts cs = some (recT l, q)) : ∃ u, cs = [u] ∧ VRC (GW w) (recS l) u := by
  cases l with
  | nil =>
    rcases open_ints hs hu hc h with ⟨rfl, _⟩ | ⟨a, len, cap, zs, _, _, _, _, _, hx, _⟩
    · exact ⟨_, rfl, rfl⟩
    · simp [recT] at hx
  | cons z0 l0 =>
    rcases open_ints hs hu hc h with ⟨_, hx⟩ | ⟨a, len, cap, zs, rfl, _, hlc, _, hzl, hx, hcell, _⟩
    · simp [recT] at hx
    · refine ⟨_, rfl, ?_⟩
      have hx1 := congrArg Prod.fst hx
      simp only [recT, DataW.slice.injEq] at hx1
      obtain ⟨e1, e2⟩ := hx1
      have e1' : (z0 :: l0).map (fun z => (DataW.lit (.int .u64 z) : DataW H)) = (zs.take len).map (fun z => DataW.lit (.int .u64 z)) := e1
      have e3 : z0 :: l0 = zs.take len := by
        have : Function.Injective (fun z : Int => (DataW.lit (.int .u64 z) : DataW H)) := fun a b h => by simpa using h
        exact (List.map_inj_right (fun a b h => this h)).1 e1'
      have hlen : (z0 :: l0).length ≤ len := by rw [e3]; exact List.length_take_le _ _
      have hlen2 : len ≤ zs.length := by rw [hzl]; split <;> omega
      have hle : (z0 :: l0).length = len := by rw [e3, List.length_take]; omega
      have hat : ∀ i, i < (z0 :: l0).length → w.cell? (a.add i) = some (.int .u64 ((z0 :: l0).getD i 0)) := by
        intro i hi
        rw [hcell i (by omega), e3]
        congr 2
        rw [List.getD_eq_getElem?_getD, List.getD_eq_getElem?_getD, List.getElem?_take, if_pos (by omega)]
      obtain ⟨arr, harr, _⟩ := cell_at (hat 0 (by simp))
      have hsp : a.spot = none := spot_at (hat 0 (by simp))
      show VRC (GW w) (slC eU (z0 :: l0)) _
      refine ⟨some a, cap, by rw [hle], by omega, by omega, .inr ⟨a.block, a.off, arr, by rw [show a = ⟨a.block, a.off, none⟩ by cases a; simp_all], harr, fun i hi j hj => ?_⟩⟩
      have hj1 : j < 1 := hj
      obtain rfl : j = 0 := by omega
      obtain ⟨arr', harr', hget⟩ := cell_at (hat i hi)
      rw [harr] at harr'
      obtain rfl := Option.some.inj harr'
      refine ⟨_, ?_, rfl⟩
      show arr[a.off + (i * 1 + 0)]? = some (.int .u64 ((z0 :: l0).getD i 0))
      rw [Nat.mul_one, Nat.add_zero]
      exact hget

theorem rec_ok (he : P.underlying te = some (.struct fs)) (hf : fs.toList.map (fun f => (f.offset, f.type)) = [(0, tu), (1, tu), (2, ti), (3, ti), (4, ts)]) (hce : P.cellsOf te = 5)
    (hs : P.underlying ts = some (.slice tu)) (hu : P.underlying tu = some (.int .u64)) (hi : P.underlying ti = some (.int .i64)) (hc : P.cellsOf tu = 1) (hci : P.cellsOf ti = 1) (hcs : P.cellsOf ts = 1)
    {n : Nat} {r : Rec} {cs : List Value} {q : List MemPlace} (hl : r.2.2.2.2.length ≤ 1000) (h : DataW.trod enc P w base sp held n te cs = some (recD r, q)) : cs.length = 5 ∧ ∀ j, j < 5 → ∃ u, cs[j]? = some u ∧ VRC (GW w) ((recL r).getD j .jk) u := by
  obtain ⟨xs, m, _, hx, hlen, hxl, hall⟩ := DataW.trod_struct he h
  rw [hce] at hlen
  refine ⟨hlen, ?_⟩
  have hx1 : recD r = .agg (xs.map (·.1)) := congrArg Prod.fst hx
  have hfl : fs.size = 5 := by have := congrArg List.length hf; simpa using this
  have key : ∀ (i o : Nat) (t : TypeId) (d : DataW H), (fs.toList.map (fun f => (f.offset, f.type)))[i]? = some (o, t) → (xs.map (·.1))[i]? = some d → P.cellsOf t = 1 → ∃ q', DataW.trod enc P w base sp held m t ((cs.drop o).take 1) = some (d, q') := by
    intro i o t d h1 h2 h3
    rw [List.getElem?_map, Option.map_eq_some_iff] at h1 h2
    obtain ⟨f, hf1, hf2⟩ := h1
    obtain ⟨x, hx2, rfl⟩ := h2
    obtain ⟨rfl, rfl⟩ := Prod.mk.inj hf2
    have := hall i f (by simpa using hf1)
    rw [h3, hx2] at this
    exact ⟨x.2, this⟩
  simp only [recD, DataW.agg.injEq] at hx1
  rw [hf, ← hx1] at key
  have one : ∀ (o : Nat) (u : Value), (cs.drop o).take 1 = [u] → cs[o]? = some u := by
    intro o u h1
    have := congrArg (·[0]?) h1
    simpa [List.getElem?_take, List.getElem?_drop] using this
  intro j hj
  match j, hj with
  | 0, _ =>
    obtain ⟨q', h1⟩ := key 0 0 tu _ rfl rfl hc
    obtain ⟨z, hz, hd, _⟩ := DataW.trod_int hu h1
    obtain ⟨e, _⟩ := Prod.mk.inj hd
    simp only [DataW.lit.injEq, Lit.int.injEq, true_and] at e
    exact ⟨_, one _ _ hz, by rw [← e]; rfl⟩
  | 1, _ =>
    obtain ⟨q', h1⟩ := key 1 1 tu _ rfl rfl hc
    obtain ⟨z, hz, hd, _⟩ := DataW.trod_int hu h1
    obtain ⟨e, _⟩ := Prod.mk.inj hd
    simp only [DataW.lit.injEq, Lit.int.injEq, true_and] at e
    exact ⟨_, one _ _ hz, by rw [← e]; rfl⟩
  | 2, _ =>
    obtain ⟨q', h1⟩ := key 2 2 ti _ rfl rfl hci
    obtain ⟨z, hz, hd, _⟩ := DataW.trod_int hi h1
    obtain ⟨e, _⟩ := Prod.mk.inj hd
    simp only [DataW.lit.injEq, Lit.int.injEq, true_and] at e
    exact ⟨_, one _ _ hz, by rw [← e]; rfl⟩
  | 3, _ =>
    obtain ⟨q', h1⟩ := key 3 3 ti _ rfl rfl hci
    obtain ⟨z, hz, hd, _⟩ := DataW.trod_int hi h1
    obtain ⟨e, _⟩ := Prod.mk.inj hd
    simp only [DataW.lit.injEq, Lit.int.injEq, true_and] at e
    exact ⟨_, one _ _ hz, by rw [← e]; rfl⟩
  | 4, _ =>
    obtain ⟨q', h1⟩ := key 4 4 ts _ rfl rfl hcs
    obtain ⟨u, hu', hv⟩ := recS_ok hs hu hc hl h1
    exact ⟨u, one _ _ hu', hv⟩

theorem tab_ok {k : Nat} (ha : P.underlying ta = some (.array k te)) (he : P.underlying te = some (.struct fs)) (hf : fs.toList.map (fun f => (f.offset, f.type)) = [(0, tu), (1, tu), (2, ti), (3, ti), (4, ts)]) (hce : P.cellsOf te = 5)
    (hs : P.underlying ts = some (.slice tu)) (hu : P.underlying tu = some (.int .u64)) (hi : P.underlying ti = some (.int .i64)) (hc : P.cellsOf tu = 1) (hci : P.cellsOf ti = 1) (hcs : P.cellsOf ts = 1)
    {n : Nat} {rs : List Rec} {cs : List Value} {q : List MemPlace} (hl : ∀ r ∈ rs, r.2.2.2.2.length ≤ 1000) (h : DataW.trod enc P w base sp held n ta cs = some (.agg (rs.map recD), q)) :
    ∀ i, i < rs.length → ∀ j, j < 5 → ∃ u, cs[i * 5 + j]? = some u ∧ VRC (GW w) ((recL (rs.getD i (0, 0, 0, 0, []))).getD j .jk) u := by
  obtain ⟨xs, m, _, hx, _, hxl, hall⟩ := DataW.trod_array ha h
  have hx1 : (DataW.agg (rs.map recD) : DataW H) = .agg (xs.map (·.1)) := congrArg Prod.fst hx
  simp only [DataW.agg.injEq] at hx1
  have hrl : rs.length = k := by have := congrArg List.length hx1; simp at this; omega
  intro i hi' j hj
  have h1 := hall i (by omega)
  have hr : rs[i]? = some rs[i] := List.getElem?_eq_getElem hi'
  have h2 : (xs.map (·.1))[i]? = some (recD rs[i]) := by rw [← hx1, List.getElem?_map, hr]; rfl
  rw [List.getElem?_map, Option.map_eq_some_iff] at h2
  obtain ⟨x, hx2, hx3⟩ := h2
  rw [hx2, hce] at h1
  have h3 : DataW.trod enc P w base sp held m te ((cs.drop (i * 5)).take 5) = some (recD rs[i], x.2) := by rw [h1, ← hx3]
  obtain ⟨hlen, h4⟩ := rec_ok he hf hce hs hu hi hc hci hcs (hl _ (List.getElem_mem hi')) h3
  obtain ⟨u, h5, h6⟩ := h4 j hj
  rw [getD_of hr]
  refine ⟨u, ?_, h6⟩
  rw [List.getElem?_take, if_pos hj, List.getElem?_drop] at h5
  exact h5
end
end Go.Av


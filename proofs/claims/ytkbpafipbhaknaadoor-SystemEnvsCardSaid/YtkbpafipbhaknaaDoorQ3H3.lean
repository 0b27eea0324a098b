/- For every system, trace and row, small enough to be looked at, both texts give the same environment. No conditions. -/
import Derived.Test.YtkbpafipbhaknaaDoorQ3G0
import Derived.Test.YtkbpafipbhaknaaDoorQ3E4
namespace Go.Proofs.YtkbpafipbhaknaaDoor.systemEnvs
open Go Go.Av Go.RowKit Go.ChangeShapes
set_option maxRecDepth 100000

theorem contract (H : Type) (enc : TypeId × Value → H) (W : World) (base : Nat) (args : Array Value) (ds gs : List (DataW H)) (before : List MemPlace)
    (hval : ∀ (j : Nat) t v, Tryd.f3.params[j]? = some t → args[j]? = some v → Value.okWide Tryd.prog W .any base t v)
    (hW : DataW.Whole enc Tryd.prog Tryd.f3.params.toList Rows.systemEnvsSpec.vars false W args.toList ds gs before)
    (hsz : (DataW.weightsEach Tryd.prog (Tryd.f3.params.toList ++ (OpenSpec.ofChange Rows.systemEnvsSpec).bare.plain.varTypes Tryd.prog) (ds ++ gs)).all (· ≤ reachBytes) = true)
    (hL : laidMetH Tryd.prog Rows.systemEnvsRow.laid W) :
    Calls Tryd.prog 3 args W fun e W' => ∃ v, e = .returned v ∧ Rows.systemEnvsSpec.post enc Tryd.prog Tryd.f3 false true false false W args v W' := by
  have hW' := hW
  obtain ⟨p, q, hA, hV, rfl, hfz, hnd⟩ := hW
  rw [Tryd.params3] at hA hval hsz
  obtain ⟨v0, vs0, d0, ds0, p0, q0, hargs, rfl, rfl, h0, r0⟩ := trodAll_cons hA
  obtain ⟨v1, vs1, d1, ds1, p1, q1, rfl, rfl, rfl, h1, r1⟩ := trodAll_cons r0
  obtain ⟨v2, vs2, d2, ds2, p2, q2, rfl, rfl, rfl, h2, r2⟩ := trodAll_cons r1
  obtain ⟨rfl, rfl, rfl⟩ := trodAll_nil r2
  have hw : ∀ (j : Nat) t (d : DataW H), [27, 30, 3][j]? = some t → [d0, d1, d2][j]? = some d → wts Tryd.prog t d := fun j t d ht hd n hn => by
    have := List.all_eq_true.1 hsz n (DataW.weights_mem_each (j := j) (by rw [List.getElem?_append_left (lt_of ht)]; exact ht) (by rw [List.getElem?_append_left (lt_of hd)]; exact hd) n hn)
    simpa using this
  have hargs' : ∀ (j : Nat) v, [v0, v1, v2][j]? = some v → args[j]? = some v := fun j v h => by rw [← hargs] at h; simpa using h
  obtain ⟨s, hs, hv0⟩ := arg_agg rd27 (fun _ => rfl) (.inl ⟨_, Tryd.underlying27⟩) (hval 0 27 v0 rfl (hargs' 0 _ rfl)) h0 (hw 0 _ _ rfl rfl)
  obtain ⟨t, ht, hv1⟩ := arg_agg rd30 (fun _ => rfl) (.inl ⟨_, Tryd.underlying30⟩) (hval 1 30 v1 rfl (hargs' 1 _ rfl)) h1 (hw 1 _ _ rfl rfl)
  obtain ⟨i, hi, hv2⟩ := arg_cell (c := fun x => .int .i64 x) rd3 rfl (fun _ => rfl) (fun fs h => by rw [Tryd.underlying3] at h; cases h) (fun n e h => by rw [Tryd.underlying3] at h; cases h) (hval 2 3 v2 rfl (hargs' 2 _ rfl)) h2 (hw 2 _ _ rfl rfl)
  have hpure := p3 whole s.1 s.2.1 s.2.2.1 s.2.2.2.1 s.2.2.2.2.1 s.2.2.2.2.2.1 s.2.2.2.2.2.2.1 s.2.2.2.2.2.2.2 t.1 t.2 i true
    (lawEnvs _ _ _ _ _ _ _ _ _ _ (bd_of hs) ⟨le_BD ht.1.1 (by decide), le_BD ht.2.1 (by decide), fun c hc => le_BD (ht.2.2 c hc).1 (by decide)⟩ i)
  exact contract_of (X := X) hpure (stand hL) (by rw [hargs]; exact VRs_cons hv0 (VRs_cons hv1 (VRs_cons hv2 VRs_nil))) laidOut (by kernel_rfl) (by kernel_rfl) Tryd.underlying4 rfl
    (fun ds hd => by
      rw [Tryd.params3] at hd
      match ds, hd with
      | [a, b, c], _ => rfl) hW'

def zArgs : Array Value := #[.agg #[.int .i64 0, .int .i64 0, .int .i64 0, .int .i64 0, .slice none 0 0, .slice none 0 0, .slice none 0 0, .slice none 0 0], .agg #[.slice none 0 0, .slice none 0 0], .int .i64 0]
theorem reads (os : Os) {H : Type} (enc : TypeId × Value → H) : ∃ x, DataW.whole enc Tryd.prog ((w0 os).forCall (fun _ _ => 0) ⟨#[], zArgs, []⟩).memory Tryd.f3.params.toList Rows.systemEnvsSpec.vars false zArgs.toList 8 = some x :=
  ⟨([.agg [.lit (.int .i64 0), .lit (.int .i64 0), .lit (.int .i64 0), .lit (.int .i64 0), .nil, .nil, .nil, .nil], .agg [.nil, .nil], .lit (.int .i64 0)], [], []), by kernel_rfl⟩

theorem lifted (os : Os) (started : os.Started) (H : Type) (enc : TypeId × Value → H) (F : Stop.Interp) :
    ReturnsInHanded {} Tryd.checked os 3 .any ((OpenSpec.ofChange Rows.systemEnvsSpec).preRow enc Tryd.prog Tryd.f3 Rows.systemEnvsRow.domain false Rows.systemEnvsRow.laid) (((OpenSpec.ofChange Rows.systemEnvsSpec).at F).post enc Tryd.prog Tryd.f3 false true false false) := by
  obtain ⟨x, hx⟩ := reads os enc
  refine returnsInHanded_of_row (C := Tryd.checked) (s := OpenSpec.ofChange Rows.systemEnvsSpec) ownK started (by kernel_rfl) Tryd.func3
    (witness_row_atRef (enc := enc) (C := Tryd.checked) false (w0 os) zArgs (w0_os os) (by kernel_rfl) (by kernel_rfl) (by kernel_rfl)
      (OpenSpec.preRow_of_cond 8 hx (by rfl) (fun k hk => by cases hk) (by kernel_rfl) (w0_met os zArgs))) ?_
  intro W base args ds gs before hval hW _ _ hsz hL _ _
  exact contract H enc W base args ds gs before hval hW hsz hL

theorem said : Rows.SystemEnvsSaid :=
  OpenClaim.holds_of_cond 3 Tryd.f3 rfl rfl rfl rfl rfl rfl rfl ⟨rfl, rfl, rfl, rfl, rfl⟩ rfl rfl rfl rfl rfl (by kernel_rfl) Tryd.func3 (by kernel_rfl)
    (of_decide_eq_true (by kernel_rfl)) (by unfold Func.isWrapper; first | (rw [if_pos (by decide +kernel)]; kernel_rfl) | (rw [if_neg (by decide +kernel)]; exact ⟨rfl, rfl⟩))
    (fun os started H enc _ F => by rw [OpenClaim.pre_eq_preRow]; exact lifted os started H enc F)

theorem plain (f : FuncId) (fn : Func) (hf : Tryd.pinned.checked.prog.funcNamed "attestor/attestorlaw13.SystemEnvs" = some f) (hfn : Tryd.pinned.checked.prog.funcs[f]? = some fn) :
    false = Tryd.pinned.checked.prog.looks [] ∧ ∀ (j : Nat) t, fn.params[j]? = some t → Tryd.pinned.checked.prog.wantsStandIn t = false := by
  obtain rfl : f = 3 := Option.some.inj ((show Tryd.prog.funcNamed "attestor/attestorlaw13.SystemEnvs" = some 3 by kernel_rfl).symm.trans hf) |>.symm
  obtain rfl : fn = Tryd.f3 := (Option.some.inj (Tryd.func3.symm.trans hfn)).symm
  refine ⟨by kernel_rfl, fun j t ht => ?_⟩
  rw [Tryd.params3] at ht
  have : t = 27 ∨ t = 30 ∨ t = 3 := by simpa using Array.mem_of_getElem? ht
  rcases this with rfl | rfl | rfl
  · exact (show Tryd.prog.wantsStandIn 27 = false by kernel_rfl)
  · exact (show Tryd.prog.wantsStandIn 30 = false by kernel_rfl)
  · exact (show Tryd.prog.wantsStandIn 3 = false by kernel_rfl)

theorem card : Rows.SystemEnvsCardSaid :=
  Claim7.holds_tied_plain_at .later [] _ _ _ _ said (fun _ h => by cases h) (by kernel_rfl) (fun _ h => by cases h) systemEnvs_row_tie rfl ⟨rfl, rfl⟩ (by kernel_rfl) rfl plain (by kernel_rfl)
end Go.Proofs.YtkbpafipbhaknaaDoor.systemEnvs
namespace Go.Proofs.YtkbpafipbhaknaaDoor
theorem systemEnvs_card : Rows.SystemEnvsCardSaid := systemEnvs.card
end Go.Proofs.YtkbpafipbhaknaaDoor

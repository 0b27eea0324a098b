/- Abstract values over the worlds of the model: rules by which a function is walked; plain lemmas. -/
import Derived.WalkKit
import Derived.Deep.Quiet
import Derived.Laws.StructEq
namespace Go.Av
open Go

/-- The value of a cell that leads to memory which nobody writes. -/
inductive C where
  | int (k : IntKind) (n : Int)
  | bool (b : Bool)
  | str (s : ByteArray)
  | nsl
  | sl (len sz : Nat) (row : Nat → Nat → C)
  | ptr (sz len : Nat) (row : Nat → Nat → C) (i j : Nat)
  | fn (f : FuncId) (n : Nat) (cap : Nat → C)
  | nfn
  | jk

abbrev GM := Nat → Option (Array Value)
abbrev OM := Nat → Nat → Option Value

def VRC (G : GM) : C → Value → Prop
  | .int k n, v => v = .int k n
  | .bool b, v => v = .bool b
  | .str s, v => v = .string s
  | .nsl, v => v = .slice none 0 0
  | .sl len sz row, v => ∃ a cap, v = .slice a len cap ∧ len ≤ 140737488355328 ∧ len ≤ cap ∧ (len = 0 ∨ ∃ blk off arr, a = some ⟨blk, off, none⟩ ∧ G blk = some arr ∧
      ∀ i, i < len → ∀ j, j < sz → ∃ u, arr[off + (i * sz + j)]? = some u ∧ VRC G (row i j) u)
  | .ptr sz len row i j, v => ∃ blk off arr, v = .pointer (some ⟨blk, off + (i * sz + j), none⟩) ∧ i < len ∧ G blk = some arr ∧
      ∀ i', i' < len → ∀ j', j' < sz → ∃ u, arr[off + (i' * sz + j')]? = some u ∧ VRC G (row i' j') u
  | .fn f n cap, v => ∃ vs : Array Value, v = .func (.func f) #[] vs ∧ vs.size = n ∧ ∀ i, i < n → ∃ u, vs[i]? = some u ∧ VRC G (cap i) u
  | .nfn, v => v = .nilFunc
  | .jk, v => v.oneCell' = true

/-- A cell's value as the walk knows it: frozen, or a reference to a block of the walk's own (number, version). -/
inductive A where
  | c (x : C)
  | op (b ver sz i j : Nat)
  | sl (b ver len : Nat)
  | clos (f : FuncId) (n : Nat) (cap : Nat → A)

def VRA (G : GM) (m : OM) : A → Value → Prop
  | .c x, v => VRC G x v
  | .op b ver sz i j, v => ∃ g n cp, m b ver = some (.slice (some ⟨g, 0, none⟩) n cp) ∧ i < n ∧ v = .pointer (some ⟨g, i * sz + j, none⟩)
  | .sl b ver len, v => m b ver = some v ∧ len ≤ 140737488355328 ∧ ((v = .slice none 0 0 ∧ len = 0) ∨ ∃ g cp, v = .slice (some ⟨g, 0, none⟩) len cp)
  | .clos f n cap, v => ∃ vs : Array Value, v = .func (.func f) #[] vs ∧ vs.size = n ∧ ∀ i, i < n → ∃ u, vs[i]? = some u ∧ VRA G m (cap i) u

/-- A temporary's value. -/
inductive V where
  | cell (a : A)
  | agg (cs : List A)
  | tup (n : Nat) (f : Nat → V)

def VRL (G : GM) (m : OM) (cs : List A) (vs : List Value) : Prop :=
  vs.length = cs.length ∧ ∀ (i : Nat) (a : A), cs[i]? = some a → ∃ u, vs[i]? = some u ∧ VRA G m a u

def VRV (G : GM) (m : OM) : V → Value → Prop
  | .cell a, v => VRA G m a v
  | .agg cs, v => ∃ vs : Array Value, v = .agg vs ∧ VRL G m cs vs.toList
  | .tup n f, v => ∃ vs : Array Value, v = .tuple vs ∧ vs.size = n ∧ ∀ i, i < n → ∃ u, vs[i]? = some u ∧ VRV G m (f i) u

/-- A block of the walk's own: rows of frozen cells, or one row of cells. -/
inductive Blk where
  | rows (ver : Nat) (e : TypeId) (sz len : Nat) (row : Nat → Nat → C)
  | lit (ver : Nat) (e : TypeId) (cells : List A)

def Blk.ver : Blk → Nat | .rows v .. => v | .lit v .. => v
def Blk.e : Blk → TypeId | .rows _ e .. => e | .lit _ e _ => e
def Blk.sz : Blk → Nat | .rows _ _ s _ _ => s | .lit _ _ cs => cs.length
def Blk.len : Blk → Nat | .rows _ _ _ n _ => n | .lit .. => 1
def Blk.cell : Blk → Nat → Nat → A
  | .rows _ _ _ _ r, i, j => .c (r i j)
  | .lit _ _ cs, _, j => cs.getD j (.c .jk)

def BlkAt (w : World) (G : GM) (m : OM) (v : Value) (B : Blk) : Prop :=
  ∃ xs, w.ownsRow 0 B.e B.sz v B.len xs ∧ ∀ i, i < B.len → ∀ j, j < B.sz → ∃ u, xs[i * B.sz + j]? = some u ∧ VRA G m (B.cell i j) u

/-- What the walk asks of a type: kind, cells, bytes, the zero value's cells. -/
inductive TK where
  | int (k : IntKind)
  | bool
  | str
  | slice (e : Nat)
  | struct (fs : List (Nat × Nat))
  | array (n e : Nat)
  | ptr (e : Nat)
  | other
structure TI where
  k : TK
  size : Nat
  bytes : Nat
  zero : List C
def TI.agg (i : TI) : Bool := match i.k with | .struct _ | .array _ _ => true | _ => false
def ofConstC : Value → C
  | .int k n => .int k n
  | .bool b => .bool b
  | .string s => .str s
  | .slice none 0 0 => .nsl
  | .nilFunc => .nfn
  | _ => .jk
def isAggV : Value → Bool | .agg _ => true | _ => false
def TyK (P : Program) (t : Nat) : TK → Prop
  | .int k => P.underlying t = some (.int k)
  | .bool => P.underlying t = some .bool
  | .str => P.underlying t = some .string
  | .slice e => P.underlying t = some (.slice e)
  | .struct fs => ∃ fields, P.underlying t = some (.struct fields) ∧ fields.toList.map (fun f => (f.offset, f.type)) = fs
  | .array n e => P.underlying t = some (.array n e)
  | .ptr e => P.underlying t = some (.pointer e)
  | .other => ∃ d, P.underlying t = some d ∧ (match d with | .struct _ | .array _ _ => False | _ => True)
def oneAll (z : Value) : Bool := z.cells.toList.all Value.oneCell'
def TyOK (P : Program) (t : Nat) (i : TI) : Prop :=
  TyK P t i.k ∧ ∃ inf z, P.info? t = some inf ∧ inf.size = i.size ∧ inf.bytes = i.bytes ∧ inf.zero = some z ∧ z.cells.toList.map ofConstC = i.zero ∧ isAggV z = i.agg ∧ z.cells.size = i.size ∧ oneAll z = true

structure Cx where
  P : Program
  Γ : Nat → Option C
  ty : Nat → Option TI
  ok : ∀ t i, ty t = some i → TyOK P t i

abbrev Hp := List (Option Blk)

def Img (m : OM) (σ : Hp) (g : Nat) : Prop := ∃ (i : Nat) (B : Blk) (v : Value), σ[i]? = some (some B) ∧ m i B.ver = some v ∧ v.ownBlock = some g

structure St (X : Cx) (w : World) (G : GM) (m : OM) (σ : Hp) : Prop where
  fro : ∀ b arr, G b = some arr → ∃ t fr, w.heap[b]? = some (.cells arr t fr)
  glob : ∀ g c, X.Γ g = some c → VRC G c (.pointer (some ⟨g, 0, none⟩))
  own : ∀ (i : Nat) B, σ[i]? = some (some B) → ∃ v, m i B.ver = some v ∧ BlkAt w G m v B ∧ ∀ g, v.ownBlock = some g → G g = none
  sep : ∀ (i j : Nat) B B' v v', i ≠ j → σ[i]? = some (some B) → σ[j]? = some (some B') → m i B.ver = some v → m j B'.ver = some v' → v.ownBlock = none ∨ v.ownBlock ≠ v'.ownBlock
  top : ∀ (i : Nat) B u, σ[i]? = some (some B) → B.ver < u → m i u = none
  lim : ∀ i u, σ.length ≤ i → m i u = none

structure Tran (w : World) (G : GM) (m : OM) (σ : Hp) (w' : World) (G' : GM) (m' : OM) (σ' : Hp) : Prop where
  os : w'.os = w.os
  tape : w'.tape = w.tape
  output : w'.output = w.output
  size : w.heap.size ≤ w'.heap.size
  frame : ∀ k, k < w.heap.size → ¬ Img m σ k → w'.heap[k]? = w.heap[k]?
  gext : ∀ b arr, G b = some arr → G' b = some arr
  gnew : ∀ b arr, G' b = some arr → G b = some arr ∨ Img m σ b ∨ w.heap.size ≤ b
  img : ∀ k, Img m' σ' k → Img m σ k ∨ w.heap.size ≤ k
  /-- a block of version 1000 stays where it is -/
  keep : ∀ (i : Nat) B', σ'[i]? = some (some B') → B'.ver = 1000 → (∃ B, σ[i]? = some (some B) ∧ B.ver = 1000) ∧ m' i 1000 = m i 1000

theorem Tran.refl (w : World) (G : GM) (m : OM) (σ : Hp) : Tran w G m σ w G m σ :=
  ⟨rfl, rfl, rfl, Nat.le_refl _, fun _ _ _ => rfl, fun _ _ h => h, fun _ _ h => .inl h, fun _ h => .inl h, fun _ B h hv => ⟨⟨B, h, hv⟩, rfl⟩⟩

theorem Tran.trans {w w' w'' : World} {G G' G'' : GM} {m m' m'' : OM} {σ σ' σ'' : Hp} (h : Tran w G m σ w' G' m' σ') (k : Tran w' G' m' σ' w'' G'' m'' σ'') :
    Tran w G m σ w'' G'' m'' σ'' := by
  refine ⟨k.os.trans h.os, k.tape.trans h.tape, k.output.trans h.output, Nat.le_trans h.size k.size, ?_, fun b a hb => k.gext b a (h.gext b a hb), ?_, ?_, fun i B hB hv => by
    obtain ⟨⟨B1, h1, h2⟩, h3⟩ := k.keep i B hB hv
    obtain ⟨h4, h5⟩ := h.keep i B1 h1 h2
    exact ⟨h4, h3.trans h5⟩⟩
  · intro b hb hi
    rw [k.frame b (Nat.lt_of_lt_of_le hb h.size) (fun hi' => by rcases h.img b hi' with h1 | h1; exact hi h1; omega), h.frame b hb hi]
  · intro b arr hb
    rcases k.gnew b arr hb with h1 | h1 | h1
    · exact h.gnew b arr h1
    · rcases h.img b h1 with h2 | h2
      · exact .inr (.inl h2)
      · exact .inr (.inr h2)
    · exact .inr (.inr (Nat.le_trans h.size h1))
  · intro b hb
    rcases k.img b hb with h1 | h1
    · exact h.img b h1
    · exact .inr (Nat.le_trans h.size h1)

theorem VRC.mono {G G' : GM} (h : ∀ b arr, G b = some arr → G' b = some arr) : ∀ (x : C) (v : Value), VRC G x v → VRC G' x v := by
  intro x
  induction x with
  | int k n => intro v hv; exact hv
  | bool b => intro v hv; exact hv
  | str s => intro v hv; exact hv
  | nsl => intro v hv; exact hv
  | sl len sz row ih =>
    intro v hv
    obtain ⟨a, cap, rfl, hl, hlc, hv⟩ := hv
    refine ⟨a, cap, rfl, hl, hlc, ?_⟩
    rcases hv with hv | ⟨blk, off, arr, ha, hG, hc⟩
    · exact .inl hv
    · refine .inr ⟨blk, off, arr, ha, h _ _ hG, fun i hi j hj => ?_⟩
      obtain ⟨u, hu, hr⟩ := hc i hi j hj
      exact ⟨u, hu, ih i j u hr⟩
  | ptr sz len row i j ih =>
    intro v hv
    obtain ⟨blk, off, arr, rfl, hi0, hG, hc⟩ := hv
    refine ⟨blk, off, arr, rfl, hi0, h _ _ hG, fun i hi j hj => ?_⟩
    obtain ⟨u, hu, hr⟩ := hc i hi j hj
    exact ⟨u, hu, ih i j u hr⟩
  | fn f n cap ih =>
    intro v hv
    obtain ⟨vs, rfl, hs, hc⟩ := hv
    refine ⟨vs, rfl, hs, fun i hi => ?_⟩
    obtain ⟨u, hu, hr⟩ := hc i hi
    exact ⟨u, hu, ih i u hr⟩
  | nfn => intro v hv; exact hv
  | jk => intro v hv; exact hv

theorem VRA.mono {G G' : GM} {m m' : OM} (h : ∀ b arr, G b = some arr → G' b = some arr) (hm : ∀ i u v, m i u = some v → m' i u = some v) : ∀ (x : A) (v : Value), VRA G m x v → VRA G' m' x v := by
  intro x
  induction x with
  | c x => intro v hv; exact VRC.mono h x v hv
  | op b ver sz i j => intro v hv; obtain ⟨g, n, cp, h1, h2⟩ := hv; exact ⟨g, n, cp, hm _ _ _ h1, h2⟩
  | sl b ver len => intro v hv; exact ⟨hm _ _ _ hv.1, hv.2⟩
  | clos f n cap ih =>
    intro v hv
    obtain ⟨vs, rfl, hs, hc⟩ := hv
    refine ⟨vs, rfl, hs, fun i hi => ?_⟩
    obtain ⟨u, hu, hr⟩ := hc i hi
    exact ⟨u, hu, ih i u hr⟩

theorem VRL.mono {G G' : GM} {m m' : OM} (h : ∀ b arr, G b = some arr → G' b = some arr) (hm : ∀ i u v, m i u = some v → m' i u = some v) {cs : List A} {vs : List Value} (hv : VRL G m cs vs) : VRL G' m' cs vs :=
  ⟨hv.1, fun i a ha => let ⟨u, hu, hr⟩ := hv.2 i a ha; ⟨u, hu, VRA.mono h hm a u hr⟩⟩

theorem VRV.mono {G G' : GM} {m m' : OM} (h : ∀ b arr, G b = some arr → G' b = some arr) (hm : ∀ i u v, m i u = some v → m' i u = some v) : ∀ (x : V) (v : Value), VRV G m x v → VRV G' m' x v := by
  intro x
  induction x with
  | cell a => intro v hv; exact VRA.mono h hm a v hv
  | agg cs => intro v hv; obtain ⟨vs, rfl, hv⟩ := hv; exact ⟨vs, rfl, hv.mono h hm⟩
  | tup n f ih =>
    intro v hv
    obtain ⟨vs, rfl, hs, hc⟩ := hv
    refine ⟨vs, rfl, hs, fun i hi => ?_⟩
    obtain ⟨u, hu, hr⟩ := hc i hi
    exact ⟨u, hu, ih i u hr⟩

/-- and what is known of a block stays known -/
structure TranM (w : World) (G : GM) (m : OM) (σ : Hp) (w' : World) (G' : GM) (m' : OM) (σ' : Hp) : Prop where
  tr : Tran w G m σ w' G' m' σ'
  mono : ∀ i u v, m i u = some v → m' i u = some v

theorem VRC.one {G : GM} {x : C} {v : Value} (h : VRC G x v) : v.oneCell' = true := by
  cases x with
  | int k n => rw [show v = _ from h]; rfl
  | bool b => rw [show v = _ from h]; rfl
  | str s => rw [show v = _ from h]; rfl
  | nsl => rw [show v = _ from h]; rfl
  | sl => obtain ⟨_, _, rfl, _⟩ := h; rfl
  | ptr => obtain ⟨_, _, _, rfl, _⟩ := h; rfl
  | fn => obtain ⟨_, rfl, _⟩ := h; rfl
  | nfn => rw [show v = _ from h]; rfl
  | jk => exact h
theorem VRA.one {G : GM} {m : OM} {x : A} {v : Value} (h : VRA G m x v) : v.oneCell' = true := by
  cases x with
  | c x => exact VRC.one h
  | op => obtain ⟨_, _, _, _, _, rfl⟩ := h; rfl
  | sl =>
    obtain ⟨_, _, h | ⟨_, _, h⟩⟩ := h
    · rw [h.1]; rfl
    · rw [h]; rfl
  | clos => obtain ⟨_, rfl, _⟩ := h; rfl
theorem cells_one {v : Value} (h : v.oneCell' = true) : v.cells = #[v] := by
  cases v <;> first | rfl | cases h

/-! ### temporaries -/
abbrev Tm := List (Nat × V)
def get : Tm → Nat → Option V
  | [], _ => none
  | (k, v) :: r, t => if k = t then some v else get r t
def del : Tm → Nat → Tm
  | [], _ => []
  | (k, v) :: r, t => if k = t then del r t else (k, v) :: del r t
def put (T : Tm) (d : Option Tmp) (v : V) : Tm :=
  match d with
  | none => T
  | some d => (d, v) :: del T d
def drp (T : Tm) (d : Option Tmp) : Tm :=
  match d with
  | none => T
  | some d => del T d

theorem get_del (T : Tm) (d t : Nat) : get (del T d) t = if d = t then none else get T t := by
  induction T with
  | nil => simp [get, del]
  | cons p r ih =>
    obtain ⟨k, v⟩ := p
    by_cases h : k = d
    · subst h
      simp only [del, if_true, ih, get]
      by_cases h2 : k = t <;> simp [h2]
    · simp only [del, if_neg h, get, ih]
      by_cases h2 : k = t
      · subst h2
        simp [Ne.symm h]
      · simp [h2]

structure TR (N : Nat) (G : GM) (m : OM) (a : Act) (T : Tm) : Prop where
  size : a.tmps.size = N
  defers : a.defers = []
  vals : ∀ t x, get T t = some x → t < N ∧ VRV G m x (a.tmps.getD t undef)

theorem TR.mono {N : Nat} {G G' : GM} {m m' : OM} {a : Act} {T : Tm} (h : ∀ b arr, G b = some arr → G' b = some arr) (hm : ∀ i u v, m i u = some v → m' i u = some v) (t : TR N G m a T) : TR N G' m' a T :=
  ⟨t.size, t.defers, fun k x hx => ⟨(t.vals k x hx).1, VRV.mono h hm _ _ (t.vals k x hx).2⟩⟩

theorem size_put (a : Act) (d : Option Tmp) (v : Value) : (a.put d v).tmps.size = a.tmps.size := by
  cases d <;> simp [Act.put]
theorem defers_put (a : Act) (d : Option Tmp) (v : Value) : (a.put d v).defers = a.defers := by
  cases d <;> simp [Act.put]

def fitD (N : Nat) : Option Tmp → Bool
  | none => true
  | some d => decide (d < N)

theorem TR.put {N : Nat} {G : GM} {m : OM} {a : Act} {T : Tm} (t : TR N G m a T) {d : Option Tmp} (hd : fitD N d = true) {v : Value} {x : V} (hv : VRV G m x v) : TR N G m (a.put d v) (put T d x) := by
  refine ⟨(size_put a d v).trans t.size, (defers_put a d v).trans t.defers, fun k y hk => ?_⟩
  cases d with
  | none => exact t.vals k y hk
  | some d =>
    have hd' : d < N := by simpa [fitD] using hd
    simp only [Av.put, get] at hk
    by_cases h : d = k
    · subst h
      simp only [if_true, Option.some.injEq] at hk
      subst hk
      refine ⟨hd', ?_⟩
      simp [Act.put, t.size, hd', hv]
    · rw [if_neg h, get_del, if_neg h] at hk
      obtain ⟨h1, h2⟩ := t.vals k y hk
      refine ⟨h1, ?_⟩
      have : (a.put (some d) v).tmps.getD k undef = a.tmps.getD k undef := by
        simp [Act.put, Array.getElem?_setIfInBounds_ne h]
      rw [this]; exact h2

theorem TR.drp {N : Nat} {G : GM} {m : OM} {a : Act} {T : Tm} (t : TR N G m a T) (d : Option Tmp) (v : Value) : TR N G m (a.put d v) (drp T d) := by
  refine ⟨(size_put a d v).trans t.size, (defers_put a d v).trans t.defers, fun k y hk => ?_⟩
  cases d with
  | none => exact t.vals k y hk
  | some d =>
    simp only [Av.drp] at hk
    rw [get_del] at hk
    by_cases h : d = k
    · simp [h] at hk
    · rw [if_neg h] at hk
      obtain ⟨h1, h2⟩ := t.vals k y hk
      refine ⟨h1, ?_⟩
      have : (a.put (some d) v).tmps.getD k undef = a.tmps.getD k undef := by
        simp [Act.put, Array.getElem?_setIfInBounds_ne h]
      rw [this]; exact h2

theorem TR.sub {N : Nat} {G : GM} {m : OM} {a : Act} {T T' : Tm} (t : TR N G m a T) (h : ∀ k x, get T' k = some x → get T k = some x) : TR N G m a T' :=
  ⟨t.size, t.defers, fun k x hx => t.vals k x (h k x hx)⟩

/-! ### operands -/
def ofConst : Value → Option V
  | .int k n => some (.cell (.c (.int k n)))
  | .bool b => some (.cell (.c (.bool b)))
  | .string s => some (.cell (.c (.str s)))
  | .slice none 0 0 => some (.cell (.c .nsl))
  | .nilFunc => some (.cell (.c .nfn))
  | _ => none

def evO (X : Cx) (T : Tm) : Operand → Option V
  | .tmp t => get T t
  | .const v => ofConst v
  | .global g => (X.Γ g).map fun c => .cell (.c c)
  | .func f => some (.cell (.c (.fn f 0 fun _ => .jk)))

theorem ofConst_ok {G : GM} {m : OM} {v : Value} {x : V} (h : ofConst v = some x) : VRV G m x v := by
  unfold ofConst at h
  split at h <;> first | (cases h; done) | (obtain rfl := Option.some.inj h; simp [VRV, VRA, VRC])

theorem evO_ok {X : Cx} {w : World} {N : Nat} {G : GM} {m : OM} {σ : Hp} {a : Act} {T : Tm} (s : St X w G m σ) (t : TR N G m a T) {o : Operand} {x : V} (h : evO X T o = some x) : VRV G m x (a.eval o) := by
  cases o with
  | tmp k => exact (t.vals k x h).2
  | const v => exact ofConst_ok h
  | global g =>
    simp only [evO, Option.map_eq_some_iff] at h
    obtain ⟨c, hc, rfl⟩ := h
    exact s.glob g c hc
  | func f =>
    obtain rfl := Option.some.inj h
    exact ⟨#[], rfl, rfl, fun i hi => by omega⟩

/-! ### the judgement over code -/
def PostW (X : Cx) (N : Nat) (w : World) (G : GM) (m : OM) (σ : Hp) (Q : Exit → Hp → Tm → Prop) (e : Exit) (a' : Act) (w' : World) : Prop :=
  ∃ G' m' σ' T', St X w' G' m' σ' ∧ TR N G' m' a' T' ∧ Tran w G m σ w' G' m' σ' ∧ Q e σ' T'

def W (X : Cx) (N : Nat) (c : Code) (σ : Hp) (T : Tm) (Q : Exit → Hp → Tm → Prop) : Prop :=
  ∀ w G m a, St X w G m σ → TR N G m a T → c.wp X.P (PostW X N w G m σ Q) a w

def thenQ (K : Hp → Tm → Prop) (Q : Exit → Hp → Tm → Prop) : Exit → Hp → Tm → Prop
  | .normal, σ, T => K σ T
  | e, σ, T => Q e σ T

def blockQ (id : Nat) (Q : Exit → Hp → Tm → Prop) : Exit → Hp → Tm → Prop
  | .exit id', σ, T => if id' = id then Q .normal σ T else Q (.exit id') σ T
  | e, σ, T => Q e σ T

section
variable {X : Cx} {N : Nat} {σ : Hp} {T : Tm} {Q : Exit → Hp → Tm → Prop}

theorem PostW.trans {w w' : World} {G G' : GM} {m m' : OM} {σ σ' : Hp} (t : Tran w G m σ w' G' m' σ') {e : Exit} {a : Act} {w'' : World} (h : PostW X N w' G' m' σ' Q e a w'') : PostW X N w G m σ Q e a w'' :=
  let ⟨G2, m2, σ2, T2, s2, r2, t2, q2⟩ := h
  ⟨G2, m2, σ2, T2, s2, r2, t.trans t2, q2⟩

theorem W.mono {c : Code} {Q' : Exit → Hp → Tm → Prop} (h : W X N c σ T Q) (hq : ∀ e σ T, Q e σ T → Q' e σ T) : W X N c σ T Q' :=
  fun w G m a s t => wp_mono (h w G m a s t) fun _ _ _ ⟨G2, m2, σ2, T2, s2, r2, t2, q2⟩ => ⟨G2, m2, σ2, T2, s2, r2, t2, hq _ _ _ q2⟩

theorem W_skip (h : Q .normal σ T) : W X N .skip σ T Q :=
  fun w G m _ s t => wp_skip ⟨G, m, σ, T, s, t, .refl _ _ _ _, h⟩
theorem W_ret (h : Q .ret σ T) : W X N .ret σ T Q :=
  fun w G m _ s t => wp_ret ⟨G, m, σ, T, s, t, .refl _ _ _ _, h⟩
theorem W_exit {id : Nat} (h : Q (.exit id) σ T) : W X N (.exit id) σ T Q :=
  fun w G m _ s t => wp_exit ⟨G, m, σ, T, s, t, .refl _ _ _ _, h⟩

theorem W_seq {x y : Code} (h : W X N x σ T (thenQ (fun σ' T' => W X N y σ' T' Q) Q)) : W X N (.seq x y) σ T Q := by
  intro w G m a s t
  refine wp_seq (wp_mono (h w G m a s t) ?_)
  intro e a' w' hp
  obtain ⟨G2, m2, σ2, T2, s2, r2, t2, q2⟩ := hp
  cases e with
  | normal => exact wp_mono (q2 w' G2 m2 a' s2 r2) fun e a w h => PostW.trans t2 h
  | _ => exact ⟨G2, m2, σ2, T2, s2, r2, t2, q2⟩

theorem W_block {id : Nat} {c : Code} (h : W X N c σ T (blockQ id Q)) : W X N (.block id c) σ T Q := by
  intro w G m a s t
  refine wp_block (wp_mono (h w G m a s t) ?_)
  intro e a' w' hp
  obtain ⟨G2, m2, σ2, T2, s2, r2, t2, q2⟩ := hp
  cases e with
  | exit id' =>
    simp only [Exit.inBlock]
    split
    · rename_i he
      simp only [blockQ, he, if_true] at q2
      exact ⟨G2, m2, σ2, T2, s2, r2, t2, q2⟩
    · rename_i he
      simp only [blockQ, if_neg he] at q2
      exact ⟨G2, m2, σ2, T2, s2, r2, t2, q2⟩
  | _ => exact ⟨G2, m2, σ2, T2, s2, r2, t2, q2⟩

theorem W_cond {o : Operand} {x y : Code} {b : Bool} (ho : evO X T o = some (.cell (.c (.bool b)))) (ht : b = true → W X N x σ T Q) (hf : b = false → W X N y σ T Q) : W X N (.cond o x y) σ T Q := by
  intro w G m a s t
  have hv : a.eval o = .bool b := evO_ok s t ho
  cases b with
  | true => exact wp_cond hv (ht rfl w G m a s t)
  | false => exact wp_cond hv (hf rfl w G m a s t)

/-- What is known may be known less. -/
theorem W_sub {c : Code} {T' : Tm} (h : ∀ k x, get T' k = some x → get T k = some x) (hw : W X N c σ T' Q) : W X N c σ T Q :=
  fun w G m a s t => hw w G m a s (t.sub h)
end
end Go.Av

namespace Go.Av
open Go

/-- Behind a quiet operation: its value; the walk's own memory as it was; maybe new frozen memory. -/
def QPost (X : Cx) (w : World) (G : GM) (m : OM) (σ : Hp) (r : V) (v : Value) (w' : World) : Prop :=
  ∃ G', St X w' G' m σ ∧ Tran w G m σ w' G' m σ ∧ VRV G' m r v

def RunsQ (X : Cx) (w : World) (G : GM) (m : OM) (σ : Hp) (r : V) : Result Next → Prop
  | .ok (.value v) w' => QPost X w G m σ r v w'
  | .ok (.enter f args) w' => w' = w ∧ Calls X.P f args w fun e w'' => ∃ v, e = .returned v ∧ QPost X w G m σ r v w''
  | _ => False

/-- The operation yields r wherever its operands are as the temporaries say. -/
def Quiet (X : Cx) (o : Oper) (σ : Hp) (T : Tm) (r : V) : Prop :=
  ∀ w G m (ρ : Operand → Value), St X w G m σ → (∀ x, x ∈ o.op.operands → ∀ v, evO X T x = some v → VRV G m v (ρ x)) → RunsQ X w G m σ r ((execOp ρ o).run X.P w)

theorem QPost.same {X : Cx} {w : World} {G : GM} {m : OM} {σ : Hp} {r : V} {v : Value} (s : St X w G m σ) (h : VRV G m r v) : QPost X w G m σ r v w :=
  ⟨G, s, .refl _ _ _ _, h⟩

theorem Quiet.congr {X : Cx} {o : Oper} {σ : Hp} {T T' : Tm} {r : V} (h : Quiet X o σ T r) (hT : ∀ x, x ∈ o.op.operands → evO X T x = evO X T' x) : Quiet X o σ T' r :=
  fun w G m ρ s hρ => h w G m ρ s fun x hx v hv => hρ x hx v (by rw [← hT x hx]; exact hv)

section
variable {X : Cx} {w : World} {G : GM} {m : OM} {σ : Hp}

theorem und_int {t : Nat} {i : TI} {k : IntKind} (h : X.ty t = some i) (hk : i.k = .int k) : X.P.underlying t = some (.int k) := by
  have := (X.ok t i h).1; rw [hk] at this; exact this
theorem und_slice {t : Nat} {i : TI} {e : Nat} (h : X.ty t = some i) (hk : i.k = .slice e) : X.P.underlying t = some (.slice e) := by
  have := (X.ok t i h).1; rw [hk] at this; exact this
theorem und_str {t : Nat} {i : TI} (h : X.ty t = some i) (hk : i.k = .str) : X.P.underlying t = some .string := by
  have := (X.ok t i h).1; rw [hk] at this; exact this
theorem und_array {t : Nat} {i : TI} {n e : Nat} (h : X.ty t = some i) (hk : i.k = .array n e) : X.P.underlying t = some (.array n e) := by
  have := (X.ok t i h).1; rw [hk] at this; exact this
theorem und_struct {t : Nat} {i : TI} {fs : List (Nat × Nat)} (h : X.ty t = some i) (hk : i.k = .struct fs) : ∃ fields, X.P.underlying t = some (.struct fields) ∧ fields.toList.map (fun f => (f.offset, f.type)) = fs := by
  have := (X.ok t i h).1; rw [hk] at this; exact this
theorem run_sizeOf {t : Nat} {i : TI} (h : X.ty t = some i) (w : World) : (sizeOf t).run X.P w = .ok i.size w := by
  obtain ⟨inf, z, h1, h2, _⟩ := (X.ok t i h).2
  simp [sizeOf, typeInfo, h1, h2]
theorem run_bytes {t : Nat} {i : TI} (h : X.ty t = some i) : ∃ inf, X.P.info? t = some inf ∧ inf.size = i.size ∧ inf.bytes = i.bytes := by
  obtain ⟨inf, z, h1, h2, h3, _⟩ := (X.ok t i h).2
  exact ⟨inf, h1, h2, h3⟩
theorem run_isAgg {t : Nat} {i : TI} (h : X.ty t = some i) (w : World) : (isAgg t).run X.P w = .ok i.agg w := by
  have hk := (X.ok t i h).1
  unfold TI.agg
  cases hi : i.k with
  | int k => rw [hi] at hk; simp [isAgg, run_underlying hk]
  | bool => rw [hi] at hk; simp [isAgg, run_underlying hk]
  | str => rw [hi] at hk; simp [isAgg, run_underlying hk]
  | slice e => rw [hi] at hk; simp [isAgg, run_underlying hk]
  | struct fs => rw [hi] at hk; obtain ⟨fields, hk, _⟩ := hk; simp [isAgg, run_underlying hk]
  | array n e => rw [hi] at hk; simp [isAgg, run_underlying hk]
  | ptr e => rw [hi] at hk; simp [isAgg, run_underlying hk]
  | other =>
    rw [hi] at hk
    obtain ⟨d, hk, hd⟩ := hk
    cases d <;> simp_all [isAgg, run_underlying hk]

theorem add_none (b o n : Nat) : (⟨b, o, none⟩ : Addr).add n = ⟨b, o + n, none⟩ := by
  unfold Addr.add; split <;> simp_all

/-- A variable read: its cells, at an address without a spot. -/
theorem run_loadAt {t : Nat} {i : TI} (h : X.ty t = some i) (b o : Nat) (us : List Value) (hl : us.length = i.size) (hc : ∀ (q : Nat) u, us[q]? = some u → w.cell? ⟨b, o + q, none⟩ = some u) (h1 : i.agg = false → i.size = 1) :
    (Instr.loadAt t (.pointer (some ⟨b, o, none⟩))).run X.P w = .ok (if i.agg then .agg us.toArray else us.getD 0 undef) w := by
  simp only [Instr.loadAt, Instr.sureAddr, loadVar, Sem.run_bind, Sem.run_pure, Result.andThen_ok, run_isAgg h]
  cases ha : i.agg with
  | true =>
    simp only [if_true, Sem.run_bind, run_sizeOf h, Result.andThen_ok]
    rw [← hl, run_loadCells_list (P := X.P) (w := w) _ us (fun q u hu => by rw [add_none]; exact hc q u hu)]
    simp
  | false =>
    have := h1 ha
    match us, hl with
    | [u], _ =>
      have := hc 0 u rfl
      simp at this
      simp [this]
    | [], hl => simp at hl; omega
    | _ :: _ :: _, hl => simp at hl; omega

end

/-! ### which value an operation yields, and under which condition -/
def inR : IntKind → Int → Prop
  | .i8, z => -128 ≤ z ∧ z ≤ 127
  | .i16, z => -32768 ≤ z ∧ z ≤ 32767
  | .i32, z => -2147483648 ≤ z ∧ z ≤ 2147483647
  | .i64, z => -9223372036854775808 ≤ z ∧ z ≤ 9223372036854775807
  | .u8, z => 0 ≤ z ∧ z ≤ 255
  | .u16, z => 0 ≤ z ∧ z ≤ 65535
  | .u32, z => 0 ≤ z ∧ z ≤ 4294967295
  | .u64, z => 0 ≤ z ∧ z ≤ 18446744073709551615

theorem wrap_inR {k : IntKind} {z : Int} (h : inR k z) : k.wrap z = z := by
  cases k <;> simp only [inR] at h <;> simp [IntKind.wrap, IntKind.bits, IntKind.signed] <;> omega

def evField (X : Cx) (t f : Nat) : Option V → Option (V × Prop)
  | some (.agg cs) =>
    match X.ty t with
    | some ⟨.struct fs, _, _, _⟩ =>
      match fs[f]? with
      | some (off, ft) =>
        match X.ty ft with
        | some i => if i.agg then (if off + i.size ≤ cs.length then some (.agg ((cs.drop off).take i.size), True) else none) else cs[off]?.map fun a => (.cell a, True)
        | none => none
      | none => none
    | _ => none
  | _ => none

def evFieldAddr (X : Cx) (t f : Nat) : Option V → Option (V × Prop)
  | some (.cell a) =>
    match X.ty t with
    | some ⟨.struct fs, _, _, _⟩ =>
      match fs[f]? with
      | some (off, ft) =>
        match X.ty ft with
        | some i =>
          if i.size = 0 then none else
          match a with
          | .c (.ptr sz len row i j) => some (.cell (.c (.ptr sz len row i (j + off))), True)
          | .op b ver sz i j => some (.cell (.op b ver sz i (j + off)), True)
          | _ => none
        | none => none
      | none => none
    | _ => none
  | _ => none

def evIndexAddr (X : Cx) (t : Nat) : Option V → Option V → Option (V × Prop)
  | some (.cell a), some (.cell (.c (.int _ n))) =>
    match X.ty t with
    | some ⟨.slice e, _, _, _⟩ =>
      match X.ty e with
      | some i =>
        match a with
        | .c (.sl len sz row) => if i.size = sz then some (.cell (.c (.ptr sz len row n.toNat 0)), 0 ≤ n ∧ n < len) else none
        | .sl b ver len => some (.cell (.op b ver i.size n.toNat 0), 0 ≤ n ∧ n < len)
        | _ => none
      | none => none
    | some ⟨.array len e, _, _, _⟩ =>
      match X.ty e with
      | some i =>
        match a with
        | .c (.ptr sz l row x y) => some (.cell (.c (.ptr sz l row x (y + n.toNat * i.size))), 0 ≤ n ∧ n < len)
        | .op b ver sz x y => some (.cell (.op b ver sz x (y + n.toNat * i.size)), 0 ≤ n ∧ n < len)
        | _ => none
      | none => none
    | _ => none
  | _, _ => none

def evIndex (X : Cx) (t : Nat) : Option V → Option V → Option (V × Prop)
  | some (.agg cs), some (.cell (.c (.int _ n))) =>
    match X.ty t with
    | some ⟨.array len e, _, _, _⟩ =>
      match X.ty e with
      | some i => if i.agg = false ∧ i.size = 1 ∧ cs.length = len then some (.cell (cs.getD n.toNat (.c .jk)), 0 ≤ n ∧ n < len) else none
      | none => none
    | _ => none
  | some (.cell (.c (.str s))), some (.cell (.c (.int _ n))) =>
    match X.ty t with
    | some ⟨.str, _, _, _⟩ => some (.cell (.c (.int .u8 ((s.data.getD n.toNat 0).toNat : Int))), 0 ≤ n ∧ n < s.size)
    | _ => none
  | _, _ => none

def mkPart (i : TI) (f : Nat → A) (b : Nat) : V := if i.agg then .agg ((List.range i.size).map fun q => f (b + q)) else .cell (f b)

def evLoad (X : Cx) (σ : Hp) (t : Nat) : Option V → Option (V × Prop)
  | some (.cell (.c (.ptr sz _ row a b))) =>
    match X.ty t with
    | some i => if b + i.size ≤ sz ∧ (i.agg = true ∨ i.size = 1) then some (mkPart i (fun q => .c (row a q)) b, True) else none
    | none => none
  | some (.cell (.op k ver sz a b)) =>
    match X.ty t, σ[k]? with
    | some i, some (some B) => if b + i.size ≤ sz ∧ sz = B.sz ∧ (i.agg = true ∨ i.size = 1) then some (mkPart i (fun q => B.cell a q) b, ver = B.ver) else none
    | _, _ => none
  | _ => none

/-- an operation that was passed over yields nothing -/
def nosk : Option V → Option V | some (.tup 0 _) => none | x => x
theorem nosk_some {x : Option V} {v : V} (h : nosk x = some v) : x = some v := by
  unfold nosk at h
  split at h
  · cases h
  · exact h
def evPick : Bool → Option V → Option V → Option (V × Prop)
  | bc, some (.cell (.c (.bool p))), some (.cell (.c (.bool q))) => some (.cell (.c (.bool (bif bc then p else q))), True)
  | bc, some v, none => some (v, bc = true)
  | bc, none, some v => some (v, bc = false)
  | _, _, _ => none

def eqC : C → C → Option Bool
  | .int k a, .int k' b => if k = k' then some (decide (a = b)) else none
  | .bool a, .bool b => some (a == b)
  | _, _ => none

def evBin (X : Cx) (op : BinOp) : Option V → Option V → Option (V × Prop)
  | some (.cell (.c (.int k x))), some (.cell (.c (.int k' y))) =>
    let i (z : Int) (p : Prop) : Option (V × Prop) := some (.cell (.c (.int k z)), p)
    let b (p : Bool) : Option (V × Prop) := some (.cell (.c (.bool p)), True)
    match op with
    | .shl => i (x * 2 ^ y.toNat) (0 ≤ y ∧ y < k.bits ∧ inR k (x * 2 ^ y.toNat))
    | .shr => i (x / 2 ^ y.toNat) (0 ≤ y ∧ y ≤ k.bits)
    | _ =>
      if k = k' then
        match op with
        | .add => i (x + y) (inR k (x + y))
        | .sub => i (x - y) (inR k (x - y))
        | .mul => i (x * y) (inR k (x * y))
        | .quo => i (x / y) (0 ≤ x ∧ 0 < y ∧ inR k (x / y))
        | .rem => i (x % y) (0 ≤ x ∧ 0 < y)
        | .and => i ((x.toNat &&& y.toNat : Nat) : Int) (0 ≤ x ∧ 0 ≤ y ∧ inR k x ∧ inR k y)
        | .eql => b (decide (x = y))
        | .neq => b (!decide (x = y))
        | .lss => b (decide (x < y))
        | .leq => b (decide (x ≤ y))
        | .gtr => b (decide (x > y))
        | .geq => b (decide (x ≥ y))
        | _ => none
      else none
  | some (.cell (.c (.str s))), some (.cell (.c (.str t))) =>
    let b (p : Bool) : Option (V × Prop) := some (.cell (.c (.bool p)), True)
    match op with
    | .add => some (.cell (.c (.str (s ++ t))), s.size + t.size ≤ 9223372036854775807)
    | .eql => b (s.toList == t.toList)
    | .neq => b (!(s.toList == t.toList))
    | _ => none
  | _, _ => none

def evUn (op : UnOp) : Option V → Option (V × Prop)
  | some (.cell (.c (.bool p))) => match op with | .not => some (.cell (.c (.bool (!p))), True) | _ => none
  | some (.cell (.c (.int k x))) => match op with | .neg => some (.cell (.c (.int k (0 - x))), inR k (0 - x)) | _ => none
  | _ => none

def evConv (X : Cx) (src dst : Nat) : Option V → Option (V × Prop)
  | some (.cell (.c (.int _ x))) =>
    match X.ty dst, X.ty src with
    | some ⟨.int k, _, _, _⟩, some _ => some (.cell (.c (.int k x)), inR k x)
    | _, _ => none
  | some (.cell (.c (.str s))) =>
    match X.ty src, X.ty dst with
    | some ⟨.str, _, _, _⟩, some ⟨.str, _, _, _⟩ => some (.cell (.c (.str s)), True)
    | _, _ => none
  | _ => none

def evLen (X : Cx) (t : Nat) : Option V → Option (V × Prop)
  | some (.cell (.c (.sl len _ _))) => match X.ty t with | some ⟨.slice _, _, _, _⟩ => some (.cell (.c (.int .i64 len)), True) | _ => none
  | some (.cell (.c .nsl)) => match X.ty t with | some ⟨.slice _, _, _, _⟩ => some (.cell (.c (.int .i64 0)), True) | _ => none
  | some (.cell (.sl _ _ len)) => match X.ty t with | some ⟨.slice _, _, _, _⟩ => some (.cell (.c (.int .i64 len)), True) | _ => none
  | some (.cell (.c (.str s))) => match X.ty t with | some ⟨.str, _, _, _⟩ => some (.cell (.c (.int .i64 s.size)), True) | _ => none
  | _ => none

def evMm (mn : Bool) : Option V → Option V → Option (V × Prop)
  | some (.cell (.c (.int k x))), some (.cell (.c (.int _ y))) => some (.cell (.c (.int k (if mn then (if y < x then y else x) else (if y > x then y else x)))), True)
  | _, _ => none

def evExtract (j : Nat) : Option V → Option (V × Prop)
  | some (.tup n f) => if j < n then some (f j, True) else none
  | _ => none

def frz : List (Option V) → Option (List C)
  | [] => some []
  | some (.cell (.c x)) :: r => (frz r).map (x :: ·)
  | _ => none
def cells : List (Option V) → Option (List A)
  | [] => some []
  | some (.cell a) :: r => (cells r).map (a :: ·)
  | _ => none

def evFunc (fn : Fn) (first : Array Operand) (caps : List (Option V)) : Option (V × Prop) :=
  match fn with
  | .func f => if first.size = 0 then
      match frz caps with
      | some l => some (.cell (.c (.fn f l.length fun i => l.getD i .jk)), True)
      | none => (cells caps).map fun l => (.cell (.clos f l.length fun i => l.getD i (.c .jk)), True)
    else none
  | _ => none

def cellsV : V → Option (List A)
  | .cell a => some [a]
  | .agg cs => some cs
  | .tup .. => none

def putRow (zs : List A) (o : Nat) (cs : List A) : List A := zs.take o ++ cs ++ zs.drop (o + cs.length)

def fillA (place : Nat → Option (Nat × Nat)) (zs : List A) : List (Nat × Option V) → Option (List A)
  | [] => some zs
  | (i, some v) :: r =>
    match place i, cellsV v with
    | some (o, n), some cs => if cs.length = n ∧ o + n ≤ zs.length then fillA place (putRow zs o cs) r else none
    | _, _ => none
  | _ => none

def places (X : Cx) : List (Nat × Nat) → Option (List (Nat × Nat))
  | [] => some []
  | p :: r => match X.ty p.2, places X r with | some ti, some l => some ((p.1, ti.size) :: l) | _, _ => none

def evBuild (X : Cx) (t : Nat) (ps : List (Nat × Option V)) : Option (V × Prop) :=
  match X.ty t with
  | some ⟨.struct fs, _, _, z⟩ => (places X fs).bind fun l => (fillA (fun i => l[i]?) (z.map .c) ps).map fun cs => (.agg cs, True)
  | some ⟨.array _ e, _, _, z⟩ => (X.ty e).bind fun ti => (fillA (fun i => some (i * ti.size, ti.size)) (z.map .c) ps).map fun cs => (.agg cs, True)
  | _ => none

def evSlice (X : Cx) (t : Nat) (x : Option V) (lo hi : Option (Option V)) (mx : Bool) : Option (V × Prop) :=
  if mx then none else
  match x, lo.getD (some (.cell (.c (.int .i64 0)))) with
  | some (.cell (.c (.sl len sz row))), some (.cell (.c (.int _ l))) =>
    match X.ty t with
    | some ⟨.slice e, _, _, _⟩ =>
      match X.ty e, hi.getD (some (.cell (.c (.int .i64 len)))) with
      | some i, some (.cell (.c (.int _ h))) => if i.size = sz then some (.cell (.c (.sl (h.toNat - l.toNat) sz fun i j => row (l.toNat + i) j)), 0 ≤ l ∧ l ≤ h ∧ h ≤ len) else none
      | _, _ => none
    | _ => none
  | some (.cell (.c (.str s))), some (.cell (.c (.int _ l))) =>
    match X.ty t with
    | some ⟨.str, _, _, _⟩ =>
      match hi.getD (some (.cell (.c (.int .i64 s.size)))) with
      | some (.cell (.c (.int _ h))) => some (.cell (.c (.str (s.extract l.toNat h.toNat))), 0 ≤ l ∧ l ≤ h ∧ h ≤ s.size)
      | _ => none
    | _ => none
  | _, _ => none

def ev (X : Cx) (σ : Hp) (T : Tm) (o : Oper) : Option (V × Prop) :=
  match o.op with
  | .move x | .assign x => (evO X T x).map (·, True)
  | .pick c a b => match evO X T c with | some (.cell (.c (.bool bc))) => evPick bc (nosk (evO X T a)) (nosk (evO X T b)) | _ => none
  | .field t x f => evField X t f (evO X T x)
  | .fieldAddr t x f => evFieldAddr X t f (evO X T x)
  | .indexAddr t x ix => evIndexAddr X t (evO X T x) (evO X T ix)
  | .index t x ix => evIndex X t (evO X T x) (evO X T ix)
  | .load t x => evLoad X σ t (evO X T x)
  | .binOp op _ x y _ => evBin X op (evO X T x) (evO X T y)
  | .unOp op _ x => evUn op (evO X T x)
  | .convert s d x => evConv X s d (evO X T x)
  | .extract x j => evExtract j (evO X T x)
  | .makeFunc fn first caps => evFunc fn first (caps.toList.map (evO X T))
  | .build t ps => evBuild X t (ps.toList.map fun p => (p.1, evO X T p.2))
  | .slice t x lo hi mx => evSlice X t (evO X T x) (lo.map (evO X T)) (hi.map (evO X T)) mx.isSome
  | .nilCheck x => match evO X T x with | some (.cell (.op b ver sz i j)) => some (.cell (.op b ver sz i j), True) | some (.cell (.c (.ptr sz l r i j))) => some (.cell (.c (.ptr sz l r i j)), True) | _ => none
  | .call ⟨.builtin .len, args, ts⟩ => match args.toList, ts.toList with | [x], [t] => evLen X t (evO X T x) | _, _ => none
  | .call ⟨.builtin .min, args, _⟩ => match args.toList with | [x, y] => evMm true (evO X T x) (evO X T y) | _ => none
  | .call ⟨.builtin .max, args, _⟩ => match args.toList with | [x, y] => evMm false (evO X T x) (evO X T y) | _ => none
  | _ => none
end Go.Av

namespace Go.Av
open Go

section
variable {X : Cx} {σ : Hp} {T : Tm} {o : Oper} {r : V} {φ : Prop}

/-- A quiet operation that leaves the world alone: its run. -/
theorem quiet_of_run (h : ∀ w G m (ρ : Operand → Value), St X w G m σ → (∀ x, x ∈ o.op.operands → ∀ v, evO X T x = some v → VRV G m v (ρ x)) →
    ∃ v, (execOp ρ o).run X.P w = .ok (.value v) w ∧ VRV G m r v) : Quiet X o σ T r := by
  intro w G m ρ s hρ
  obtain ⟨v, h1, h2⟩ := h w G m ρ s hρ
  rw [h1]
  exact QPost.same s h2

theorem ok_move {x : Operand} (ho : o.op = .move x ∨ o.op = .assign x) (he : (evO X T x).map (·, True) = some (r, φ)) : Quiet X o σ T r := by
  simp only [Option.map_eq_some_iff, Prod.mk.injEq] at he
  obtain ⟨v, hv, rfl, -⟩ := he
  refine quiet_of_run fun w G m ρ _ hρ => ⟨ρ x, ?_, ?_⟩
  · rcases ho with ho | ho <;> simp [execOp, ho]
  · rcases ho with ho | ho <;> exact hρ x (by simp [ho, Op.operands]) v hv

theorem ok_field {t f : Nat} {x : Operand} (ho : o.op = .field t x f) (he : evField X t f (evO X T x) = some (r, φ)) : Quiet X o σ T r := by
  unfold evField at he
  split at he
  case h_2 => cases he
  rename_i cs hx
  split at he
  case h_2 => cases he
  rename_i fs _ _ _ ht
  split at he
  case h_2 => cases he
  rename_i off ft hf
  split at he
  case h_2 => cases he
  rename_i i hi
  obtain ⟨fields, hu, hfs⟩ := und_struct ht rfl
  refine quiet_of_run fun w G m ρ _ hρ => ?_
  obtain ⟨vs, hvx, hl, hvs⟩ := hρ x (by simp [ho, Op.operands]) _ hx
  have hff : ∃ fd, fields[f]? = some fd ∧ fd.offset = off ∧ fd.type = ft := by
    have : (fields.toList.map fun f => (f.offset, f.type))[f]? = some (off, ft) := by rw [hfs]; exact hf
    simp only [List.getElem?_map, Option.map_eq_some_iff, Prod.mk.injEq, Array.getElem?_toList] at this
    obtain ⟨fd, h1, h2, h3⟩ := this
    exact ⟨fd, h1, h2, h3⟩
  obtain ⟨fd, hfd, rfl, rfl⟩ := hff
  have hrun : (execOp ρ o).run X.P w = ((part fd.type vs fd.offset).run X.P w).andThen fun v w => .ok (.value v) w := by
    simp [execOp, ho, Instr.field, run_underlying hu, hvx, hfd, asAgg]
  rw [hrun]
  simp only [part, Sem.run_bind, run_isAgg hi, Result.andThen_ok]
  cases ha : i.agg with
  | true =>
    simp only [ha, if_true] at he
    split at he
    case isFalse => cases he
    rename_i hle
    simp only [Option.some.injEq, Prod.mk.injEq] at he
    obtain ⟨rfl, -⟩ := he
    refine ⟨.agg (vs.extract fd.offset (fd.offset + i.size)), by simp [run_sizeOf hi], vs.extract fd.offset (fd.offset + i.size), rfl, ?_, ?_⟩
    · simp at hl ⊢; omega
    · intro q a hq
      simp only [List.getElem?_take, List.getElem?_drop] at hq
      split at hq
      case isFalse => cases hq
      rename_i hlt
      obtain ⟨u, hu', hr⟩ := hvs _ _ hq
      refine ⟨u, ?_, hr⟩
      simp only [Array.toList_extract, List.extract_eq_take_drop, List.getElem?_take, List.getElem?_drop]
      rw [if_pos (by omega)]
      exact hu'
  | false =>
    simp only [ha, Bool.false_eq_true, if_false, Option.map_eq_some_iff, Prod.mk.injEq] at he
    obtain ⟨a, hq, rfl, -⟩ := he
    obtain ⟨u, hu', hr⟩ := hvs _ _ hq
    refine ⟨u, ?_, hr⟩
    have : vs[fd.offset]? = some u := by simpa using hu'
    simp [this]

theorem ok_fieldAddr {t f : Nat} {x : Operand} (ho : o.op = .fieldAddr t x f) (he : evFieldAddr X t f (evO X T x) = some (r, φ)) : Quiet X o σ T r := by
  unfold evFieldAddr at he
  split at he
  case h_2 => cases he
  rename_i a hx
  split at he
  case h_2 => cases he
  rename_i fs _ _ _ ht
  split at he
  case h_2 => cases he
  rename_i off ft hf
  split at he
  case h_2 => cases he
  rename_i i hi
  split at he
  case isTrue => cases he
  rename_i hne
  obtain ⟨fields, hu, hfs⟩ := und_struct ht rfl
  refine quiet_of_run fun w G m ρ _ hρ => ?_
  have hvx := hρ x (by simp [ho, Op.operands]) _ hx
  have hff : ∃ fd, fields[f]? = some fd ∧ fd.offset = off ∧ fd.type = ft := by
    have : (fields.toList.map fun f => (f.offset, f.type))[f]? = some (off, ft) := by rw [hfs]; exact hf
    simp only [List.getElem?_map, Option.map_eq_some_iff, Prod.mk.injEq, Array.getElem?_toList] at this
    obtain ⟨fd, h1, h2, h3⟩ := this
    exact ⟨fd, h1, h2, h3⟩
  obtain ⟨fd, hfd, rfl, rfl⟩ := hff
  have hrun : ∀ b p, ρ x = .pointer (some ⟨b, p, none⟩) → (execOp ρ o).run X.P w = .ok (.value (.pointer (some ⟨b, p + fd.offset, none⟩))) w := by
    intro b p hp
    simp [execOp, ho, Instr.fieldAt, run_underlying hu, hp, hfd, Instr.sureAddr, fieldPlace, run_sizeOf hi, hne, add_none]
  split at he
  · simp only [Option.some.injEq, Prod.mk.injEq] at he
    obtain ⟨rfl, -⟩ := he
    obtain ⟨blk, p, arr, hp, h1, h2, h3⟩ := hvx
    exact ⟨_, hrun _ _ hp, blk, p, arr, by simp [Nat.add_assoc], h1, h2, h3⟩
  · simp only [Option.some.injEq, Prod.mk.injEq] at he
    obtain ⟨rfl, -⟩ := he
    obtain ⟨g, n, cp, h1, h2, hp⟩ := hvx
    exact ⟨_, hrun _ _ hp, g, n, cp, h1, h2, by simp [Nat.add_assoc]⟩
  · cases he

theorem ok_indexAddr {t : Nat} {x ix : Operand} (ho : o.op = .indexAddr t x ix) (he : evIndexAddr X t (evO X T x) (evO X T ix) = some (r, φ)) (hφ : φ) : Quiet X o σ T r := by
  unfold evIndexAddr at he
  split at he
  case h_2 => cases he
  rename_i a k n hx hix
  split at he
  · rename_i e _ _ _ ht
    split at he
    case h_2 => cases he
    rename_i i hi
    have hu := und_slice ht rfl
    refine quiet_of_run fun w G m ρ _ hρ => ?_
    have hvx := hρ x (by simp [ho, Op.operands]) _ hx
    have hvi : ρ ix = .int k n := hρ ix (by simp [ho, Op.operands]) _ hix
    have hrun : ∀ b p len cp, ρ x = .slice (some ⟨b, p, none⟩) len cp → 0 ≤ n ∧ n < (len : Int) → (execOp ρ o).run X.P w = .ok (.value (.pointer (some ⟨b, p + n.toNat * i.size, none⟩))) w := by
      intro b p len cp hp hn
      simp [execOp, ho, Instr.indexAt, run_underlying hu, hp, hvi, asIntOf, hn, run_sizeOf hi, add_none]
    split at he
    · rename_i len sz row
      split at he
      case isFalse => cases he
      rename_i hsz
      simp only [Option.some.injEq, Prod.mk.injEq] at he
      obtain ⟨rfl, rfl⟩ := he
      obtain ⟨ad, cap, hp, h1, -, h2⟩ := hvx
      rcases h2 with h2 | ⟨blk, off, arr, rfl, hG, hc⟩
      · omega
      · refine ⟨_, hrun _ _ _ _ hp hφ, blk, off, arr, ?_, ?_, hG, hc⟩
        · simp [hsz]
        · omega
    · rename_i b ver len
      simp only [Option.some.injEq, Prod.mk.injEq] at he
      obtain ⟨rfl, rfl⟩ := he
      obtain ⟨h1, h2, h3⟩ := hvx
      rcases h3 with ⟨h3, h4⟩ | ⟨g, cp, h3⟩
      · omega
      · refine ⟨_, hrun _ _ _ _ h3 hφ, g, len, cp, ?_, ?_, ?_⟩
        · rw [h1, h3]
        · omega
        · simp
    · cases he
  · rename_i len e _ _ _ ht
    split at he
    case h_2 => cases he
    rename_i i hi
    have hu := und_array ht rfl
    refine quiet_of_run fun w G m ρ _ hρ => ?_
    have hvx := hρ x (by simp [ho, Op.operands]) _ hx
    have hvi : ρ ix = .int k n := hρ ix (by simp [ho, Op.operands]) _ hix
    have hrun : ∀ b p, ρ x = .pointer (some ⟨b, p, none⟩) → 0 ≤ n ∧ n < (len : Int) → (execOp ρ o).run X.P w = .ok (.value (.pointer (some ⟨b, p + n.toNat * i.size, none⟩))) w := by
      intro b p hp hn
      simp [execOp, ho, Instr.indexAt, run_underlying hu, hp, hvi, asIntOf, hn, run_sizeOf hi, add_none, Instr.sureAddr]
    split at he
    · simp only [Option.some.injEq, Prod.mk.injEq] at he
      obtain ⟨rfl, rfl⟩ := he
      obtain ⟨blk, p, arr, hp, h1, h2, h3⟩ := hvx
      exact ⟨_, hrun _ _ hp hφ, blk, p, arr, by simp [Nat.add_assoc], h1, h2, h3⟩
    · simp only [Option.some.injEq, Prod.mk.injEq] at he
      obtain ⟨rfl, rfl⟩ := he
      obtain ⟨g, c, cp, h1, h2, hp⟩ := hvx
      exact ⟨_, hrun _ _ hp hφ, g, c, cp, h1, h2, by simp [Nat.add_assoc]⟩
    · cases he
  · cases he

/-- the cells of a part, read off a frozen row -/
theorem mkPart_ok {G : GM} {m : OM} {i : TI} {f : Nat → A} {b : Nat} {us : List Value} (hl : us.length = i.size) (hu : ∀ (q : Nat) u, us[q]? = some u → VRA G m (f (b + q)) u) (h1 : i.agg = true ∨ i.size = 1) :
    VRV G m (mkPart i f b) (if i.agg then .agg us.toArray else us.getD 0 undef) := by
  unfold mkPart
  cases ha : i.agg with
  | true =>
    refine ⟨us.toArray, by simp, ?_, ?_⟩
    · simp [hl]
    · intro q a hq
      simp only [List.getElem?_map, Option.map_eq_some_iff] at hq
      obtain ⟨q', hq', rfl⟩ := hq
      obtain ⟨h2, rfl⟩ := List.getElem?_eq_some_iff.1 hq'
      simp only [List.length_range] at h2
      refine ⟨us[q]'(by omega), by simp, ?_⟩
      simp only [List.getElem_range]
      exact hu q _ (List.getElem?_eq_getElem (by omega))
  | false =>
    rcases h1 with h1 | h1
    · rw [ha] at h1; cases h1
    · match us, hl with
      | [u], _ => exact hu 0 u rfl
      | [], hl => simp at hl; omega
      | _ :: _ :: _, hl => simp at hl; omega

theorem cell?_of_fro {w : World} {b p : Nat} {arr : Array Value} (h : ∃ t fr, w.heap[b]? = some (.cells arr t fr)) : w.cell? ⟨b, p, none⟩ = arr[p]? := by
  obtain ⟨t, fr, h⟩ := h
  simp [World.cell?, h]

theorem ok_load_run {t : Nat} {x : Operand} (ho : o.op = .load t x) (he : evLoad X σ t (evO X T x) = some (r, φ)) (hφ : φ) : ∀ w G m (ρ : Operand → Value), St X w G m σ → (∀ x, x ∈ o.op.operands → ∀ v, evO X T x = some v → VRV G m v (ρ x)) → ∃ v, (execOp ρ o).run X.P w = .ok (.value v) w ∧ VRV G m r v := by
  unfold evLoad at he
  split at he
  · rename_i sz len row a b hx
    split at he
    case h_2 => cases he
    rename_i i hi
    split at he
    case isFalse => cases he
    rename_i hc
    simp only [Option.some.injEq, Prod.mk.injEq] at he
    obtain ⟨rfl, -⟩ := he
    intro w G m ρ s hρ
    obtain ⟨blk, off, arr, hp, hlt, hG, hcell⟩ := hρ x (by simp [ho, Op.operands]) _ hx
    have hget : ∀ q, q < i.size → ∃ u, arr[off + (a * sz + b) + q]? = some u ∧ VRC G (row a (b + q)) u := by
      intro q hq
      obtain ⟨u, h1, h2⟩ := hcell a hlt (b + q) (by omega)
      exact ⟨u, by rw [← h1]; congr 1; omega, h2⟩
    let us : List Value := (List.range i.size).map fun q => (arr[off + (a * sz + b) + q]?).getD undef
    have hus : ∀ (q : Nat) u, us[q]? = some u → arr[off + (a * sz + b) + q]? = some u ∧ VRC G (row a (b + q)) u := by
      intro q u hq
      simp only [us, List.getElem?_map, Option.map_eq_some_iff] at hq
      obtain ⟨q', hq', rfl⟩ := hq
      obtain ⟨h2, rfl⟩ := List.getElem?_eq_some_iff.1 hq'
      simp only [List.length_range] at h2
      simp only [List.getElem_range]
      obtain ⟨u, h3, h4⟩ := hget q h2
      simp [h3, h4]
    refine ⟨_, ?_, mkPart_ok (us := us) (by simp [us]) (fun q u hq => (hus q u hq).2) hc.2⟩
    have := run_loadAt (w := w) hi blk (off + (a * sz + b)) us (by simp [us]) (fun q u hq => by rw [cell?_of_fro (s.fro _ _ hG)]; exact (hus q u hq).1) (fun ha => hc.2.resolve_left (by simp [ha]))
    simp [execOp, ho, hp, this]
  · rename_i k ver sz a b hx
    split at he
    case h_2 => cases he
    rename_i i B hi hB
    split at he
    case isFalse => cases he
    rename_i hc
    simp only [Option.some.injEq, Prod.mk.injEq] at he
    obtain ⟨rfl, rfl⟩ := he
    subst hφ
    intro w G m ρ s hρ
    obtain ⟨g, n, cp, hm, hlt, hp⟩ := hρ x (by simp [ho, Op.operands]) _ hx
    obtain ⟨v, hv, ⟨xs, hown, hcell⟩, -⟩ := s.own _ _ hB
    obtain rfl : v = _ := Option.some.inj (hv.symm.trans hm)
    have hn : n = B.len := by
      rcases hown.2 with ⟨h, _⟩ | ⟨g', cap, cur, h, _⟩ <;> cases h <;> rfl
    subst hn
    have hread := hown.cells (g := g) rfl
    have hget : ∀ q, q < i.size → ∃ u, w.cell? ⟨g, a * sz + b + q, none⟩ = some u ∧ VRA G m (B.cell a (b + q)) u := by
      intro q hq
      obtain ⟨u, h1, h2⟩ := hcell a hlt (b + q) (by omega)
      refine ⟨u, ?_, h2⟩
      have := hread _ _ h1
      rw [add_none] at this
      rw [← this]; congr 2; rw [hc.2.1]; omega
    let us : List Value := (List.range i.size).map fun q => (w.cell? ⟨g, a * sz + b + q, none⟩).getD undef
    have hus : ∀ (q : Nat) u, us[q]? = some u → w.cell? ⟨g, a * sz + b + q, none⟩ = some u ∧ VRA G m (B.cell a (b + q)) u := by
      intro q u hq
      simp only [us, List.getElem?_map, Option.map_eq_some_iff] at hq
      obtain ⟨q', hq', rfl⟩ := hq
      obtain ⟨h2, rfl⟩ := List.getElem?_eq_some_iff.1 hq'
      simp only [List.length_range] at h2
      simp only [List.getElem_range]
      obtain ⟨u, h3, h4⟩ := hget q h2
      simp [h3, h4]
    refine ⟨_, ?_, mkPart_ok (us := us) (by simp [us]) (fun q u hq => (hus q u hq).2) hc.2.2⟩
    have := run_loadAt (w := w) hi g (a * sz + b) us (by simp [us]) (fun q u hq => (hus q u hq).1) (fun ha => hc.2.2.resolve_left (by simp [ha]))
    simp [execOp, ho, hp, this]
  · cases he

theorem ok_load {t : Nat} {x : Operand} (ho : o.op = .load t x) (he : evLoad X σ t (evO X T x) = some (r, φ)) (hφ : φ) : Quiet X o σ T r := quiet_of_run (ok_load_run ho he hφ)

theorem ok_index {t : Nat} {x ix : Operand} (ho : o.op = .index t x ix) (he : evIndex X t (evO X T x) (evO X T ix) = some (r, φ)) (hφ : φ) : Quiet X o σ T r := by
  unfold evIndex at he
  split at he
  · rename_i cs k n hx hix
    split at he
    case h_2 => cases he
    rename_i len e _ _ _ ht
    split at he
    case h_2 => cases he
    rename_i i hi
    split at he
    case isFalse => cases he
    rename_i hc
    simp only [Option.some.injEq, Prod.mk.injEq] at he
    obtain ⟨rfl, rfl⟩ := he
    have hu := und_array ht rfl
    refine quiet_of_run fun w G m ρ _ hρ => ?_
    obtain ⟨vs, hvx, hl, hvs⟩ := hρ x (by simp [ho, Op.operands]) _ hx
    have hvi : ρ ix = .int k n := hρ ix (by simp [ho, Op.operands]) _ hix
    have hlt : n.toNat < cs.length := by have := hc.2.2; omega
    obtain ⟨u, hu', hr⟩ := hvs n.toNat _ (List.getElem?_eq_getElem hlt)
    refine ⟨u, ?_, ?_⟩
    · have h1 : vs[n.toNat]? = some u := by simpa using hu'
      simp [execOp, ho, Instr.index, hvx, hvi, asIntOf, run_underlying hu, hφ, run_sizeOf hi, part, run_isAgg hi, hc.1, hc.2.1, h1]
    · show VRA G m _ u
      rw [List.getD_eq_getElem?_getD, List.getElem?_eq_getElem hlt]
      exact hr
  · rename_i s k n hx hix
    split at he
    case h_2 => cases he
    rename_i _ _ _ ht
    simp only [Option.some.injEq, Prod.mk.injEq] at he
    obtain ⟨rfl, rfl⟩ := he
    have hu := und_str ht rfl
    refine quiet_of_run fun w G m ρ _ hρ => ?_
    have hvx : ρ x = .string s := hρ x (by simp [ho, Op.operands]) _ hx
    have hvi : ρ ix = .int k n := hρ ix (by simp [ho, Op.operands]) _ hix
    have hlt : n.toNat < s.size := by omega
    have hb : s[n.toNat]? = some s[n.toNat] := by simp [hlt]
    refine ⟨_, ?_, rfl⟩
    have hd : s.data.getD n.toNat 0 = s[n.toNat] := by
      rw [Array.getD, dif_pos (show n.toNat < s.data.size from hlt)]; rfl
    simp [execOp, ho, Instr.index, hvx, hvi, asIntOf, run_underlying hu, hφ.1, hb, hd]
  · cases he

theorem ok_pick {c a b : Operand} (ho : o.op = .pick c a b) {bc : Bool} (hc : evO X T c = some (.cell (.c (.bool bc)))) (he : evPick bc (nosk (evO X T a)) (nosk (evO X T b)) = some (r, φ)) (hφ : φ) : Quiet X o σ T r := by
  refine quiet_of_run fun w G m ρ _ hρ => ?_
  have hvc : ρ c = .bool bc := hρ c (by simp [ho, Op.operands]) _ hc
  refine ⟨if bc then ρ a else ρ b, by cases bc <;> simp [execOp, ho, hvc, asBool], ?_⟩
  have hoa : ∀ v, nosk (evO X T a) = some v → VRV G m v (ρ a) := fun v hv => hρ a (by simp [ho, Op.operands]) v (nosk_some hv)
  have hob : ∀ v, nosk (evO X T b) = some v → VRV G m v (ρ b) := fun v hv => hρ b (by simp [ho, Op.operands]) v (nosk_some hv)
  clear hρ hc hvc
  generalize nosk (evO X T a) = va at he hoa
  generalize nosk (evO X T b) = vb at he hob
  unfold evPick at he
  split at he
  · simp only [Option.some.injEq, Prod.mk.injEq] at he
    obtain ⟨rfl, -⟩ := he
    have hva := hoa _ rfl
    have hvb := hob _ rfl
    cases bc
    · exact hvb
    · exact hva
  · simp only [Option.some.injEq, Prod.mk.injEq] at he
    obtain ⟨rfl, rfl⟩ := he
    subst hφ
    exact hoa _ rfl
  · simp only [Option.some.injEq, Prod.mk.injEq] at he
    obtain ⟨rfl, rfl⟩ := he
    subst hφ
    exact hob _ rfl
  · cases he

theorem eqGuard_int {op : BinOp} {t : TypeId} {x y : Operand} {k k' : IntKind} {a b : Int} {w : World} : (eqGuard op t x y (.int k a) (.int k' b)).run X.P w = .ok () w := by
  unfold eqGuard; cases op <;> simp
theorem eqGuard_str {op : BinOp} {t : TypeId} {x y : Operand} {a b : ByteArray} {w : World} : (eqGuard op t x y (.string a) (.string b)).run X.P w = .ok () w := by
  unfold eqGuard; cases op <;> simp

theorem bits_and {k : IntKind} {x y : Int} (h0 : 0 ≤ x) (h1 : 0 ≤ y) (hx : inR k x) (hy : inR k y) {w : World} : (Op.intBits .and k x y).run X.P w = .ok (.int k ((x.toNat &&& y.toNat : Nat) : Int)) w := by
  obtain ⟨a, rfl⟩ := Int.eq_ofNat_of_zero_le h0
  obtain ⟨b, rfl⟩ := Int.eq_ofNat_of_zero_le h1
  have ha : a < 2 ^ k.bits := by cases k <;> simp only [inR, IntKind.bits] at hx ⊢ <;> omega
  have hb : b < 2 ^ k.bits := by cases k <;> simp only [inR, IntKind.bits] at hy ⊢ <;> omega
  have hle : a &&& b ≤ a := Nat.and_le_left
  have hr : inR k ((a &&& b : Nat) : Int) := by cases k <;> simp only [inR] at hx ⊢ <;> omega
  simp only [Op.intBits, BitVec.ofInt_natCast, Sem.run_pure, BitVec.toNat_and, BitVec.toNat_ofNat, Nat.mod_eq_of_lt ha, Nat.mod_eq_of_lt hb, Int.toNat_natCast]
  rw [wrap_inR hr]

set_option maxHeartbeats 800000 in
theorem ok_bin {op : BinOp} {t t' : Nat} {x y : Operand} (ho : o.op = .binOp op t x y t') (he : evBin X op (evO X T x) (evO X T y) = some (r, φ)) (hφ : φ) : Quiet X o σ T r := by
  refine quiet_of_run fun w G m ρ _ hρ => ?_
  unfold evBin at he
  split at he
  · rename_i k a k' b hx hy
    have hvx : ρ x = .int k a := hρ x (by simp [ho, Op.operands]) _ hx
    have hvy : ρ y = .int k' b := hρ y (by simp [ho, Op.operands]) _ hy
    have hrun : ∀ v, (binOp op t (.int k a) (.int k' b)).run X.P w = .ok v w → (execOp ρ o).run X.P w = .ok (.value v) w := by
      intro v hv
      simp [execOp, ho, hvx, hvy, eqGuard_int, hv]
    dsimp only at he
    cases op
    case shl =>
      simp only [Option.some.injEq, Prod.mk.injEq] at he
      obtain ⟨rfl, rfl⟩ := he
      refine ⟨_, hrun _ ?_, rfl⟩
      have hb1 : ¬ b < 0 := by omega
      have hb2 : min b.toNat k.bits = b.toNat := by omega
      simp [binOp, Op.shift, hb1, hb2, wrap_inR hφ.2.2]
    case shr =>
      simp only [Option.some.injEq, Prod.mk.injEq] at he
      obtain ⟨rfl, rfl⟩ := he
      refine ⟨_, hrun _ ?_, rfl⟩
      have hb1 : ¬ b < 0 := by omega
      have hb2 : min b.toNat k.bits = b.toNat := by omega
      have hp : (0 : Int) ≤ 2 ^ b.toNat := Int.pow_nonneg (by omega)
      simp [binOp, Op.shift, hb1, hb2, Int.fdiv_eq_ediv_of_nonneg _ hp]
    all_goals
      simp only [] at he
      split at he
      case isFalse => cases he
      rename_i hk
      subst hk
    case h_1.add.isTrue | h_1.sub.isTrue | h_1.mul.isTrue =>
      all_goals
        simp only [Option.some.injEq, Prod.mk.injEq] at he
        obtain ⟨rfl, rfl⟩ := he
        exact ⟨_, hrun _ (by simp [binOp, Op.intArith, wrap_inR hφ]), rfl⟩
    case h_1.quo.isTrue =>
      simp only [Option.some.injEq, Prod.mk.injEq] at he
      obtain ⟨rfl, rfl⟩ := he
      refine ⟨_, hrun _ ?_, rfl⟩
      have hb : ¬ b = 0 := by omega
      simp [binOp, Op.intDiv, hb, Int.tdiv_eq_ediv_of_nonneg hφ.1, wrap_inR hφ.2.2]
    case h_1.rem.isTrue =>
      simp only [Option.some.injEq, Prod.mk.injEq] at he
      obtain ⟨rfl, rfl⟩ := he
      refine ⟨_, hrun _ ?_, rfl⟩
      have hb : ¬ b = 0 := by omega
      simp [binOp, Op.intDiv, hb, Int.tmod_eq_emod_of_nonneg hφ.1]
    case h_1.and.isTrue =>
      simp only [Option.some.injEq, Prod.mk.injEq] at he
      obtain ⟨rfl, rfl⟩ := he
      refine ⟨_, hrun _ ?_, rfl⟩
      simp [binOp, bits_and hφ.1 hφ.2.1 hφ.2.2.1 hφ.2.2.2]
    case h_1.eql.isTrue | h_1.neq.isTrue | h_1.lss.isTrue | h_1.leq.isTrue | h_1.gtr.isTrue | h_1.geq.isTrue =>
      all_goals
        simp only [Option.some.injEq, Prod.mk.injEq] at he
        obtain ⟨rfl, -⟩ := he
        refine ⟨_, hrun _ (by simp only [binOp, ne_eq, not_true_eq_false, if_false, Op.intCmp, Sem.run_pure]; rfl), ?_⟩
        simp [VRV, VRA, VRC, bne, BEq.beq]
    all_goals cases he
  · rename_i s s' hx hy
    have hvx : ρ x = .string s := hρ x (by simp [ho, Op.operands]) _ hx
    have hvy : ρ y = .string s' := hρ y (by simp [ho, Op.operands]) _ hy
    have hrun : ∀ v, (binOp op t (.string s) (.string s')).run X.P w = .ok v w → (execOp ρ o).run X.P w = .ok (.value v) w := by
      intro v hv
      simp [execOp, ho, hvx, hvy, eqGuard_str, hv]
    dsimp only at he
    cases op
    case add =>
      simp only [Option.some.injEq, Prod.mk.injEq] at he
      obtain ⟨rfl, rfl⟩ := he
      refine ⟨_, hrun _ ?_, rfl⟩
      have hno : ¬ (((s.size + s'.size : Nat) : Int) > IntKind.i64.max) := by simp [IntKind.max, IntKind.bits, IntKind.signed]; omega
      simp only [binOp, Op.stringOp, if_neg hno, Sem.run_pure]
    case eql | neq =>
      all_goals
        simp only [Option.some.injEq, Prod.mk.injEq] at he
        obtain ⟨rfl, -⟩ := he
        exact ⟨_, hrun _ (by simp [binOp, Op.stringOp]), rfl⟩
    all_goals cases he
  · cases he

theorem ok_un {op : UnOp} {t : Nat} {x : Operand} (ho : o.op = .unOp op t x) (he : evUn op (evO X T x) = some (r, φ)) (hφ : φ) : Quiet X o σ T r := by
  refine quiet_of_run fun w G m ρ _ hρ => ?_
  unfold evUn at he
  split at he
  · rename_i p hx
    have hvx : ρ x = .bool p := hρ x (by simp [ho, Op.operands]) _ hx
    cases op <;> simp only [Option.some.injEq, Prod.mk.injEq, reduceCtorEq] at he
    obtain ⟨rfl, -⟩ := he
    exact ⟨.bool (!p), by simp [execOp, ho, hvx, Op.unary], rfl⟩
  · rename_i k n hx
    have hvx : ρ x = .int k n := hρ x (by simp [ho, Op.operands]) _ hx
    cases op <;> simp only [Option.some.injEq, Prod.mk.injEq, reduceCtorEq] at he
    obtain ⟨rfl, rfl⟩ := he
    exact ⟨.int k (0 - n), by simp only [execOp, ho, hvx, Op.unary, Op.intArith]; rw [wrap_inR hφ]; rfl, rfl⟩
  · cases he

theorem ok_conv {s d : Nat} {x : Operand} (ho : o.op = .convert s d x) (he : evConv X s d (evO X T x) = some (r, φ)) (hφ : φ) : Quiet X o σ T r := by
  refine quiet_of_run fun w G m ρ _ hρ => ?_
  unfold evConv at he
  split at he
  · rename_i k n hx
    have hvx : ρ x = .int k n := hρ x (by simp [ho, Op.operands]) _ hx
    split at he
    case h_2 => cases he
    rename_i kd _ _ _ i hd hs
    simp only [Option.some.injEq, Prod.mk.injEq] at he
    obtain ⟨rfl, rfl⟩ := he
    have hud := und_int hd rfl
    have hus : ∃ ds, X.P.underlying s = some ds := by
      have := (X.ok s _ hs).1
      cases hk : i.k <;> rw [hk] at this <;> first | exact ⟨_, this⟩ | (obtain ⟨f, h, _⟩ := this; exact ⟨_, h⟩)
    obtain ⟨ds, hus⟩ := hus
    refine ⟨.int kd n, ?_, rfl⟩
    simp [execOp, ho, hvx, convert, run_underlying hus, run_underlying hud, Conv.intToInt, wrap_inR hφ]
  · rename_i st hx
    have hvx : ρ x = .string st := hρ x (by simp [ho, Op.operands]) _ hx
    split at he
    case h_2 => cases he
    rename_i _ _ _ _ _ _ hs hd
    simp only [Option.some.injEq, Prod.mk.injEq] at he
    obtain ⟨rfl, -⟩ := he
    refine ⟨.string st, ?_, rfl⟩
    simp [execOp, ho, hvx, convert, run_underlying (und_str hs rfl), run_underlying (und_str hd rfl)]
  · cases he

theorem ok_len {t : Nat} {x : Operand} {args : Array Operand} {ts : Array TypeId} (ho : o.op = .call ⟨.builtin .len, args, ts⟩) (ha : args.toList = [x]) (hts : ts.toList = [t]) (he : evLen X t (evO X T x) = some (r, φ)) : Quiet X o σ T r := by
  obtain rfl : args = #[x] := by rw [← Array.toArray_toList (xs := args), ha]
  obtain rfl : ts = #[t] := by rw [← Array.toArray_toList (xs := ts), hts]
  refine quiet_of_run fun w G m ρ _ hρ => ?_
  have hop : ∀ v, evO X T x = some v → VRV G m v (ρ x) := fun v hv => hρ x (by simp [ho, Op.operands, Call.operands]) v hv
  have hrun : ∀ v, (Builtin.len_ #[t] o.type #[ρ x]).run X.P w = .ok v w → (execOp ρ o).run X.P w = .ok (.value v) w := by
    intro v hv
    simp [execOp, ho, resolve, invoke, builtin, hv]
  unfold evLen at he
  split at he
  · rename_i len sz row hx
    split at he
    case h_2 => cases he
    rename_i e _ _ _ ht
    simp only [Option.some.injEq, Prod.mk.injEq] at he
    obtain ⟨rfl, -⟩ := he
    obtain ⟨a, cap, hv, _⟩ := hop _ hx
    exact ⟨_, hrun _ (by simp [Builtin.len_, run_underlying (und_slice ht rfl), hv]; rfl), rfl⟩
  · rename_i hx
    split at he
    case h_2 => cases he
    rename_i e _ _ _ ht
    simp only [Option.some.injEq, Prod.mk.injEq] at he
    obtain ⟨rfl, -⟩ := he
    have hv : ρ x = .slice none 0 0 := hop _ hx
    exact ⟨_, hrun _ (by simp [Builtin.len_, run_underlying (und_slice ht rfl), hv]; rfl), rfl⟩
  · rename_i b ver len hx
    split at he
    case h_2 => cases he
    rename_i e _ _ _ ht
    simp only [Option.some.injEq, Prod.mk.injEq] at he
    obtain ⟨rfl, -⟩ := he
    obtain ⟨h1, h2, h3⟩ := hop _ hx
    rcases h3 with ⟨hv, rfl⟩ | ⟨g, cp, hv⟩
    · exact ⟨_, hrun _ (by simp [Builtin.len_, run_underlying (und_slice ht rfl), hv]; rfl), rfl⟩
    · exact ⟨_, hrun _ (by simp [Builtin.len_, run_underlying (und_slice ht rfl), hv]; rfl), rfl⟩
  · rename_i s hx
    split at he
    case h_2 => cases he
    rename_i _ _ _ ht
    simp only [Option.some.injEq, Prod.mk.injEq] at he
    obtain ⟨rfl, -⟩ := he
    have hv : ρ x = .string s := hop _ hx
    exact ⟨_, hrun _ (by simp [Builtin.len_, run_underlying (und_str ht rfl), hv]; rfl), rfl⟩
  · cases he

theorem ok_mm {mn : Bool} {x y : Operand} {args : Array Operand} {ts : Array TypeId} (ho : o.op = .call ⟨.builtin (if mn then .min else .max), args, ts⟩) (ha : args.toList = [x, y]) (he : evMm mn (evO X T x) (evO X T y) = some (r, φ)) : Quiet X o σ T r := by
  obtain rfl : args = #[x, y] := by rw [← Array.toArray_toList (xs := args), ha]
  refine quiet_of_run fun w G m ρ _ hρ => ?_
  unfold evMm at he
  split at he
  case h_2 => cases he
  rename_i k a k' b hx hy
  have hvx : ρ x = .int k a := hρ x (by simp [ho, Op.operands, Call.operands]) _ hx
  have hvy : ρ y = .int k' b := hρ y (by simp [ho, Op.operands, Call.operands]) _ hy
  simp only [Option.some.injEq, Prod.mk.injEq] at he
  obtain ⟨rfl, -⟩ := he
  cases mn
  · exact ⟨_, by simp [execOp, ho, resolve, invoke, builtin, Builtin.max_, Builtin.max2, hvx, hvy], rfl⟩
  · exact ⟨_, by simp [execOp, ho, resolve, invoke, builtin, Builtin.min_, Builtin.min2, hvx, hvy], rfl⟩

theorem ok_extract {x : Operand} {j : Nat} (ho : o.op = .extract x j) (he : evExtract j (evO X T x) = some (r, φ)) : Quiet X o σ T r := by
  refine quiet_of_run fun w G m ρ _ hρ => ?_
  unfold evExtract at he
  split at he
  case h_2 => cases he
  rename_i n f hx
  split at he
  case isFalse => cases he
  rename_i hj
  simp only [Option.some.injEq, Prod.mk.injEq] at he
  obtain ⟨rfl, -⟩ := he
  obtain ⟨vs, hv, hs, hc⟩ := hρ x (by simp [ho, Op.operands]) _ hx
  obtain ⟨u, hu, hr⟩ := hc j hj
  exact ⟨u, by simp [execOp, ho, Instr.extract, hv, hu], hr⟩
end
end Go.Av

namespace Go.Av
open Go

section
variable {X : Cx} {σ : Hp} {T : Tm} {o : Oper} {r : V} {φ : Prop}

theorem frz_ok {G : GM} {m : OM} : ∀ {xs : List (Option V)} {l : List C} {vs : List Value}, frz xs = some l → xs.length = vs.length → (∀ (i : Nat) x v, xs[i]? = some (some x) → vs[i]? = some v → VRV G m x v) →
    l.length = vs.length ∧ ∀ (i : Nat) c, l[i]? = some c → ∃ u, vs[i]? = some u ∧ VRC G c u
  | [], l, vs, h, hl, _ => by
    obtain rfl := Option.some.inj h
    exact ⟨hl, fun i c hc => by simp at hc⟩
  | x :: xs, l, [], _, hl, _ => by simp at hl
  | x :: xs, l, v :: vs, h, hl, hv => by
    match x, h with
    | some (.cell (.c x)), h =>
      simp only [frz, Option.map_eq_some_iff] at h
      obtain ⟨l', h', rfl⟩ := h
      obtain ⟨h1, h2⟩ := frz_ok h' (by simpa using hl) (fun i x v hx hv' => hv (i + 1) x v (by simpa using hx) (by simpa using hv'))
      refine ⟨by simp [h1], fun i c hc => ?_⟩
      cases i with
      | zero => simp at hc; subst hc; exact ⟨v, rfl, hv 0 _ _ rfl rfl⟩
      | succ i => simpa using h2 i c (by simpa using hc)

theorem cells_ok {G : GM} {m : OM} : ∀ {xs : List (Option V)} {l : List A} {vs : List Value}, cells xs = some l → xs.length = vs.length → (∀ (i : Nat) x v, xs[i]? = some (some x) → vs[i]? = some v → VRV G m x v) →
    VRL G m l vs
  | [], l, vs, h, hl, _ => by
    obtain rfl := Option.some.inj h
    exact ⟨hl.symm, fun i c hc => by simp at hc⟩
  | x :: xs, l, [], _, hl, _ => by simp at hl
  | x :: xs, l, v :: vs, h, hl, hv => by
    match x, h with
    | some (.cell x), h =>
      simp only [cells, Option.map_eq_some_iff] at h
      obtain ⟨l', h', rfl⟩ := h
      obtain ⟨h1, h2⟩ := cells_ok h' (by simpa using hl) (fun i x v hx hv' => hv (i + 1) x v (by simpa using hx) (by simpa using hv'))
      refine ⟨by simp [h1], fun i c hc => ?_⟩
      cases i with
      | zero => simp at hc; subst hc; exact ⟨v, rfl, hv 0 _ _ rfl rfl⟩
      | succ i => simpa using h2 i c (by simpa using hc)

theorem ok_func {fn : Fn} {first caps : Array Operand} (ho : o.op = .makeFunc fn first caps) (he : evFunc fn first (caps.toList.map (evO X T)) = some (r, φ)) : Quiet X o σ T r := by
  refine quiet_of_run fun w G m ρ _ hρ => ?_
  unfold evFunc at he
  split at he
  case h_2 => cases he
  rename_i f
  split at he
  case isFalse => cases he
  rename_i h0
  obtain rfl : first = #[] := Array.eq_empty_of_size_eq_zero h0
  have hrun : (execOp ρ o).run X.P w = .ok (.value (.func (.func f) #[] (caps.map ρ))) w := by simp [execOp, ho, Instr.makeFunc]
  have hall : ∀ (i : Nat) x v, (caps.toList.map (evO X T))[i]? = some (some x) → (caps.map ρ).toList[i]? = some v → VRV G m x v := by
    intro i x v h1 h2
    simp only [List.getElem?_map, Option.map_eq_some_iff] at h1
    obtain ⟨op, h3, h4⟩ := h1
    simp only [Array.toList_map, List.getElem?_map, h3, Option.map_some, Option.some.injEq] at h2
    subst h2
    refine hρ op ?_ _ h4
    have : op ∈ caps := by simpa using List.mem_of_getElem? h3
    simp [ho, Op.operands, this]
  split at he
  · rename_i l hl
    simp only [Option.some.injEq, Prod.mk.injEq] at he
    obtain ⟨rfl, -⟩ := he
    obtain ⟨h1, h2⟩ := frz_ok (vs := (caps.map ρ).toList) hl (by simp) hall
    refine ⟨_, hrun, caps.map ρ, rfl, by simpa using h1.symm, fun i hi => ?_⟩
    obtain ⟨u, h3, h4⟩ := h2 i _ (List.getElem?_eq_getElem hi)
    refine ⟨u, by simpa using h3, ?_⟩
    show VRC G (l.getD i .jk) u
    rw [List.getD_eq_getElem?_getD, List.getElem?_eq_getElem hi]
    exact h4
  · simp only [Option.map_eq_some_iff, Prod.mk.injEq] at he
    obtain ⟨l, hl, rfl, -⟩ := he
    obtain ⟨h1, h2⟩ := cells_ok (vs := (caps.map ρ).toList) hl (by simp) hall
    refine ⟨_, hrun, caps.map ρ, rfl, by simpa using h1, fun i hi => ?_⟩
    obtain ⟨u, h3, h4⟩ := h2 i _ (List.getElem?_eq_getElem hi)
    refine ⟨u, by simpa using h3, ?_⟩
    show VRA G m (l.getD i (.c .jk)) u
    rw [List.getD_eq_getElem?_getD, List.getElem?_eq_getElem hi]
    exact h4

/-- the cells of a value -/
theorem cellsV_ok {G : GM} {m : OM} {v : V} {cs : List A} {u : Value} (h : cellsV v = some cs) (hv : VRV G m v u) : VRL G m cs u.cells.toList := by
  cases v with
  | cell a =>
    obtain rfl := Option.some.inj h
    rw [cells_one (VRA.one hv)]
    exact ⟨rfl, fun i a' ha => by
      cases i with
      | zero => simp at ha; subst ha; exact ⟨u, rfl, hv⟩
      | succ i => simp at ha⟩
  | agg cs' =>
    obtain rfl := Option.some.inj h
    obtain ⟨vs, rfl, h1⟩ := hv
    exact h1
  | tup => cases h

theorem foldl_set (off : Nat) : ∀ (cs : List Value) (k : Nat) (zs : Array Value), off + k + cs.length ≤ zs.size →
    ((cs.zipIdx k).foldl (fun (a : Array Value) (p : Value × Nat) => a.setIfInBounds (off + p.2) p.1) zs).toList = zs.toList.take (off + k) ++ cs ++ zs.toList.drop (off + k + cs.length)
  | [], k, zs, _ => by simp
  | c :: cs, k, zs, h => by
    simp only [List.zipIdx_cons, List.foldl_cons]
    rw [foldl_set off cs (k + 1) _ (by simp at h ⊢; omega)]
    simp at h
    have h1 : off + k < zs.toList.length := by simp; omega
    simp only [Array.toList_setIfInBounds, List.length_cons]
    rw [List.set_eq_take_append_cons_drop, if_pos h1]
    have e1 : (List.take (off + k) zs.toList).length = off + k := by simp; omega
    have h2 : List.take (off + (k + 1)) (List.take (off + k) zs.toList ++ c :: List.drop (off + k + 1) zs.toList) = List.take (off + k) zs.toList ++ [c] := by
      rw [List.take_append, e1]
      have : off + (k + 1) - (off + k) = 1 := by omega
      rw [this, List.take_of_length_le (by rw [e1]; omega)]
      simp
    have h3 : List.drop (off + (k + 1) + cs.length) (List.take (off + k) zs.toList ++ c :: List.drop (off + k + 1) zs.toList) = List.drop (off + k + (cs.length + 1)) zs.toList := by
      rw [List.drop_append, e1]
      have : off + (k + 1) + cs.length - (off + k) = cs.length + 1 := by omega
      rw [this, List.drop_eq_nil_of_le (by rw [e1]; omega)]
      simp only [List.nil_append, List.drop_succ_cons, List.drop_drop]
      congr 1; omega
    rw [h2, h3]
    simp

theorem VRL.putRow {G : GM} {m : OM} {zs cs : List A} {us vs : List Value} {off : Nat} (hz : VRL G m zs us) (hc : VRL G m cs vs) (hle : off + cs.length ≤ zs.length) : VRL G m (putRow zs off cs) (us.take off ++ vs ++ us.drop (off + vs.length)) := by
  refine ⟨?_, fun i a ha => ?_⟩
  · simp [Av.putRow, hz.1, hc.1]
  · unfold Av.putRow at ha
    have l1 : (zs.take off).length = off := by simp; omega
    have l2 : (us.take off).length = off := by simp [hz.1]; omega
    by_cases h1 : i < off
    · rw [List.append_assoc, List.getElem?_append_left (by omega), List.getElem?_take, if_pos h1] at ha
      obtain ⟨u, hu, hr⟩ := hz.2 i a ha
      exact ⟨u, by rw [List.append_assoc, List.getElem?_append_left (by omega), List.getElem?_take, if_pos h1]; exact hu, hr⟩
    · rw [List.append_assoc, List.getElem?_append_right (by omega), l1] at ha
      by_cases h2 : i - off < cs.length
      · rw [List.getElem?_append_left h2] at ha
        obtain ⟨u, hu, hr⟩ := hc.2 _ a ha
        refine ⟨u, ?_, hr⟩
        rw [List.append_assoc, List.getElem?_append_right (by omega), l2, List.getElem?_append_left (by rw [hc.1]; exact h2)]
        exact hu
      · rw [List.getElem?_append_right (by omega), List.getElem?_drop] at ha
        obtain ⟨u, hu, hr⟩ := hz.2 _ a ha
        refine ⟨u, ?_, hr⟩
        rw [List.append_assoc, List.getElem?_append_right (by omega), l2, List.getElem?_append_right (by rw [hc.1]; omega), List.getElem?_drop, hc.1]
        exact hu

theorem fill_ok {G : GM} {m : OM} {place : Nat → Option (Nat × Nat)} {ρ : Operand → Value} : ∀ (ps : List (Nat × Operand)) (zs cs : List A) (us : Array Value), VRL G m zs us.toList →
    fillA place zs (ps.map fun p => (p.1, evO X T p.2)) = some cs → (∀ p ∈ ps, ∀ v, evO X T p.2 = some v → VRV G m v (ρ p.2)) →
    ∃ vs, Instr.fill place us (ps.map fun p => (p.1, ρ p.2)) = some vs ∧ VRL G m cs vs.toList
  | [], zs, cs, us, hz, h, _ => by
    obtain rfl := Option.some.inj h
    exact ⟨us, rfl, hz⟩
  | (i, op) :: ps, zs, cs, us, hz, h, hρ => by
    simp only [List.map_cons] at h ⊢
    cases hv : evO X T op with
    | none => rw [hv] at h; cases h
    | some v =>
      rw [hv] at h
      simp only [fillA] at h
      split at h
      case h_2 => cases h
      rename_i off n cs' hp hc
      split at h
      case isFalse => cases h
      rename_i hlen
      have hr := cellsV_ok hc (hρ (i, op) (by simp) v hv)
      have hl1 : (ρ op).cells.size = cs'.length := by simpa using hr.1
      have hzs := hz.1
      simp at hzs
      have key := foldl_set off (ρ op).cells.toList 0 us (by simp; omega)
      obtain ⟨vs, h1, h2⟩ := fill_ok ps (putRow zs off cs') cs ((ρ op).cells.zipIdx.foldl (fun cs (c, j) => cs.setIfInBounds (off + j) c) us) (by
        have e : ((ρ op).cells.zipIdx.foldl (fun (cs : Array Value) (x : Value × Nat) => cs.setIfInBounds (off + x.2) x.1) us).toList = us.toList.take off ++ (ρ op).cells.toList ++ us.toList.drop (off + (ρ op).cells.toList.length) := by
          rw [← Array.foldl_toList, Array.toList_zipIdx]
          simpa using key
        show VRL G m _ ((ρ op).cells.zipIdx.foldl (fun (cs : Array Value) (x : Value × Nat) => cs.setIfInBounds (off + x.2) x.1) us).toList
        rw [e]
        exact VRL.putRow hz hr (by omega)) h (fun p hp => hρ p (by simp [hp]))
      refine ⟨vs, ?_, h2⟩
      simp only [Instr.fill, hp]
      rw [if_neg (by simp; omega)]
      exact h1

theorem zero_ok {t : Nat} {i : TI} (h : X.ty t = some i) {G : GM} {m : OM} : ∃ z, (∀ w, (zeroValue t).run X.P w = .ok z w) ∧ VRL G m (i.zero.map .c) z.cells.toList ∧ z.cells.size = i.size ∧ isAggV z = i.agg ∧ ∀ u ∈ z.cells.toList, u.oneCell' = true := by
  obtain ⟨inf, z, h1, h2, h3, h4, h5, h6, h7, h8⟩ := (X.ok t i h).2
  have hone : ∀ u ∈ z.cells.toList, u.oneCell' = true := List.all_eq_true.1 h8
  refine ⟨z, fun w => by simp [zeroValue, typeInfo, h1, h4], ⟨by rw [← h5]; simp, fun j a ha => ?_⟩, h7, h6, hone⟩
  simp only [← h5, List.map_map, List.getElem?_map, Option.map_eq_some_iff, Function.comp] at ha
  obtain ⟨u, hu, rfl⟩ := ha
  refine ⟨u, hu, ?_⟩
  have h1 := hone u (List.mem_of_getElem? hu)
  show VRC G (ofConstC u) u
  unfold ofConstC
  split <;> simp_all [VRC]

theorem places_run : ∀ (fs : List Field) (l : List (Nat × Nat)), places X (fs.map fun f => (f.offset, f.type)) = some l → ∀ w, (fs.mapM (m := Sem) fun f => do pure (f.offset, ← sizeOf f.type)).run X.P w = .ok l w
  | [], l, h, w => by obtain rfl := Option.some.inj h; simp
  | f :: fs, l, h, w => by
    simp only [List.map_cons, places] at h
    split at h
    case h_2 => cases h
    rename_i ti l' hti hl
    obtain rfl := Option.some.inj h
    have := places_run fs l' hl w
    simp only [List.mapM_cons, Sem.run_bind, run_sizeOf hti, Result.andThen_ok, Sem.run_pure, this]
theorem run_places (fields : Array Field) (l : List (Nat × Nat)) (h : places X (fields.toList.map fun f => (f.offset, f.type)) = some l) (w : World) : (fields.mapM (m := Sem) fun f => do pure (f.offset, ← sizeOf f.type)).run X.P w = .ok l.toArray w := by
  rw [Array.mapM_eq_mapM_toList, Sem.run_map, places_run fields.toList l h w]
  rfl

theorem ok_build {t : Nat} {ps : Array (Nat × Operand)} (ho : o.op = .build t ps) (he : evBuild X t (ps.toList.map fun p => (p.1, evO X T p.2)) = some (r, φ)) : Quiet X o σ T r := by
  refine quiet_of_run fun w G m ρ _ hρ => ?_
  have hops : ∀ p ∈ ps.toList, ∀ v, evO X T p.2 = some v → VRV G m v (ρ p.2) := by
    intro p hp v hv
    refine hρ p.2 ?_ v hv
    simp [ho, Op.operands]
    exact ⟨p.1, by simpa using hp⟩
  unfold evBuild at he
  split at he
  · rename_i fs sz by' z ht
    obtain ⟨fields, hu, hfs⟩ := und_struct ht rfl
    simp only [Option.bind_eq_some_iff, Option.map_eq_some_iff, Prod.mk.injEq] at he
    obtain ⟨l, hl, cs, hcs, rfl, -⟩ := he
    obtain ⟨zv, hz1, hz2, -⟩ := zero_ok ht (G := G) (m := m)
    obtain ⟨vs, h1, h2⟩ := fill_ok (ρ := ρ) ps.toList _ _ zv.cells hz2 hcs hops
    refine ⟨.agg vs, ?_, vs, rfl, h2⟩
    have hpl : (fields.mapM (m := Sem) fun f => do pure (f.offset, ← sizeOf f.type)).run X.P w = .ok l.toArray w := run_places fields l (by rw [hfs]; exact hl) w
    simp only [execOp, ho, Instr.build, Sem.run_bind, hz1, Result.andThen_ok, run_underlying hu, hpl]
    have e : (ps.map fun x => (x.1, ρ x.2)).toList = ps.toList.map fun p => (p.1, ρ p.2) := by simp
    have e2 : (fun (i : Nat) => l.toArray[i]?) = fun (i : Nat) => l[i]? := by funext i; simp
    rw [e, e2, h1]
    rfl
  · rename_i n e sz by' z ht
    have hu := und_array ht rfl
    simp only [Option.bind_eq_some_iff, Option.map_eq_some_iff, Prod.mk.injEq] at he
    obtain ⟨ti, hti, cs, hcs, rfl, -⟩ := he
    obtain ⟨zv, hz1, hz2, -⟩ := zero_ok ht (G := G) (m := m)
    obtain ⟨vs, h1, h2⟩ := fill_ok (ρ := ρ) ps.toList _ _ zv.cells hz2 hcs hops
    refine ⟨.agg vs, ?_, vs, rfl, h2⟩
    simp only [execOp, ho, Instr.build, Sem.run_bind, hz1, Result.andThen_ok, run_underlying hu, run_sizeOf hti]
    have e : (ps.map fun x => (x.1, ρ x.2)).toList = ps.toList.map fun p => (p.1, ρ p.2) := by simp
    rw [e, h1]
    rfl
  · cases he
end
end Go.Av

namespace Go.Av
open Go

section
variable {X : Cx} {σ : Hp} {T : Tm} {o : Oper} {r : V} {φ : Prop}

theorem run_bound {w : World} {k : IntKind} {n : Int} {y : Nat} {code : BoundsCode} (h : 0 ≤ n ∧ n ≤ (y : Int)) : (Instr.sliceBound (.int k n) y code).run X.P w = .ok n.toNat w := by
  simp [Instr.sliceBound, asIntOf, h]

theorem run_bounds {w : World} {s : Bool} {len cap : Nat} {lo hi : Option Value} {l h : Int} {k k' : IntKind} (hlo : (lo = none ∧ l = 0) ∨ lo = some (.int k l)) (hhi : (hi = none ∧ h = len) ∨ hi = some (.int k' h)) (h0 : 0 ≤ l) (h1 : l ≤ h) (h2 : h ≤ (cap : Int)) :
    (Instr.sliceBounds s len cap lo hi none).run X.P w = .ok (l.toNat, h.toNat, cap) w := by
  have e1 : l ≤ (h.toNat : Int) := by omega
  rcases hlo with ⟨rfl, rfl⟩ | rfl <;> rcases hhi with ⟨rfl, rfl⟩ | rfl
  · simp [Instr.sliceBounds]
  · have h3 : 0 ≤ h := by omega
    simp [Instr.sliceBounds, run_bound ⟨h3, h2⟩]
  · have e2 : l ≤ (len : Int) := h1
    simp [Instr.sliceBounds, run_bound ⟨h0, e2⟩]
  · have h3 : 0 ≤ h := by omega
    simp [Instr.sliceBounds, run_bound ⟨h3, h2⟩, run_bound ⟨h0, e1⟩]

theorem ok_slice {t : Nat} {x : Operand} {lo hi mx : Option Operand} (ho : o.op = .slice t x lo hi mx) (he : evSlice X t (evO X T x) (lo.map (evO X T)) (hi.map (evO X T)) mx.isSome = some (r, φ)) (hφ : φ) : Quiet X o σ T r := by
  refine quiet_of_run fun w G m ρ _ hρ => ?_
  unfold evSlice at he
  split at he
  case isTrue => cases he
  rename_i hmx
  obtain rfl : mx = none := by cases mx <;> simp_all
  have hopx : ∀ v, evO X T x = some v → VRV G m v (ρ x) := hρ x (by simp [ho, Op.operands])
  have hoplo : ∀ y, lo = some y → ∀ v, evO X T y = some v → VRV G m v (ρ y) := fun y hy => hρ y (by simp [ho, Op.operands, hy])
  have hophi : ∀ y, hi = some y → ∀ v, evO X T y = some v → VRV G m v (ρ y) := fun y hy => hρ y (by simp [ho, Op.operands, hy])
  have hlo' : ∀ k l, (lo.map (evO X T)).getD (some (.cell (.c (.int .i64 0)))) = some (.cell (.c (.int k l))) → (lo.map ρ = none ∧ l = 0) ∨ lo.map ρ = some (.int k l) := by
    intro k l h
    cases lo with
    | none => simp at h; exact .inl ⟨rfl, h.2.symm⟩
    | some y => simp at h; exact .inr (congrArg some (show ρ y = _ from hoplo y rfl _ h))
  have hhi' : ∀ (n : Nat) k l, (hi.map (evO X T)).getD (some (.cell (.c (.int .i64 n)))) = some (.cell (.c (.int k l))) → (hi.map ρ = none ∧ l = n) ∨ hi.map ρ = some (.int k l) := by
    intro n k l h
    cases hi with
    | none => simp at h; exact .inl ⟨rfl, h.2.symm⟩
    | some y => simp at h; exact .inr (congrArg some (show ρ y = _ from hophi y rfl _ h))
  clear hρ hoplo hophi
  split at he
  · rename_i len sz row k l hx hl
    split at he
    case h_2 => cases he
    rename_i e _ _ _ ht
    split at he
    case h_2 => cases he
    rename_i i k' h hi' hh
    split at he
    case isFalse => cases he
    rename_i hsz
    simp only [Option.some.injEq, Prod.mk.injEq] at he
    obtain ⟨rfl, rfl⟩ := he
    have hu := und_slice ht rfl
    obtain ⟨a, cap, hv, h1, h2, h3⟩ := hopx _ hx
    have hb := run_bounds (X := X) (w := w) (s := true) (cap := cap) (hlo' _ _ hl) (hhi' _ _ _ hh) hφ.1 hφ.2.1 (by omega)
    refine ⟨_, ?_, (if cap = l.toNat then a else a.map (·.add (l.toNat * i.size))), cap - l.toNat, rfl, by omega, by omega, ?_⟩
    · simp [execOp, ho, Instr.sliceAt, Instr.slice, run_underlying hu, hv, hb, run_sizeOf hi']
    · rcases h3 with h3 | ⟨blk, off, arr, rfl, hG, hc⟩
      · exact .inl (by omega)
      · by_cases h0 : h.toNat - l.toNat = 0
        · exact .inl h0
        · refine .inr ⟨blk, off + l.toNat * sz, arr, ?_, hG, fun i hi j hj => ?_⟩
          · rw [if_neg (by omega)]
            simp [add_none, hsz]
          · obtain ⟨u, hu', hr⟩ := hc (l.toNat + i) (by omega) j hj
            refine ⟨u, ?_, hr⟩
            rw [← hu']; congr 1; rw [Nat.add_mul]; omega
  · rename_i s k l hx hl
    split at he
    case h_2 => cases he
    rename_i _ _ _ ht
    split at he
    case h_2 => cases he
    rename_i k' h hh
    simp only [Option.some.injEq, Prod.mk.injEq] at he
    obtain ⟨rfl, rfl⟩ := he
    have hu := und_str ht rfl
    have hv : ρ x = .string s := hopx _ hx
    have hb := run_bounds (X := X) (w := w) (s := false) (cap := s.size) (hlo' _ _ hl) (hhi' _ _ _ hh) hφ.1 hφ.2.1 hφ.2.2
    refine ⟨_, ?_, rfl⟩
    simp [execOp, ho, Instr.sliceAt, Instr.slice, run_underlying hu, hv, hb]
  · cases he

theorem ok_nilCheck {x : Operand} (ho : o.op = .nilCheck x) {v : V} (hx : evO X T x = some v) (hv : (∃ b ver sz i j, v = .cell (.op b ver sz i j)) ∨ ∃ sz l r i j, v = .cell (.c (.ptr sz l r i j))) : Quiet X o σ T v := by
  refine quiet_of_run fun w G m ρ _ hρ => ?_
  have h := hρ x (by simp [ho, Op.operands]) _ hx
  refine ⟨ρ x, ?_, h⟩
  rcases hv with ⟨b, ver, sz, i, j, rfl⟩ | ⟨sz, l, r, i, j, rfl⟩
  · obtain ⟨g, n, cp, _, _, hp⟩ := h
    simp [execOp, ho, hp]
  · obtain ⟨g, n, cp, hp, _⟩ := h
    simp [execOp, ho, hp]

/-- **What 'ev' says is what the operation yields.** -/
theorem ev_ok (he : ev X σ T o = some (r, φ)) (hφ : φ) : Quiet X o σ T r := by
  unfold ev at he
  split at he
  · exact ok_move (.inl ‹_›) he
  · exact ok_move (.inr ‹_›) he
  · split at he
    case h_2 => cases he
    exact ok_pick ‹_› ‹_› he hφ
  · exact ok_field ‹_› he
  · exact ok_fieldAddr ‹_› he
  · exact ok_indexAddr ‹_› he hφ
  · exact ok_index ‹_› he hφ
  · exact ok_load ‹_› he hφ
  · exact ok_bin ‹_› he hφ
  · exact ok_un ‹_› he hφ
  · exact ok_conv ‹_› he hφ
  · exact ok_extract ‹_› he
  · exact ok_func ‹_› he
  · exact ok_build ‹_› he
  · exact ok_slice ‹_› he hφ
  · split at he
    · simp only [Option.some.injEq, Prod.mk.injEq] at he
      obtain ⟨rfl, -⟩ := he
      exact ok_nilCheck ‹_› ‹_› (.inl ⟨_, _, _, _, _, rfl⟩)
    · simp only [Option.some.injEq, Prod.mk.injEq] at he
      obtain ⟨rfl, -⟩ := he
      exact ok_nilCheck ‹_› ‹_› (.inr ⟨_, _, _, _, _, rfl⟩)
    · cases he
  · split at he
    case h_2 => cases he
    exact ok_len ‹_› ‹_› ‹_› he
  · split at he
    case h_2 => cases he
    exact ok_mm (mn := true) ‹_› ‹_› he
  · split at he
    case h_2 => cases he
    exact ok_mm (mn := false) ‹_› ‹_› he
  · cases he

/-! ### what nobody writes may grow -/
theorem ownsRow_frame {w w' : World} {e : TypeId} {sz : Nat} {v : Value} {n : Nat} {xs : List Value} (h : w.ownsRow 0 e sz v n xs) (hk : ∀ g, v.ownBlock = some g → w'.heap[g]? = w.heap[g]?) : w'.ownsRow 0 e sz v n xs := by
  refine ⟨h.1, ?_⟩
  rcases h.2 with h | ⟨g, cap, cur, rfl, h1, h2, h3⟩
  · exact .inl h
  · exact .inr ⟨g, cap, cur, rfl, h1, by rw [hk g rfl]; exact h2, h3⟩

theorem BlkAt.mono {w w' : World} {G G' : GM} {m m' : OM} {v : Value} {B : Blk} (h : BlkAt w G m v B) (hk : ∀ g, v.ownBlock = some g → w'.heap[g]? = w.heap[g]?) (hG : ∀ b arr, G b = some arr → G' b = some arr) (hm : ∀ i u v, m i u = some v → m' i u = some v) : BlkAt w' G' m' v B := by
  obtain ⟨xs, h1, h2⟩ := h
  refine ⟨xs, ownsRow_frame h1 hk, fun i hi j hj => ?_⟩
  obtain ⟨u, h3, h4⟩ := h2 i hi j hj
  exact ⟨u, h3, VRA.mono hG hm _ _ h4⟩

theorem BlkAt.lt {w : World} {G : GM} {m : OM} {v : Value} {B : Blk} (h : BlkAt w G m v B) {g : Nat} (hg : v.ownBlock = some g) : g < w.heap.size := by
  obtain ⟨xs, h1, -⟩ := h
  exact (h1.lt g hg).2

structure Grow (w : World) (G : GM) (w' : World) (G' : GM) : Prop where
  os : w'.os = w.os
  tape : w'.tape = w.tape
  output : w'.output = w.output
  size : w.heap.size ≤ w'.heap.size
  frame : ∀ k, k < w.heap.size → w'.heap[k]? = w.heap[k]?
  gext : ∀ b arr, G b = some arr → G' b = some arr
  gnew : ∀ b arr, G' b = some arr → G b = some arr ∨ w.heap.size ≤ b
  fro : ∀ b arr, G' b = some arr → ∃ t fr, w'.heap[b]? = some (.cells arr t fr)

theorem St.grow {w w' : World} {G G' : GM} {m : OM} (s : St X w G m σ) (g : Grow w G w' G') : St X w' G' m σ := by
  refine ⟨g.fro, fun k c hc => VRC.mono g.gext _ _ (s.glob k c hc), fun i B hB => ?_, s.sep, s.top, s.lim⟩
  obtain ⟨v, h1, h2, h3⟩ := s.own i B hB
  refine ⟨v, h1, h2.mono (fun k hk => g.frame k (h2.lt hk)) g.gext (fun _ _ _ h => h), fun k hk => ?_⟩
  cases hG : G' k with
  | none => rfl
  | some arr =>
    rcases g.gnew k arr hG with h | h
    · rw [h3 k hk] at h; cases h
    · have := h2.lt hk; omega

theorem Tran.grow {w w' : World} {G G' : GM} {m : OM} (g : Grow w G w' G') : Tran w G m σ w' G' m σ :=
  ⟨g.os, g.tape, g.output, g.size, fun k hk _ => g.frame k hk, g.gext, fun b arr h => (g.gnew b arr h).imp id .inr, fun _ h => .inl h, fun _ B h hv => ⟨⟨B, h, hv⟩, rfl⟩⟩

theorem Grow.refl {w : World} {G : GM} {m : OM} (s : St X w G m σ) : Grow w G w G :=
  ⟨rfl, rfl, rfl, Nat.le_refl _, fun _ _ => rfl, fun _ _ h => h, fun _ _ h => .inl h, s.fro⟩

theorem St.lt {w : World} {G : GM} {m : OM} (s : St X w G m σ) {b : Nat} {arr : Array Value} (h : G b = some arr) : b < w.heap.size := by
  obtain ⟨t, fr, h⟩ := s.fro b arr h
  exact (Array.getElem?_eq_some_iff.1 h).1

/-- a new block that nobody will write -/
theorem grow_alloc {w : World} {G : GM} {m : OM} (s : St X w G m σ) (arr : Array Value) (t : TypeId) :
    Grow w G (w.alloc (.cells arr t)) (fun b => if b = w.heap.size then some arr else G b) := by
  refine ⟨rfl, rfl, rfl, by simp, fun k hk => heap_alloc_old w _ hk, fun b a h => ?_, fun b a h => ?_, fun b a h => ?_⟩
  · have := s.lt h
    show (if b = w.heap.size then some arr else G b) = some a
    rw [if_neg (by omega)]; exact h
  · have h : (if b = w.heap.size then some arr else G b) = some a := h
    split at h
    · exact .inr (by omega)
    · exact .inl h
  · have h : (if b = w.heap.size then some arr else G b) = some a := h
    split at h
    · rename_i hb
      obtain rfl := Option.some.inj h
      subst hb
      exact ⟨t, (0, 0), heap_alloc_new w _⟩
    · have := s.lt h
      obtain ⟨t', fr, h2⟩ := s.fro b a h
      exact ⟨t', fr, by rw [heap_alloc_old w _ this]; exact h2⟩
end
end Go.Av

namespace Go.Av
open Go

section
variable {X : Cx} {σ : Hp} {T : Tm} {o : Oper} {r : V} {φ : Prop}

def frzA : List A → Option (List C)
  | [] => some []
  | .c x :: r => (frzA r).map (x :: ·)
  | _ => none

theorem frzA_ok {G : GM} {m : OM} : ∀ {cs : List A} {l : List C} {us : List Value}, frzA cs = some l → VRL G m cs us → l.length = us.length ∧ ∀ (i : Nat) c, l[i]? = some c → ∃ u, us[i]? = some u ∧ VRC G c u
  | [], l, us, h, hv => by
    obtain rfl := Option.some.inj h
    exact ⟨hv.1.symm, fun i c hc => by simp at hc⟩
  | x :: cs, l, us, h, hv => by
    match x, h with
    | .c x, h =>
      simp only [frzA, Option.map_eq_some_iff] at h
      obtain ⟨l', h', rfl⟩ := h
      match us, hv with
      | [], hv => have := hv.1; simp at this
      | u :: us, hv =>
        obtain ⟨h1, h2⟩ := frzA_ok (us := us) h' ⟨by have := hv.1; simpa using this, fun i a ha => by simpa using hv.2 (i + 1) a (by simpa using ha)⟩
        refine ⟨by simp [h1], fun i c hc => ?_⟩
        cases i with
        | zero => simp at hc; subst hc; obtain ⟨u', hu, hr⟩ := hv.2 0 _ rfl; exact ⟨u', hu, hr⟩
        | succ i => simpa using h2 i c (by simpa using hc)

theorem fillA_len (place : Nat → Option (Nat × Nat)) : ∀ (ps : List (Nat × Option V)) (zs cs : List A), fillA place zs ps = some cs → cs.length = zs.length
  | [], zs, cs, h => by rw [← Option.some.inj h]
  | (i, none) :: ps, zs, cs, h => by cases h
  | (i, some v) :: ps, zs, cs, h => by
    simp only [fillA] at h
    split at h
    case h_2 => cases h
    split at h
    case isFalse => cases h
    rename_i hc
    rw [fillA_len place ps _ cs h]
    simp [putRow]; omega

def evRow (X : Cx) (t n : Nat) (ps : List (Nat × Option V)) : Option V :=
  match X.ty t with
  | some ⟨.slice e, _, _, _⟩ =>
    match X.ty e with
    | some i =>
      if n * i.size ≤ 16777216 ∧ n ≤ 16777216 then
        ((fillA (fun j => some (j * i.size, i.size)) ((List.range (n * i.size)).map fun q => .c (i.zero.getD (q % i.size) .jk)) ps).bind frzA).map
          fun l => .cell (.c (.sl n i.size fun a b => l.getD (a * i.size + b) .jk))
      else none
    | none => none
  | _ => none

theorem QPost.grown {w w' : World} {G G' : GM} {m : OM} {v : Value} (s : St X w G m σ) (g : Grow w G w' G') (h : VRV G' m r v) : QPost X w G m σ r v w' :=
  ⟨G', s.grow g, .grow g, h⟩

theorem ok_row {t n : Nat} {ps : Array (Nat × Operand)} (ho : o.op = .buildSlice t n ps) (he : evRow X t n (ps.toList.map fun p => (p.1, evO X T p.2)) = some r) : Quiet X o σ T r := by
  intro w G m ρ s hρ
  have hops : ∀ p ∈ ps.toList, ∀ v, evO X T p.2 = some v → VRV G m v (ρ p.2) := by
    intro p hp v hv
    refine hρ p.2 ?_ v hv
    simp [ho, Op.operands]
    exact ⟨p.1, by simpa using hp⟩
  unfold evRow at he
  split at he
  case h_2 => cases he
  rename_i e _ _ _ ht
  split at he
  case h_2 => cases he
  rename_i i hi
  split at he
  case isFalse => cases he
  rename_i hn
  simp only [Option.map_eq_some_iff, Option.bind_eq_some_iff] at he
  obtain ⟨l, ⟨cs, hcs, hl⟩, rfl⟩ := he
  have hu := und_slice ht rfl
  obtain ⟨z, hz1, hz2, hz3, -, hz5⟩ := zero_ok hi (G := G) (m := m)
  let zs : Array Value := (Array.range (n * i.size)).map ((if n * i.size = 0 then #[] else z.cells)[· % (if n * i.size = 0 then #[] else z.cells).size]!)
  have hzs : VRL G m ((List.range (n * i.size)).map fun q => A.c (i.zero.getD (q % i.size) .jk)) zs.toList := by
    refine ⟨by simp [zs], fun q a hq => ?_⟩
    simp only [List.getElem?_map, Option.map_eq_some_iff] at hq
    obtain ⟨q', hq', rfl⟩ := hq
    obtain ⟨h2, rfl⟩ := List.getElem?_eq_some_iff.1 hq'
    simp only [List.length_range] at h2
    simp only [List.getElem_range]
    have hne : ¬ n * i.size = 0 := by omega
    have hpos : 0 < i.size := by
      rcases Nat.eq_zero_or_pos i.size with h | h
      · rw [h] at h2; omega
      · exact h
    have hlt : q % i.size < i.size := Nat.mod_lt _ hpos
    have hzl : (i.zero.map A.c).length = z.cells.size := by simpa using hz2.1.symm
    simp at hzl
    obtain ⟨u, hu1, hu2⟩ := hz2.2 (q % i.size) (.c (i.zero.getD (q % i.size) .jk)) (by
      rw [List.getElem?_map, List.getD_eq_getElem?_getD, List.getElem?_eq_getElem (by omega)]; rfl)
    refine ⟨u, ?_, hu2⟩
    have h3 : z.cells[q % i.size]? = some u := by simpa using hu1
    simp only [zs, hne, if_false, Array.toList_map, List.getElem?_map, Array.toList_range, hz3]
    rw [List.getElem?_range h2]
    simp [getElem!_def, h3]
  obtain ⟨vs, h1, h2⟩ := fill_ok (ρ := ρ) ps.toList _ _ zs hzs hcs hops
  obtain ⟨h3, h4⟩ := frzA_ok hl h2
  have hrun : (execOp ρ o).run X.P w = .ok (.value (.slice (some ⟨w.heap.size, 0, none⟩) n n)) (w.alloc (.cells vs e)) := by
    have e1 : (ps.map fun x => (x.1, ρ x.2)).toList = ps.toList.map fun p => (p.1, ρ p.2) := by simp
    have hno : ¬ (n * i.size > 2 ^ 24) := by omega
    by_cases h0 : n * i.size = 0
    · simp only [execOp, ho, Instr.buildSlice, Sem.run_bind, run_underlying hu, Result.andThen_ok, run_sizeOf hi, h0]
      rw [if_neg (by omega)]
      simp only [Sem.run_bind, Sem.run_pure, if_true, Result.andThen_ok, e1]
      have : (Array.range 0).map ((#[] : Array Value)[· % (#[] : Array Value).size]!) = zs := by simp [zs, h0]
      rw [this, h1]
      rfl
    · simp only [execOp, ho, Instr.buildSlice, Sem.run_bind, run_underlying hu, Result.andThen_ok, run_sizeOf hi, if_neg hno, if_neg h0, Sem.run_pure, e1, hz1]
      have : (Array.range (n * i.size)).map (z.cells[· % z.cells.size]!) = zs := by simp [zs, h0]
      rw [this, h1]
      rfl
  rw [hrun]
  refine QPost.grown s (grow_alloc s vs e) ⟨_, n, rfl, by omega, Nat.le_refl _, ?_⟩
  refine .inr ⟨w.heap.size, 0, vs, rfl, by simp, fun a ha b hb => ?_⟩
  have hsz : vs.size = n * i.size := by
    have h7 := h2.1
    rw [fillA_len _ _ _ _ hcs] at h7
    simpa using h7
  have hlt : a * i.size + b < l.length := by
    rw [h3]
    have : (a + 1) * i.size ≤ n * i.size := Nat.mul_le_mul_right _ ha
    rw [Nat.add_mul] at this
    simp [hsz]; omega
  obtain ⟨u, h5, h6⟩ := h4 _ _ (List.getElem?_eq_getElem hlt)
  refine ⟨u, by simpa using h5, ?_⟩
  show VRC _ (l.getD (a * i.size + b) .jk) u
  rw [List.getD_eq_getElem?_getD, List.getElem?_eq_getElem hlt]
  exact VRC.mono (grow_alloc s vs e).gext _ _ h6
end
end Go.Av

namespace Go.Av
open Go

def m0 : OM := fun _ _ => none

def VRs (G : GM) (m : OM) (xs : List V) (vs : List Value) : Prop :=
  vs.length = xs.length ∧ ∀ (i : Nat) x, xs[i]? = some x → ∃ u, vs[i]? = some u ∧ VRV G m x u

/-- The function, called with these, in whatever world: it returns r; nothing that was there has turned. -/
def Pure (X : Cx) (f : FuncId) (args : List V) (r : V) : Prop :=
  ∀ w G (vs : List Value), St X w G m0 [] → VRs G m0 args vs → Calls X.P f vs.toArray w fun e w' => ∃ v G', e = .returned v ∧ Grow w G w' G' ∧ VRV G' m0 r v

def frozenA : A → Bool | .c _ => true | _ => false
def frozenV : V → Bool
  | .cell a => frozenA a
  | .agg cs => cs.all frozenA
  | .tup n f => (List.range n).all fun i => frozenV (f i)

theorem frozenA_any {G : GM} {m m' : OM} {x : A} {v : Value} (hx : frozenA x = true) (h : VRA G m x v) : VRA G m' x v := by
  cases x with
  | c x => exact h
  | _ => cases hx

theorem frozenV_any {G : GM} {m m' : OM} : ∀ (x : V) (v : Value), frozenV x = true → VRV G m x v → VRV G m' x v := by
  intro x
  induction x with
  | cell a => intro v hx h; exact frozenA_any hx h
  | agg cs =>
    intro v hx h
    obtain ⟨vs, rfl, h1, h2⟩ := h
    refine ⟨vs, rfl, h1, fun i a ha => ?_⟩
    obtain ⟨u, hu, hr⟩ := h2 i a ha
    exact ⟨u, hu, frozenA_any (List.all_eq_true.1 hx a (List.mem_of_getElem? ha)) hr⟩
  | tup n f ih =>
    intro v hx h
    obtain ⟨vs, rfl, h1, h2⟩ := h
    refine ⟨vs, rfl, h1, fun i hi => ?_⟩
    obtain ⟨u, hu, hr⟩ := h2 i hi
    exact ⟨u, hu, ih i u (List.all_eq_true.1 hx i (by simpa using hi)) hr⟩

theorem St.bare {X : Cx} {w : World} {G : GM} {m : OM} {σ : Hp} (s : St X w G m σ) : St X w G m0 [] :=
  ⟨s.fro, s.glob, fun i B h => by simp at h, fun i j B B' v v' _ h => by simp at h, fun i B u h => by simp at h, fun _ _ _ => rfl⟩

def allSome : List (Option V) → Option (List V)
  | [] => some []
  | some v :: r => (allSome r).map (v :: ·)
  | none :: _ => none

theorem allSome_ok {X : Cx} {T : Tm} {G : GM} {m : OM} {ρ : Operand → Value} : ∀ {xs : List Operand} {l : List V}, allSome (xs.map (evO X T)) = some l → (∀ x ∈ xs, ∀ v, evO X T x = some v → VRV G m v (ρ x)) → VRs G m l (xs.map ρ)
  | [], l, h, _ => by
    obtain rfl := Option.some.inj h
    exact ⟨rfl, fun i x hx => by simp at hx⟩
  | x :: xs, l, h, hρ => by
    simp only [List.map_cons] at h
    cases hx : evO X T x with
    | none => rw [hx] at h; cases h
    | some v =>
      rw [hx] at h
      simp only [allSome, Option.map_eq_some_iff] at h
      obtain ⟨l', h', rfl⟩ := h
      obtain ⟨h1, h2⟩ := allSome_ok h' (fun y hy => hρ y (by simp [hy]))
      refine ⟨by simpa using h1, fun i y hy => ?_⟩
      cases i with
      | zero => simp at hy; subst hy; exact ⟨ρ x, rfl, hρ x (by simp) _ hx⟩
      | succ i => simpa using h2 i y (by simpa using hy)

theorem VRs.any {G : GM} {m m' : OM} {xs : List V} {vs : List Value} (h : VRs G m xs vs) (hx : xs.all frozenV = true) : VRs G m' xs vs :=
  ⟨h.1, fun i x hi => let ⟨u, hu, hr⟩ := h.2 i x hi; ⟨u, hu, frozenV_any x u (List.all_eq_true.1 hx x (List.mem_of_getElem? hi)) hr⟩⟩

theorem VRs.append {G : GM} {m : OM} {xs ys : List V} {us vs : List Value} (h : VRs G m xs us) (k : VRs G m ys vs) : VRs G m (xs ++ ys) (us ++ vs) := by
  refine ⟨by simp [h.1, k.1], fun i x hi => ?_⟩
  by_cases hl : i < xs.length
  · rw [List.getElem?_append_left hl] at hi
    rw [List.getElem?_append_left (by rw [h.1]; exact hl)]
    exact h.2 i x hi
  · rw [List.getElem?_append_right (by omega)] at hi
    rw [List.getElem?_append_right (by rw [h.1]; omega), h.1]
    exact k.2 _ x hi

def capsC (n : Nat) (cap : Nat → C) : List V := (List.range n).map fun i => .cell (.c (cap i))

theorem capsC_ok {G : GM} {m : OM} {n : Nat} {cap : Nat → C} {vs : Array Value} (hs : vs.size = n) (h : ∀ i, i < n → ∃ u, vs[i]? = some u ∧ VRC G (cap i) u) : VRs G m (capsC n cap) vs.toList := by
  refine ⟨by simp [capsC, hs], fun i x hi => ?_⟩
  simp only [capsC, List.getElem?_map, Option.map_eq_some_iff] at hi
  obtain ⟨q, hq, rfl⟩ := hi
  obtain ⟨h2, rfl⟩ := List.getElem?_eq_some_iff.1 hq
  simp only [List.length_range] at h2
  simp only [List.getElem_range]
  obtain ⟨u, hu, hr⟩ := h i h2
  exact ⟨u, by simpa using hu, hr⟩

section
variable {X : Cx} {σ : Hp} {T : Tm} {o : Oper} {r : V}

/-- a call, up to the callee's entry -/
theorem run_call {w : World} {ρ : Operand → Value} {fo : Operand} {args : Array Operand} {ts : Array TypeId} {f : FuncId} {caps : Array Value} (ho : o.op = .call ⟨.value fo, args, ts⟩) (hf : ρ fo = .func (.func f) #[] caps)
    (hc : ∀ (as : Array Value) (w : World), (callFunc f as).run X.P w = .ok (.enter f as) w) : (execOp ρ o).run X.P w = .ok (.enter f ((args.toList.map ρ) ++ caps.toList).toArray) w := by
  have e : ((args.toList.map ρ) ++ caps.toList).toArray = args.map ρ ++ caps := by simp
  rw [e]
  simp [execOp, ho, resolve, hf, Deferred.ofValue, invoke, hc]

theorem ok_call {fo : Operand} {args : Array Operand} {ts : Array TypeId} {f : FuncId} {n : Nat} {cap : Nat → C} {avs : List V} (ho : o.op = .call ⟨.value fo, args, ts⟩) (hf : evO X T fo = some (.cell (.c (.fn f n cap))))
    (ha : allSome (args.toList.map (evO X T)) = some avs) (hz : avs.all frozenV = true) (hr : frozenV r = true) (hc : ∀ (as : Array Value) (w : World), (callFunc f as).run X.P w = .ok (.enter f as) w) (hp : Pure X f (avs ++ capsC n cap) r) : Quiet X o σ T r := by
  intro w G m ρ s hρ
  obtain ⟨caps, hfv, hs, hcv⟩ := hρ fo (by simp [ho, Op.operands, Call.operands]) _ hf
  rw [run_call ho hfv hc]
  refine ⟨rfl, ?_⟩
  have h1 : VRs G m avs (args.toList.map ρ) := allSome_ok ha fun x hx => hρ x (by simp [ho, Op.operands, Call.operands]; exact .inr (by simpa using hx))
  have h2 := (h1.any hz (m' := m0)).append (capsC_ok (m := m0) hs hcv)
  refine (hp w G _ s.bare h2).mono ?_
  rintro e w' ⟨v, G', rfl, hg, hv⟩
  exact ⟨v, rfl, QPost.grown s hg (frozenV_any _ _ hr hv)⟩

/-! ### own rows lent for a call whose answer is a number, a bool or a string -/
def scalarV : V → Bool
  | .cell (.c (.int ..)) | .cell (.c (.bool _)) | .cell (.c (.str _)) => true
  | .tup n f => (List.range n).all fun i => scalarV (f i)
  | _ => false

theorem scalarV_any {G G' : GM} {m m' : OM} : ∀ (x : V) (v : Value), scalarV x = true → VRV G m x v → VRV G' m' x v := by
  intro x
  induction x with
  | cell a =>
    intro v hx h
    cases a with
    | c x => cases x <;> first | exact h | cases hx
    | _ => cases hx
  | agg cs => intro v hx; cases hx
  | tup n f ih =>
    intro v hx h
    obtain ⟨vs, rfl, h1, h2⟩ := h
    refine ⟨vs, rfl, h1, fun i hi => ?_⟩
    obtain ⟨u, hu, hr⟩ := h2 i hi
    exact ⟨u, hu, ih i u (List.all_eq_true.1 hx i (by simpa using hi)) hr⟩

def lendV (σ : Hp) : V → V
  | .cell (.sl b ver len) =>
    match σ[b]? with
    | some (some (.rows _ _ sz n row)) => .cell (.c (.sl n sz row))
    | _ => .cell (.sl b ver len)
  | v => v
def lendOK (σ : Hp) : V → Prop
  | .cell (.sl b ver _) =>
    match σ[b]? with
    | some (some (.rows v _ _ _ _)) => ver = v
    | _ => False
  | v => frozenV v = true
def lendAll (σ : Hp) : List V → Prop
  | [] => True
  | v :: r => lendOK σ v ∧ lendAll σ r

open Classical in
/-- own blocks seen as frozen -/
noncomputable def lent (w : World) (G : GM) (m : OM) (σ : Hp) : GM := fun b =>
  if Img m σ b then (match w.heap[b]? with | some (.cells arr _ _) => some arr | _ => none) else G b

theorem Img.none {w : World} {G : GM} {m : OM} (s : St X w G m σ) {g : Nat} (h : Img m σ g) : G g = none := by
  obtain ⟨i, B, v, h1, h2, h3⟩ := h
  obtain ⟨v', h4, -, h5⟩ := s.own i B h1
  obtain rfl := Option.some.inj (h2.symm.trans h4)
  exact h5 g h3

theorem lent_ext {w : World} {G : GM} {m : OM} (s : St X w G m σ) : ∀ b arr, G b = some arr → lent w G m σ b = some arr := by
  intro b arr h
  unfold lent
  rw [if_neg]
  · exact h
  · intro hi
    rw [Img.none s hi] at h
    cases h

theorem lent_st {w : World} {G : GM} {m : OM} (s : St X w G m σ) : St X w (lent w G m σ) m0 [] := by
  refine ⟨fun b arr h => ?_, fun g c h => VRC.mono (lent_ext s) _ _ (s.glob g c h), fun i B h => by simp at h, fun i j B B' v v' _ h => by simp at h, fun i B u h => by simp at h, fun _ _ _ => rfl⟩
  unfold lent at h
  split at h
  · split at h
    · rename_i hh
      obtain rfl := Option.some.inj h
      exact ⟨_, _, hh⟩
    · cases h
  · exact s.fro b arr h

theorem lendV_ok {w : World} {G : GM} {m : OM} (s : St X w G m σ) {v : V} {u : Value} (h : lendOK σ v) (hv : VRV G m v u) : VRV (lent w G m σ) m0 (lendV σ v) u := by
  unfold lendOK at h
  unfold lendV
  split at h
  · rename_i b ver len
    split at h
    case h_2 => exact h.elim
    rename_i ver' e sz n row hB
    subst h
    obtain ⟨h1, h2, h3⟩ := hv
    obtain ⟨v', h4, ⟨xs, h5, h6⟩, -⟩ := s.own _ _ hB
    obtain rfl := Option.some.inj (h1.symm.trans h4)
    have hx := h5.1
    rcases h5.2 with ⟨rfl, h7⟩ | ⟨g, cap, cur, rfl, -, h8, h9, h10, h11, h12⟩
    · have h7 : n = 0 := h7
      subst h7
      exact ⟨none, 0, rfl, by omega, by omega, .inl rfl⟩
    · have h7 : len = n := by
        rcases h3 with ⟨h, _⟩ | ⟨g', cp, h⟩
        · cases h
        · cases h; rfl
      subst h7
      refine ⟨some ⟨g, 0, none⟩, cap, rfl, h2, h9, .inr ⟨g, 0, cur, rfl, ?_, fun i hi j hj => ?_⟩⟩
      · unfold lent
        rw [if_pos ⟨b, _, _, hB, h1, rfl⟩, h8]
      · obtain ⟨u, hu, hr⟩ := h6 i hi j hj
        refine ⟨u, ?_, VRC.mono (lent_ext s) _ _ hr⟩
        have h13 : xs[i * sz + j]? = some u := hu
        rw [← h12, List.getElem?_take] at h13
        split at h13
        case isFalse => cases h13
        simpa using h13
  · exact VRV.mono (lent_ext s) (fun _ _ _ h => h) _ _ (frozenV_any (m' := m0) _ _ h hv)

theorem lend_args {w : World} {G : GM} {m : OM} (s : St X w G m σ) : ∀ {xs : List V} {vs : List Value}, lendAll σ xs → VRs G m xs vs → VRs (lent w G m σ) m0 (xs.map (lendV σ)) vs := by
  intro xs vs h hv
  refine ⟨by simpa using hv.1, fun i x hi => ?_⟩
  simp only [List.getElem?_map, Option.map_eq_some_iff] at hi
  obtain ⟨y, hy, rfl⟩ := hi
  obtain ⟨u, hu, hr⟩ := hv.2 i y hy
  refine ⟨u, hu, lendV_ok s ?_ hr⟩
  clear hu hr hv
  induction xs generalizing i with
  | nil => simp at hy
  | cons z xs ih =>
    cases i with
    | zero => simp at hy; subst hy; exact h.1
    | succ i => exact ih h.2 i (by simpa using hy)

theorem ok_call_lend {fo : Operand} {args : Array Operand} {ts : Array TypeId} {f : FuncId} {n : Nat} {cap : Nat → C} {avs : List V} (ho : o.op = .call ⟨.value fo, args, ts⟩) (hf : evO X T fo = some (.cell (.c (.fn f n cap))))
    (ha : allSome (args.toList.map (evO X T)) = some avs) (hz : lendAll σ avs) (hr : scalarV r = true) (hc : ∀ (as : Array Value) (w : World), (callFunc f as).run X.P w = .ok (.enter f as) w) (hp : Pure X f (avs.map (lendV σ) ++ capsC n cap) r) : Quiet X o σ T r := by
  intro w G m ρ s hρ
  obtain ⟨caps, hfv, hs, hcv⟩ := hρ fo (by simp [ho, Op.operands, Call.operands]) _ hf
  rw [run_call ho hfv hc]
  refine ⟨rfl, ?_⟩
  have h1 : VRs G m avs (args.toList.map ρ) := allSome_ok ha fun x hx => hρ x (by simp [ho, Op.operands, Call.operands]; exact .inr (by simpa using hx))
  have h2 := (lend_args s hz h1).append (capsC_ok (m := m0) hs (fun i hi => let ⟨u, h3, h4⟩ := hcv i hi; ⟨u, h3, VRC.mono (lent_ext s) _ _ h4⟩))
  refine (hp w _ _ (lent_st s) h2).mono ?_
  rintro e w' ⟨v, G', rfl, hg, hv⟩
  refine ⟨v, rfl, QPost.grown (G' := G) s ⟨hg.os, hg.tape, hg.output, hg.size, hg.frame, fun _ _ h => h, fun _ _ h => .inl h, fun b arr h => ?_⟩ (scalarV_any _ _ hr hv)⟩
  obtain ⟨t, fr, h⟩ := s.fro b arr h
  exact ⟨t, fr, by rw [hg.frame b (Array.getElem?_eq_some_iff.1 h).1]; exact h⟩
end
end Go.Av

namespace Go.Av
open Go

def updM (m : OM) (i ver : Nat) (v : Value) : OM := fun a u => if a = i ∧ u = ver then some v else m a u

section
variable {X : Cx} {σ : Hp} {T : Tm} {o : Oper} {r : V} {w w' : World} {G : GM} {m : OM}

theorem updM_same {i ver : Nat} {v : Value} : updM m i ver v i ver = some v := by simp [updM]
theorem updM_ext {i ver : Nat} {v : Value} (h : m i ver = none ∨ m i ver = some v) : ∀ a u x, m a u = some x → updM m i ver v a u = some x := by
  intro a u x hx
  unfold updM
  split
  · rename_i hc
    obtain ⟨rfl, rfl⟩ := hc
    rcases h with h | h
    · rw [h] at hx; cases hx
    · rw [h] at hx; exact hx
  · exact hx

theorem St.push (s : St X w G m σ) {v : Value} {B : Blk} (g : w.grownBy w' none) (hver : B.ver = 0) (hob : ∀ k, v.ownBlock = some k → w.heap.size ≤ k) (hat : BlkAt w' G (updM m σ.length 0 v) v B) :
    St X w' G (updM m σ.length 0 v) (σ ++ [some B]) ∧ TranM w G m σ w' G (updM m σ.length 0 v) (σ ++ [some B]) := by
  have hext : ∀ a u x, m a u = some x → updM m σ.length 0 v a u = some x := updM_ext (.inl (s.lim _ _ (Nat.le_refl _)))
  have hfr : ∀ k, k < w.heap.size → w'.heap[k]? = w.heap[k]? := fun k hk => g.block k hk (by simp)
  have hold : ∀ (i : Nat) B', (σ ++ [some B])[i]? = some (some B') → (i < σ.length ∧ σ[i]? = some (some B')) ∨ (i = σ.length ∧ B' = B) := by
    intro i B' h
    rcases Nat.lt_trichotomy i σ.length with h1 | h1 | h1
    · rw [List.getElem?_append_left h1] at h; exact .inl ⟨h1, h⟩
    · subst h1; rw [List.getElem?_append_right (Nat.le_refl _)] at h; simp at h; exact .inr ⟨rfl, h.symm⟩
    · rw [List.getElem?_append_right (by omega)] at h
      have : i - σ.length ≠ 0 := by omega
      rw [List.getElem?_eq_none (by simp; omega)] at h; cases h
  have hmo : ∀ i, i < σ.length → ∀ u, updM m σ.length 0 v i u = m i u := by
    intro i hi u
    unfold updM; rw [if_neg (by omega)]
  have hlt : ∀ (i : Nat) B' v', σ[i]? = some (some B') → m i B'.ver = some v' → ∀ k, v'.ownBlock = some k → k < w.heap.size := by
    intro i B' v' h1 h2 k h3
    obtain ⟨v2, h4, h5, -⟩ := s.own i B' h1
    obtain rfl := Option.some.inj (h2.symm.trans h4)
    exact h5.lt h3
  refine ⟨⟨fun b arr h => ?_, s.glob, fun i B' h => ?_, fun i j B1 B2 v1 v2 hij h1 h2 h3 h4 => ?_, fun i B' u h hu => ?_, fun i u hi => ?_⟩, ⟨⟨g.os, g.tape, g.output, g.size, fun k hk _ => hfr k hk, fun _ _ h => h, fun _ _ h => .inl h, fun k h => ?_, fun i B' h hv => ?_⟩, hext⟩⟩
  · obtain ⟨t, fr, h2⟩ := s.fro b arr h
    exact ⟨t, fr, by rw [hfr b (s.lt h)]; exact h2⟩
  · rcases hold i B' h with ⟨h1, h2⟩ | ⟨rfl, rfl⟩
    · obtain ⟨v2, h3, h4, h5⟩ := s.own i B' h2
      exact ⟨v2, hext _ _ _ h3, h4.mono (fun k hk => hfr k (h4.lt hk)) (fun _ _ h => h) hext, h5⟩
    · refine ⟨v, by rw [hver]; exact updM_same, hat, fun k hk => ?_⟩
      cases hG : G k with
      | none => rfl
      | some arr => have := s.lt hG; have := hob k hk; omega
  · rcases hold i B1 h1 with ⟨i1, i2⟩ | ⟨rfl, rfl⟩ <;> rcases hold j B2 h2 with ⟨j1, j2⟩ | ⟨rfl, rfl⟩
    · rw [hmo i i1] at h3; rw [hmo j j1] at h4
      exact s.sep i j B1 B2 v1 v2 hij i2 j2 h3 h4
    · rw [hmo i i1] at h3
      rw [hver, updM_same] at h4
      obtain rfl := Option.some.inj h4
      cases hv1 : v1.ownBlock with
      | none => exact .inl rfl
      | some k => exact .inr fun hk => by have := hlt i B1 v1 i2 h3 k hv1; have := hob k hk.symm; omega
    · rw [hmo j j1] at h4
      rw [hver, updM_same] at h3
      obtain rfl := Option.some.inj h3
      cases hv1 : v.ownBlock with
      | none => exact .inl rfl
      | some k => exact .inr fun hk => by have := hlt j B2 v2 j2 h4 k hk.symm; have := hob k hv1; omega
    · exact (hij rfl).elim
  · rcases hold i B' h with ⟨h1, h2⟩ | ⟨rfl, rfl⟩
    · rw [hmo i h1]; exact s.top i B' u h2 hu
    · unfold updM
      rw [hver] at hu
      rw [if_neg (by omega)]
      exact s.lim _ _ (Nat.le_refl _)
  · simp at hi
    unfold updM
    rw [if_neg (by omega)]
    exact s.lim i u (by omega)
  · obtain ⟨i, B', v', h1, h2, h3⟩ := h
    rcases hold i B' h1 with ⟨i1, i2⟩ | ⟨rfl, rfl⟩
    · rw [hmo i i1] at h2
      exact .inl ⟨i, B', v', i2, h2, h3⟩
    · rw [hver, updM_same] at h2
      obtain rfl := Option.some.inj h2
      exact .inr (hob k h3)
  · rcases hold i B' h with ⟨i1, i2⟩ | ⟨rfl, rfl⟩
    · exact ⟨⟨B', i2, hv⟩, hmo i i1 _⟩
    · rw [hver] at hv; omega

theorem St.upd (s : St X w G m σ) {i : Nat} {B B' : Blk} {v v' : Value} (hB : σ[i]? = some (some B)) (hv : m i B.ver = some v) (g : w.grownBy w' v.ownBlock) (hver : (B'.ver = B.ver ∧ v' = v) ∨ (B.ver < B'.ver ∧ B'.ver ≠ 1000))
    (hob : ∀ k, v'.ownBlock = some k → v.ownBlock = some k ∨ w.heap.size ≤ k) (hat : BlkAt w' G (updM m i B'.ver v') v' B') :
    St X w' G (updM m i B'.ver v') (σ.set i (some B')) ∧ TranM w G m σ w' G (updM m i B'.ver v') (σ.set i (some B')) := by
  have hil : i < σ.length := (List.getElem?_eq_some_iff.1 hB).1
  have hext : ∀ a u x, m a u = some x → updM m i B'.ver v' a u = some x := updM_ext (by
    rcases hver with ⟨h1, h2⟩ | h1
    · exact .inr (by rw [h1, h2]; exact hv)
    · exact .inl (s.top i B _ hB h1.1))
  have hnG : ∀ k, v.ownBlock = some k → G k = none := by
    obtain ⟨v2, h4, -, h5⟩ := s.own i B hB
    obtain rfl := Option.some.inj (hv.symm.trans h4)
    exact h5
  have hold : ∀ (j : Nat) B2, (σ.set i (some B'))[j]? = some (some B2) → (j ≠ i ∧ σ[j]? = some (some B2)) ∨ (j = i ∧ B2 = B') := by
    intro j B2 h
    rw [List.getElem?_set] at h
    split at h
    · rename_i hij
      subst hij
      simp at h
      exact .inr ⟨rfl, h.symm⟩
    · rename_i hij
      exact .inl ⟨fun h => hij h.symm, h⟩
  have hmo : ∀ j, j ≠ i → ∀ u, updM m i B'.ver v' j u = m j u := by
    intro j hj u
    unfold updM; rw [if_neg (by omega)]
  have hat' : ∀ (j : Nat) B2 v2, σ[j]? = some (some B2) → m j B2.ver = some v2 → BlkAt w G m v2 B2 := by
    intro j B2 v2 h1 h2
    obtain ⟨v3, h4, h5, -⟩ := s.own j B2 h1
    obtain rfl := Option.some.inj (h2.symm.trans h4)
    exact h5
  refine ⟨⟨fun b arr h => ?_, s.glob, fun j B2 h => ?_, fun j1 j2 B1 B2 v1 v2 hij h1 h2 h3 h4 => ?_, fun j B2 u h hu => ?_, fun j u hj => ?_⟩, ⟨⟨g.os, g.tape, g.output, g.size, fun k hk hI => ?_, fun _ _ h => h, fun _ _ h => .inl h, fun k h => ?_, fun j B2 h hv2 => ?_⟩, hext⟩⟩
  · obtain ⟨t, fr, h2⟩ := s.fro b arr h
    refine ⟨t, fr, ?_⟩
    rw [g.block b (s.lt h) (fun e => by rw [hnG b e.symm] at h; cases h)]
    exact h2
  · rcases hold j B2 h with ⟨h1, h2⟩ | ⟨rfl, rfl⟩
    · obtain ⟨v2, h3, h4, h5⟩ := s.own j B2 h2
      refine ⟨v2, hext _ _ _ h3, h4.mono (fun k hk => g.block k (h4.lt hk) (fun e => ?_)) (fun _ _ h => h) hext, h5⟩
      rcases s.sep j i B2 B v2 v h1 h2 hB h3 hv with h6 | h6
      · rw [h6] at hk; cases hk
      · exact h6 (by rw [hk, e])
    · refine ⟨v', updM_same, hat, fun k hk => ?_⟩
      rcases hob k hk with h1 | h1
      · exact hnG k h1
      · cases hG : G k with
        | none => rfl
        | some arr => have := s.lt hG; omega
  · rcases hold j1 B1 h1 with ⟨i1, i2⟩ | ⟨rfl, rfl⟩ <;> rcases hold j2 B2 h2 with ⟨k1, k2⟩ | ⟨rfl, rfl⟩
    · rw [hmo j1 i1] at h3; rw [hmo j2 k1] at h4
      exact s.sep j1 j2 B1 B2 v1 v2 hij i2 k2 h3 h4
    · rw [hmo j1 i1] at h3
      rw [updM_same] at h4
      obtain rfl := Option.some.inj h4
      cases hv1 : v1.ownBlock with
      | none => exact .inl rfl
      | some k =>
        refine .inr fun hk => ?_
        rcases hob k hk.symm with h5 | h5
        · rcases s.sep j1 j2 B1 B v1 v hij i2 hB h3 hv with h6 | h6
          · rw [h6] at hv1; cases hv1
          · exact h6 (by rw [hv1, h5])
        · have := (hat' j1 B1 v1 i2 h3).lt hv1; omega
    · rw [hmo j2 k1] at h4
      rw [updM_same] at h3
      obtain rfl := Option.some.inj h3
      cases hv1 : v'.ownBlock with
      | none => exact .inl rfl
      | some k =>
        refine .inr fun hk => ?_
        rcases hob k hv1 with h5 | h5
        · rcases s.sep j1 j2 B B2 v v2 hij hB k2 hv h4 with h6 | h6
          · rw [h6] at h5; cases h5
          · exact h6 (by rw [h5, hk])
        · have := (hat' j2 B2 v2 k2 h4).lt hk.symm; omega
    · exact (hij rfl).elim
  · rcases hold j B2 h with ⟨h1, h2⟩ | ⟨rfl, rfl⟩
    · rw [hmo j h1]; exact s.top j B2 u h2 hu
    · unfold updM
      rw [if_neg (by omega)]
      refine s.top j B u hB ?_
      rcases hver with ⟨h1, -⟩ | ⟨h1, -⟩ <;> omega
  · simp at hj
    unfold updM
    rw [if_neg (by omega)]
    exact s.lim j u hj
  · refine g.block k hk fun e => hI ⟨i, B, v, hB, hv, e.symm⟩
  · obtain ⟨j, B2, v2, h1, h2, h3⟩ := h
    rcases hold j B2 h1 with ⟨i1, i2⟩ | ⟨rfl, rfl⟩
    · rw [hmo j i1] at h2
      exact .inl ⟨j, B2, v2, i2, h2, h3⟩
    · rw [updM_same] at h2
      obtain rfl := Option.some.inj h2
      rcases hob k h3 with h5 | h5
      · exact .inl ⟨j, B, v, hB, hv, h5⟩
      · exact .inr h5
  · rcases hold j B2 h with ⟨i1, i2⟩ | ⟨rfl, rfl⟩
    · exact ⟨⟨B2, i2, hv2⟩, hmo j i1 _⟩
    · rcases hver with ⟨h1, h3⟩ | ⟨h1, h3⟩
      · refine ⟨⟨B, hB, by rw [← h1]; exact hv2⟩, ?_⟩
        rw [← hv2, updM_same, h1, hv, h3]
      · exact absurd hv2 h3
end
end Go.Av

namespace Go.Av
open Go

def EPost (X : Cx) (w : World) (G : GM) (m : OM) (σ : Hp) (r : Option V) (σ' : Hp) (v : Value) (w' : World) : Prop :=
  ∃ G' m', St X w' G' m' σ' ∧ TranM w G m σ w' G' m' σ' ∧ ∀ x, r = some x → VRV G' m' x v

def RunsE (X : Cx) (w : World) (G : GM) (m : OM) (σ : Hp) (r : Option V) (σ' : Hp) : Result Next → Prop
  | .ok (.value v) w' => EPost X w G m σ r σ' v w'
  | .ok .skip w' => EPost X w G m σ r σ' undef w' ∧ r = none
  | .ok (.enter f args) w' => w' = w ∧ Calls X.P f args w fun e w'' => ∃ v, e = .returned v ∧ EPost X w G m σ r σ' v w''
  | _ => False

def Eff (X : Cx) (o : Oper) (σ : Hp) (T : Tm) (r : Option V) (σ' : Hp) : Prop :=
  ∀ w G m (ρ : Operand → Value), St X w G m σ → (∀ x, x ∈ o.op.operands → ∀ v, evO X T x = some v → VRV G m v (ρ x)) → RunsE X w G m σ r σ' ((execOp ρ o).run X.P w)

section
variable {X : Cx} {σ : Hp} {T : Tm} {o : Oper} {r : V} {w w' : World} {G : GM} {m : OM}

theorem Quiet.eff (h : Quiet X o σ T r) : Eff X o σ T (some r) σ := by
  intro w G m ρ s hρ
  have h1 := h w G m ρ s hρ
  generalize (execOp ρ o).run X.P w = q at h1
  have key : ∀ v w', QPost X w G m σ r v w' → EPost X w G m σ (some r) σ v w' := fun v w' ⟨G', h2, h3, h4⟩ => ⟨G', m, h2, ⟨h3, fun _ _ _ h => h⟩, fun x hx => by obtain rfl := Option.some.inj hx; exact h4⟩
  unfold RunsQ at h1
  unfold RunsE
  split at h1
  · exact key _ _ h1
  · exact ⟨h1.1, h1.2.mono fun e w'' ⟨v, h2, h3⟩ => ⟨v, h2, key _ _ h3⟩⟩
  · exact h1.elim

/-- a new block of one row -/
theorem push_lit (s : St X w G m σ) (e : TypeId) (us : Array Value) (cs : List A) (hv : VRL G m cs us.toList) (h1 : ∀ u ∈ us.toList, u.oneCell' = true) :
    EPost X w G m σ (some (.cell (.op σ.length 0 cs.length 0 0))) (σ ++ [some (.lit 0 e cs)]) (.pointer (some ⟨w.heap.size, 0, none⟩)) (w.alloc (.cells us e)) := by
  have hext : ∀ a u x, m a u = some x → updM m σ.length 0 (.slice (some ⟨w.heap.size, 0, none⟩) 1 1) a u = some x := updM_ext (.inl (s.lim _ _ (Nat.le_refl _)))
  have hlen : us.size = cs.length := by simpa using hv.1
  obtain ⟨h2, h3⟩ := s.push (v := .slice (some ⟨w.heap.size, 0, none⟩) 1 1) (B := .lit 0 e cs) (World.grownBy_alloc w (.cells us e) none) rfl (fun k hk => by simp [Value.ownBlock] at hk; omega)
    ⟨us.toList, ⟨by simp [Blk.sz, Blk.len, hlen], .inr ⟨w.heap.size, 1, us, rfl, Nat.zero_le _, heap_alloc_new w _, Nat.le_refl _, by simp [maxLen], by simp [Blk.sz, hlen], by simp [Blk.sz, Blk.len, hlen]; rw [← hlen, ← Array.length_toList, List.take_length]⟩⟩, fun i hi j hj => by
      simp only [Blk.len] at hi
      simp only [Blk.sz] at hj
      obtain rfl : i = 0 := by omega
      obtain ⟨u, hu, hr⟩ := hv.2 j _ (List.getElem?_eq_getElem hj)
      refine ⟨u, by simpa using hu, VRA.mono (fun _ _ h => h) hext _ _ ?_⟩
      show VRA G m (cs.getD j (.c .jk)) u
      rw [List.getD_eq_getElem?_getD, List.getElem?_eq_getElem hj]
      exact hr⟩
  refine ⟨G, _, h2, h3, fun x hx => ?_⟩
  obtain rfl := Option.some.inj hx
  exact ⟨w.heap.size, 1, 1, updM_same, by omega, by simp⟩

theorem ok_box {e : Nat} {x : Operand} (ho : o.op = .box e x) {v : V} (hx : evO X T x = some v) {cs : List A} (hc : cellsV v = some cs) :
    Eff X o σ T (some (.cell (.op σ.length 0 cs.length 0 0))) (σ ++ [some (.lit 0 e cs)]) := by
  intro w G m ρ s hρ
  have hv := cellsV_ok hc (hρ x (by simp [ho, Op.operands]) _ hx)
  have hrun : (execOp ρ o).run X.P w = .ok (.value (.pointer (some ⟨w.heap.size, 0, none⟩))) (w.alloc (.cells (ρ x).cells e)) := by
    simp only [execOp, ho, Instr.box, newVar, newRow, newObj, Sem.run_bind, Sem.run]
    rfl
  rw [hrun]
  refine push_lit s e (ρ x).cells cs hv fun u hu => ?_
  obtain ⟨i, hi, rfl⟩ := List.mem_iff_getElem.1 hu
  have hlt : i < cs.length := by rw [← hv.1]; exact hi
  obtain ⟨u', h1, h2⟩ := hv.2 i _ (List.getElem?_eq_getElem hlt)
  rw [List.getElem?_eq_getElem hi] at h1
  obtain rfl := Option.some.inj h1
  exact VRA.one h2

theorem ok_alloc {e : Nat} (ho : o.op = .alloc e) {i : TI} (hi : X.ty e = some i) :
    Eff X o σ T (some (.cell (.op σ.length 0 (i.zero.map A.c).length 0 0))) (σ ++ [some (.lit 0 e (i.zero.map .c))]) := by
  intro w G m ρ s _
  obtain ⟨z, hz1, hz2, -, -, hz5⟩ := zero_ok hi (G := G) (m := m)
  have hrun : (execOp ρ o).run X.P w = .ok (.value (.pointer (some ⟨w.heap.size, 0, none⟩))) (w.alloc (.cells z.cells e)) := by
    simp only [execOp, ho, Instr.alloc, Sem.run_bind, hz1, Result.andThen_ok, newVar, newRow, newObj, Sem.run]
    rfl
  rw [hrun]
  exact push_lit s e z.cells _ hz2 hz5

/-- a store into a block of one row -/
theorem ok_store {t : Nat} {p x : Operand} (ho : o.op = .store t p x) {i : TI} (hi : X.ty t = some i) {b ver sz j ver' e : Nat} {cells cs : List A} {v : V} (hp : evO X T p = some (.cell (.op b ver sz 0 j))) (hx : evO X T x = some v) (hc : cellsV v = some cs)
    (hB : σ[b]? = some (some (.lit ver' e cells))) (hsz : sz = cells.length) (hver : ver = ver') (hl : cs.length = i.size) (hj : j + cs.length ≤ cells.length) :
    Eff X o σ T none (σ.set b (some (.lit ver' e (putRow cells j cs)))) := by
  subst hver
  intro w G m ρ s hρ
  have hv := cellsV_ok hc (hρ x (by simp [ho, Op.operands]) _ hx)
  obtain ⟨g, n, cp, hm, hlt, hpv⟩ := hρ p (by simp [ho, Op.operands]) _ hp
  obtain ⟨v0, h0, ⟨xs, hown, hcell⟩, -⟩ := s.own _ _ hB
  obtain rfl : v0 = _ := Option.some.inj (h0.symm.trans hm)
  have hown' := hown
  rcases hown.2 with ⟨h, _⟩ | ⟨g', cap, cur, h, _, hg, hle, hcap, hcs, htk⟩
  · cases h
  cases h
  have hm : m b ver = some (.slice (some ⟨g, 0, none⟩) 1 cp) := hm
  simp only [Blk.sz, Blk.len, Blk.e] at hg hle hcs htk hown hown' hcell
  have hone : ∀ u ∈ (ρ x).cells.toList, u.oneCell' = true := fun u hu => by
    obtain ⟨q, hq, rfl⟩ := List.mem_iff_getElem.1 hu
    obtain ⟨u', h1, h2⟩ := hv.2 q _ (List.getElem?_eq_getElem (by rw [← hv.1]; exact hq))
    rw [List.getElem?_eq_getElem hq] at h1
    obtain rfl := Option.some.inj h1
    exact VRA.one h2
  have hlen : (ρ x).cells.size = cs.length := by simpa using hv.1
  have hcur : cells.length ≤ cur.size := by
    rw [hcs]
    have : 1 * cells.length ≤ cp * cells.length := Nat.mul_le_mul_right _ hle
    omega
  have hst := run_storeCells_at (P := X.P) g j e (ρ x).cells.toList 0 cur w hg (by simp [hlen]; omega) hone
  have hrun : (execOp ρ o).run X.P w = .ok .skip (w.setRow g (cur.toList.take j ++ (ρ x).cells.toList ++ cur.toList.drop (j + cs.length)).toArray) := by
    have hpv' : ρ p = .pointer (some ⟨g, j, none⟩) := by rw [hpv]; simp
    have hno : ¬ ((ρ x).cells.size ≠ i.size) := by omega
    simp only [execOp, ho, Instr.storeAt, hpv', Instr.sureAddr, storeVar, Sem.run_bind, Sem.run_pure, Result.andThen_ok, run_sizeOf hi]
    rw [if_neg hno, hst]
    simp [hlen]
  rw [hrun]
  have hxs : VRL G m cells xs := by
    refine ⟨by have := hown.1; simpa using this, fun q a hq => ?_⟩
    have hq' : q < cells.length := (List.getElem?_eq_some_iff.1 hq).1
    obtain ⟨u, h1, h2⟩ := hcell 0 (by omega) q hq'
    refine ⟨u, by simpa using h1, ?_⟩
    have : Blk.cell (.lit ver e cells) 0 q = a := by
      show cells.getD q (.c .jk) = a
      rw [List.getD_eq_getElem?_getD, hq]; rfl
    rw [this] at h2; exact h2
  have hext : ∀ a u x, m a u = some x → updM m b ver (.slice (some ⟨g, 0, none⟩) 1 cp) a u = some x := updM_ext (.inr hm)
  have hnew := VRL.mono (fun _ _ h => h) hext (VRL.putRow hxs hv (by omega))
  have hgrown : w.grownBy (w.setRow g (cur.toList.take j ++ (ρ x).cells.toList ++ cur.toList.drop (j + cs.length)).toArray) (Value.slice (some ⟨g, 0, none⟩) 1 cp).ownBlock :=
    ⟨rfl, rfl, rfl, by simp, fun k _ hk => setRow_other w g k _ (fun e => hk (by simp [Value.ownBlock, e]))⟩
  have hmin : min j cur.size = j := by omega
  obtain ⟨h2, h3⟩ := s.upd (B' := .lit ver e (putRow cells j cs)) (v' := .slice (some ⟨g, 0, none⟩) 1 cp) hB hm hgrown (.inl ⟨rfl, rfl⟩) (fun k hk => .inl hk)
    ⟨xs.take j ++ (ρ x).cells.toList ++ xs.drop (j + (ρ x).cells.toList.length), ⟨by
      have := hnew.1
      simp only [Blk.sz, Blk.len]
      omega, .inr ⟨g, cp, _, rfl, Nat.zero_le _, setRow_heap w g cur _ e _ hg, hle, hcap, by
        have : (putRow cells j cs).length = cells.length := by simp [putRow]; omega
        simp [Blk.sz, this, hlen]; omega, by
        simp only [Blk.sz, Blk.len]
        have hpl : (putRow cells j cs).length = cells.length := by simp [putRow]; omega
        rw [hpl, ← htk]
        simp only [Nat.one_mul, List.toList_toArray]
        apply List.ext_getElem?
        intro q
        simp only [List.getElem?_take, List.getElem?_append, List.getElem?_drop, List.length_take, List.length_append, Array.length_toList, hlen]
        have e1 : min j (min cells.length cur.size) = j := by omega
        simp only [hmin, e1]
        by_cases q1 : q < cells.length
        · by_cases q2 : q < j
          · simp [q1, q2, show q < j + cs.length by omega]
          · by_cases q3 : q < j + cs.length
            · simp [q1, q2, q3]
            · have e2 : j + cs.length + (q - (j + cs.length)) = q := by omega
              simp [q1, q3, e2]
        · have e2 : ¬ q < j := by omega
          have e3 : ¬ q < j + cs.length := by omega
          have e4 : ¬ (j + cs.length + (q - (j + cs.length)) < cells.length) := by omega
          simp [q1, e3, e4]⟩⟩, fun i' hi' q hq => by
      simp only [Blk.len] at hi'
      simp only [Blk.sz] at hq
      obtain rfl : i' = 0 := by omega
      obtain ⟨u, hu, hr⟩ := hnew.2 q _ (List.getElem?_eq_getElem hq)
      refine ⟨u, by simpa using hu, ?_⟩
      show VRA G _ ((putRow cells j cs).getD q (.c .jk)) u
      rw [List.getD_eq_getElem?_getD, List.getElem?_eq_getElem hq]
      exact hr⟩
  exact ⟨⟨G, _, h2, h3, fun x hx => by cases hx⟩, rfl⟩
end
end Go.Av

namespace Go.Av
open Go

section
variable {X : Cx} {σ : Hp} {T : Tm} {o : Oper} {r : V} {w w' : World} {G : GM} {m : OM}

/-- what is appended: its cells, as they are read -/
structure Src (w : World) (G : GM) (sz k : Nat) (row : Nat → Nat → C) (v : Value) (news : List Value) : Prop where
  form : ∃ a cp, v = .slice a k cp ∧ (a = none → k = 0) ∧ ∀ ad, a = some ad → ∀ (j : Nat) u, news[j]? = some u → w.cell? (ad.add j) = some u
  len : news.length = k * sz
  one : ∀ u ∈ news, u.oneCell' = true
  rel : ∀ i, i < k → ∀ j, j < sz → ∃ u, news[i * sz + j]? = some u ∧ VRC G (row i j) u

theorem src_of {sz k : Nat} {row : Nat → Nat → C} {v : Value} (s : St X w G m σ) (hsz : 0 < sz) (h : VRC G (.sl k sz row) v) : ∃ news, Src w G sz k row v news := by
  obtain ⟨a, cp, rfl, h1, h2, h3⟩ := h
  rcases h3 with rfl | ⟨blk, off, arr, rfl, hG, hc⟩
  · exact ⟨[], ⟨a, cp, rfl, fun _ => rfl, fun ad _ j u hu => by simp at hu⟩, by simp, fun u hu => by simp at hu, fun i hi => by omega⟩
  · have hget : ∀ q, q < k * sz → ∃ u, arr[off + q]? = some u ∧ VRC G (row (q / sz) (q % sz)) u := by
      intro q hq
      have h4 : q / sz < k := Nat.div_lt_of_lt_mul (by rw [Nat.mul_comm]; exact hq)
      obtain ⟨u, h5, h6⟩ := hc (q / sz) h4 (q % sz) (Nat.mod_lt _ hsz)
      refine ⟨u, ?_, h6⟩
      rw [← h5, Nat.mul_comm (q / sz), Nat.div_add_mod]
    refine ⟨(List.range (k * sz)).map fun q => (arr[off + q]?).getD undef, ⟨some ⟨blk, off, none⟩, cp, rfl, (by simp), fun ad had j u hu => ?_⟩, by simp, fun u hu => ?_, fun i hi j hj => ?_⟩
    · obtain rfl := Option.some.inj had
      rw [add_none, cell?_of_fro (s.fro _ _ hG)]
      simp only [List.getElem?_map, Option.map_eq_some_iff] at hu
      obtain ⟨q, hq, rfl⟩ := hu
      obtain ⟨h4, rfl⟩ := List.getElem?_eq_some_iff.1 hq
      simp only [List.length_range] at h4
      simp only [List.getElem_range]
      obtain ⟨u, h5, -⟩ := hget j h4
      simp [h5]
    · simp only [List.mem_map, List.mem_range] at hu
      obtain ⟨q, hq, rfl⟩ := hu
      obtain ⟨u, h5, h6⟩ := hget q hq
      simp [h5, VRC.one h6]
    · have h4 : i * sz + j < k * sz := by
        have : (i + 1) * sz ≤ k * sz := Nat.mul_le_mul_right _ hi
        rw [Nat.add_mul] at this; omega
      obtain ⟨u, h5, h6⟩ := hc i hi j hj
      refine ⟨u, ?_, h6⟩
      rw [List.getElem?_map, List.getElem?_range h4]
      simp [h5]

theorem append_run {t ty e : Nat} {i ti : TI} (ht : X.ty t = some ti) (hk : ti.k = .slice e) (hi : X.ty e = some i) (hsz : 0 < i.size) {v : Value} {n : Nat} {xs : List Value} (hown : w.ownsRow 0 e i.size v n xs)
    {k : Nat} {row : Nat → Nat → C} {x : Value} {news : List Value} (hs : Src w G i.size k row x news) (hb : (n + k) * i.bytes ≤ 140737488355328) (hl : n + k ≤ 140737488355328) :
    ∃ v' w', (Builtin.append_ #[t, t] ty #[v, x]).run X.P w = .ok v' w' ∧ w'.ownsRow 0 e i.size v' (n + k) (xs ++ news) ∧ w.grownBy w' v.ownBlock ∧ ∀ g, v'.ownBlock = some g → v.ownBlock = some g ∨ w.heap.size ≤ g := by
  obtain ⟨inf, z, h1, h2, h3, h4, h5, h6, h7, h8⟩ := (X.ok e i hi).2
  have hu := und_slice ht hk
  obtain ⟨a, cp, rfl, ha, hread⟩ := hs.form
  have hlen : news.length = k * inf.size := by rw [h2]; exact hs.len
  have hone := hs.one
  cases a with
  | none =>
    obtain rfl := ha rfl
    have hn : news = [] := List.eq_nil_of_length_eq_zero (by simpa using hs.len)
    subst hn
    refine ⟨v, w, ?_, by simpa using hown, ⟨rfl, rfl, rfl, Nat.le_refl _, fun _ _ _ => rfl⟩, fun g hg => .inl hg⟩
    rcases hown.2 with ⟨rfl, rfl⟩ | ⟨g, cap, cur, rfl, _, hg, hle, _⟩
    · simp [Builtin.append_, run_underlying hu, sizeOf, typeInfo, h1, Builtin.lenOf, Builtin.firstCells]
    · simp [Builtin.append_, run_underlying hu, sizeOf, typeInfo, h1, Builtin.lenOf, Builtin.firstCells, hle, storeCells]
  | some ad =>
    have hr := hread ad rfl
    obtain ⟨v', w1, g1, g2, g3, -⟩ := run_append_own (P := X.P) w 0 t ty e inf z i.size i.bytes hu h1 h4 h2 h3 (by rw [h7]) hsz v n xs hown ad k cp news hs.len hr hone (by simp [maxLen]; omega) hb (Nat.zero_le _)
    refine ⟨v', w1, g1, g2, g3, fun g hg => ?_⟩
    rcases hown.2 with ⟨rfl, rfl⟩ | ⟨g', cap, cur, rfl, _, hg', hle, hcm, hcs, htk⟩
    · by_cases hk0 : k = 0
      · subst hk0
        have : v' = .slice none 0 0 := by
          have h9 : (Builtin.append_ #[t, t] ty #[.slice none 0 0, .slice (some ad) 0 cp]).run X.P w = .ok (.slice none 0 0) w := by
            simp [Builtin.append_, run_underlying hu, sizeOf, typeInfo, h1, Builtin.lenOf, Builtin.firstCells, loadCells, loadCellsFrom]
          rw [h9] at g1
          cases g1; rfl
        rw [this] at hg; cases hg
      · have h9 := run_append_nil (P := X.P) w t ty e inf z hu h1 h4 ad k cp news hlen hr (by omega) (by omega) (by rw [h3]; simp at hb; omega)
        rw [h9] at g1
        cases g1
        simp [Value.ownBlock] at hg
        exact .inr (by omega)
    · by_cases hroom : n + k ≤ cap
      · have hfit : n * inf.size + news.length ≤ cur.size := by rw [hlen, hcs, h2, ← Nat.add_mul]; exact Nat.mul_le_mul_right _ hroom
        have h9 := run_append_room (P := X.P) w t ty e inf hu h1 g' n cap cur hg' ad k cp news hlen hr hone hroom hfit
        rw [h9] at g1
        cases g1
        exact .inl hg
      · have holds : ∀ j u, xs[j]? = some u → w.cell? ((⟨g', 0, none⟩ : Addr).add j) = some u := hown.cells (g := g') rfl
        have h9 := run_append_grow (P := X.P) w t ty e inf z hu h1 h4 ⟨g', 0, none⟩ n cap xs (by rw [h2]; exact hown.1) holds ad k cp news hlen hr (by omega) (by omega) (by rw [h3]; exact growslice_fits (by omega) hb)
        rw [h9] at g1
        cases g1
        simp [Value.ownBlock] at hg
        exact .inr (by omega)

/-- the value of an own row, as it is told -/
theorem sl_form {sz n : Nat} {e : TypeId} {v : Value} {xs : List Value} (h : w.ownsRow 0 e sz v n xs) : (v = .slice none 0 0 ∧ n = 0) ∨ ∃ g cp, v = .slice (some ⟨g, 0, none⟩) n cp := by
  rcases h.2 with h | ⟨g, cap, cur, rfl, _⟩
  · exact .inl h
  · exact .inr ⟨g, cap, rfl⟩

theorem run_append {ρ : Operand → Value} {s x : Operand} {t : Nat} {args : Array Operand} {ts : Array TypeId} (ho : o.op = .call ⟨.builtin .append, args, ts⟩) (ha : args.toList = [s, x]) (hts : ts.toList = [t, t]) {v' : Value} (h : (Builtin.append_ #[t, t] o.type #[ρ s, ρ x]).run X.P w = .ok v' w') : (execOp ρ o).run X.P w = .ok (.value v') w' := by
  obtain rfl : args = #[s, x] := by rw [← Array.toArray_toList (xs := args), ha]
  obtain rfl : ts = #[t, t] := by rw [← Array.toArray_toList (xs := ts), hts]
  simp [execOp, ho, resolve, invoke, builtin, h]

/-- append to nil: a new row of the walk's own -/
theorem ok_append_nil {s x : Operand} {t e : Nat} {i ti : TI} {args : Array Operand} {ts : Array TypeId} (ho : o.op = .call ⟨.builtin .append, args, ts⟩) (ha : args.toList = [s, x]) (hts : ts.toList = [t, t])
    (ht : X.ty t = some ti) (hk : ti.k = .slice e) (hi : X.ty e = some i) (hsz : 0 < i.size) (hs : evO X T s = some (.cell (.c .nsl))) {k : Nat} {row : Nat → Nat → C} (hx : evO X T x = some (.cell (.c (.sl k i.size row))))
    (hb : k * i.bytes ≤ 140737488355328) : Eff X o σ T (some (.cell (.sl σ.length 0 k))) (σ ++ [some (.rows 0 e i.size k row)]) := by
  intro w G m ρ st hρ
  have hopS : s ∈ o.op.operands := by
    obtain rfl : args = #[s, x] := by rw [← Array.toArray_toList (xs := args), ha]
    simp [ho, Op.operands, Call.operands]
  have hopX : x ∈ o.op.operands := by
    obtain rfl : args = #[s, x] := by rw [← Array.toArray_toList (xs := args), ha]
    simp [ho, Op.operands, Call.operands]
  have hv : ρ s = .slice none 0 0 := hρ s hopS _ hs
  have hxv := hρ x hopX _ hx
  have hkl : k ≤ 140737488355328 := by obtain ⟨_, _, _, h, _⟩ := hxv; exact h
  obtain ⟨news, hsrc⟩ := src_of st hsz hxv
  obtain ⟨v', w', h1, h2, h3, h4⟩ := append_run (ty := o.type) ht hk hi hsz (World.ownsRow_nil w 0 e i.size) hsrc (by simpa using hb) (by omega)
  rw [run_append ho ha hts (by rw [hv]; exact h1)]
  simp only [Nat.zero_add, List.nil_append] at h2
  have hext : ∀ a u x, m a u = some x → updM m σ.length 0 v' a u = some x := updM_ext (.inl (st.lim _ _ (Nat.le_refl _)))
  obtain ⟨h5, h6⟩ := st.push (v := v') (B := .rows 0 e i.size k row) h3 rfl (fun g hg => (h4 g hg).resolve_left (by simp [Value.ownBlock]))
    ⟨news, h2, fun a ha b hb => hsrc.rel a ha b hb⟩
  exact ⟨G, _, h5, h6, fun y hy => by obtain rfl := Option.some.inj hy; exact ⟨updM_same, hkl, sl_form h2⟩⟩

/-- append to an own row -/
theorem ok_append {s x : Operand} {t e : Nat} {i ti : TI} {args : Array Operand} {ts : Array TypeId} (ho : o.op = .call ⟨.builtin .append, args, ts⟩) (ha : args.toList = [s, x]) (hts : ts.toList = [t, t])
    (ht : X.ty t = some ti) (hk : ti.k = .slice e) (hi : X.ty e = some i) (hsz : 0 < i.size) {b ver ver' len n : Nat} {row : Nat → Nat → C} (hs : evO X T s = some (.cell (.sl b ver len))) (hB : σ[b]? = some (some (.rows ver' e i.size n row))) (hver : ver = ver') (h1000 : ver + 1 ≠ 1000)
    {k : Nat} {row2 : Nat → Nat → C} (hx : evO X T x = some (.cell (.c (.sl k i.size row2)))) (hb : (n + k) * i.bytes ≤ 140737488355328) (hl : n + k ≤ 140737488355328) :
    Eff X o σ T (some (.cell (.sl b (ver + 1) (n + k)))) (σ.set b (some (.rows (ver + 1) e i.size (n + k) fun a j => if a < n then row a j else row2 (a - n) j))) := by
  subst hver
  intro w G m ρ st hρ
  have hopS : s ∈ o.op.operands := by
    obtain rfl : args = #[s, x] := by rw [← Array.toArray_toList (xs := args), ha]
    simp [ho, Op.operands, Call.operands]
  have hopX : x ∈ o.op.operands := by
    obtain rfl : args = #[s, x] := by rw [← Array.toArray_toList (xs := args), ha]
    simp [ho, Op.operands, Call.operands]
  obtain ⟨hm, -, -⟩ := hρ s hopS _ hs
  have hxv := hρ x hopX _ hx
  obtain ⟨v0, h0, ⟨xs, hown, hcell⟩, -⟩ := st.own _ _ hB
  obtain rfl : v0 = _ := Option.some.inj (h0.symm.trans hm)
  obtain ⟨news, hsrc⟩ := src_of st hsz hxv
  have hown' : w.ownsRow 0 e i.size (ρ s) n xs := hown
  obtain ⟨v', w', h1, h2, h3, h4⟩ := append_run (ty := o.type) ht hk hi hsz hown' hsrc hb hl
  rw [run_append ho ha hts h1]
  have hext : ∀ a u x, m a u = some x → updM m b (ver + 1) v' a u = some x := updM_ext (.inl (st.top b _ (ver + 1) hB (by simp [Blk.ver])))
  obtain ⟨h5, h6⟩ := st.upd (B' := .rows (ver + 1) e i.size (n + k) fun a j => if a < n then row a j else row2 (a - n) j) (v' := v') hB h0 h3 (.inr ⟨by simp [Blk.ver], by simp only [Blk.ver]; exact h1000⟩) h4
    ⟨xs ++ news, h2, fun a ha j hj => by
      simp only [Blk.len] at ha
      simp only [Blk.sz] at hj
      have hxl : xs.length = n * i.size := hown'.1
      by_cases han : a < n
      · obtain ⟨u, hu, hr⟩ := hcell a han j hj
        have hu' : xs[a * i.size + j]? = some u := hu
        refine ⟨u, by rw [show (Blk.rows (ver + 1) e i.size (n + k) _).sz = i.size from rfl, List.getElem?_append_left (List.getElem?_eq_some_iff.1 hu').1]; exact hu', ?_⟩
        show VRC G (if a < n then row a j else row2 (a - n) j) u
        rw [if_pos han]; exact hr
      · obtain ⟨u, hu, hr⟩ := hsrc.rel (a - n) (by omega) j hj
        have e1 : a * i.size + j - n * i.size = (a - n) * i.size + j := by
          have : a = n + (a - n) := by omega
          rw [this, Nat.add_mul]
          have e2 : n + (a - n) - n = a - n := by omega
          rw [e2]; omega
        have e3 : n * i.size ≤ a * i.size := Nat.mul_le_mul_right _ (by omega)
        refine ⟨u, by rw [show (Blk.rows (ver + 1) e i.size (n + k) _).sz = i.size from rfl, List.getElem?_append_right (by omega), hxl, e1]; exact hu, ?_⟩
        show VRC G (if a < n then row a j else row2 (a - n) j) u
        rw [if_neg han]; exact hr⟩
  exact ⟨G, _, h5, h6, fun y hy => by obtain rfl := Option.some.inj hy; exact ⟨updM_same, hl, sl_form h2⟩⟩

theorem ok_make {t e : Nat} {l c : Operand} {i ti : TI} (ho : o.op = .makeSlice t l c) (ht : X.ty t = some ti) (hk : ti.k = .slice e) (hi : X.ty e = some i) {kl kc : IntKind} {n : Int} (hl : evO X T l = some (.cell (.c (.int kl n)))) (hc : evO X T c = some (.cell (.c (.int kc n))))
    (h0 : 0 ≤ n) (hb : n * i.bytes ≤ 140737488355328) (hn : n ≤ 140737488355328) :
    Eff X o σ T (some (.cell (.sl σ.length 0 n.toNat))) (σ ++ [some (.rows 0 e i.size n.toNat fun _ j => i.zero.getD j .jk)]) := by
  intro w G m ρ st hρ
  obtain ⟨q, rfl⟩ := Int.eq_ofNat_of_zero_le h0
  have hlv : ρ l = .int kl q := hρ l (by simp [ho, Op.operands]) _ hl
  have hcv : ρ c = .int kc q := hρ c (by simp [ho, Op.operands]) _ hc
  obtain ⟨inf, z, h1, h2, h3, h4, h5, h6, h7, h8⟩ := (X.ok e i hi).2
  have hu := und_slice ht hk
  have hb' : inf.bytes * q ≤ 281474976710656 := by
    rw [h3, Nat.mul_comm]
    have : ((q * i.bytes : Nat) : Int) ≤ 140737488355328 := by rw [Int.natCast_mul]; exact hb
    omega
  obtain ⟨w', g1, g2, g3⟩ := run_make_full (P := X.P) w 0 t e inf z i.size hu h1 h4 h2 kl kc q hb' (by simp [maxLen]; omega) (Nat.zero_le _)
  have hrun : (execOp ρ o).run X.P w = .ok (.value (.slice (some ⟨w.heap.size, 0, none⟩) q q)) w' := by
    simp [execOp, ho, hlv, hcv, g1]
  rw [hrun]
  obtain ⟨z', hz1, hz2, hz3, -⟩ := zero_ok hi (G := G) (m := m)
  obtain rfl : z' = z := by
    have h9 : (zeroValue e).run X.P w = .ok z w := by simp [zeroValue, typeInfo, h1, h4]
    rw [hz1 w] at h9; cases h9; rfl
  have hext : ∀ a u x, m a u = some x → updM m σ.length 0 (.slice (some ⟨w.heap.size, 0, none⟩) q q) a u = some x := updM_ext (.inl (st.lim _ _ (Nat.le_refl _)))
  simp only [Int.ofNat_eq_natCast, Int.toNat_natCast]
  obtain ⟨h9, h10⟩ := st.push (v := .slice (some ⟨w.heap.size, 0, none⟩) q q) (B := .rows 0 e i.size q fun _ j => i.zero.getD j .jk) g3 rfl (fun g hg => by simp [Value.ownBlock] at hg; omega)
    ⟨_, g2, fun a ha j hj => by
      simp only [Blk.len] at ha
      simp only [Blk.sz] at hj
      have hpos : 0 < i.size := by omega
      have hlt : a * i.size + j < q * i.size := by
        have : (a + 1) * i.size ≤ q * i.size := Nat.mul_le_mul_right _ ha
        rw [Nat.add_mul] at this; omega
      have hzl : i.zero.length = z'.cells.size := by simpa using hz2.1.symm
      obtain ⟨u, hu1, hu2⟩ := hz2.2 j (.c (i.zero.getD j .jk)) (by
        rw [List.getElem?_map, List.getD_eq_getElem?_getD, List.getElem?_eq_getElem (by omega)]; rfl)
      refine ⟨u, ?_, hu2⟩
      have hmod : (a * i.size + j) % z'.cells.size = j := by
        rw [hz3, Nat.mul_comm, Nat.mul_add_mod, Nat.mod_eq_of_lt hj]
      have h11 : z'.cells[j]? = some u := by simpa using hu1
      show (madeCells z'.cells (q * i.size)).toList[a * i.size + j]? = some u
      simp only [madeCells, Array.toList_map, List.getElem?_map, Array.toList_range]
      rw [List.getElem?_range hlt]
      simp [getElem!_def, hmod, h11]⟩
  exact ⟨G, _, h9, h10, fun y hy => by obtain rfl := Option.some.inj hy; exact ⟨updM_same, by omega, .inr ⟨w.heap.size, q, rfl⟩⟩⟩
end
end Go.Av

namespace Go.Av
open Go

def eqFs (X : Cx) : List Field → List A → List A → Option Bool
  | [], _, _ => some true
  | f :: fs, cs, ds =>
    if f.name = "_" then none else
    match X.ty f.type with
    | some ⟨.int _, 1, _, _⟩ =>
      match cs[f.offset]?, ds[f.offset]? with
      | some (.c (.int k a)), some (.c (.int k' b)) => if k = k' then (eqFs X fs cs ds).map fun r => decide (a = b) && r else none
      | _, _ => none
    | some ⟨.bool, 1, _, _⟩ =>
      match cs[f.offset]?, ds[f.offset]? with
      | some (.c (.bool a)), some (.c (.bool b)) => (eqFs X fs cs ds).map fun r => (a == b) && r
      | _, _ => none
    | _ => none

def eqRes (X : Cx) (t : Nat) : Option V → Option V → Option Bool
  | some (.cell (.c (.bool a))), some (.cell (.c (.bool b))) => match X.ty t with | some ⟨.bool, _, _, _⟩ => some (a == b) | _ => none
  | some (.agg cs), some (.agg ds) =>
    match X.P.underlying t with
    | some (.struct _) => if X.P.eqGuardType X.P.depth t = false ∧ X.P.stoodInHeld t = false then eqFs X (X.P.fieldsOf t).toList cs ds else none
    | _ => none
  | _, _ => none
def evEq (X : Cx) (T : Tm) (o : Oper) : Option V :=
  match o.op with
  | .binOp .eql t x y _ => (eqRes X t (evO X T x) (evO X T y)).map fun b => .cell (.c (.bool b))
  | .binOp .neq t x y _ => (eqRes X t (evO X T x) (evO X T y)).map fun b => .cell (.c (.bool (!b)))
  | _ => none

section
variable {X : Cx} {σ : Hp} {T : Tm} {o : Oper} {r : V} {G : GM} {m : OM} {w : World}

theorem part_one {t : Nat} {i : TI} (hi : X.ty t = some i) (ha : i.agg = false) {vs : Array Value} {off : Nat} {u : Value} (hu : vs.toList[off]? = some u) : (part t vs off).run X.P w = .ok u w := by
  have : vs[off]? = some u := by simpa using hu
  simp [part, run_isAgg hi, ha, this]

theorem eqFs_run {xs ys : Array Value} {cs ds : List A} (hx : VRL G m cs xs.toList) (hy : VRL G m ds ys.toList) (d : Nat) : ∀ (fs : List Field) (b : Bool), eqFs X fs cs ds = some b → (Op.eqFields (d + 1) xs ys fs).run X.P w = .ok b w
  | [], b, h => by
    obtain rfl := Option.some.inj h
    simp [Op.eqFields]
  | f :: fs, b, h => by
    unfold eqFs at h
    split at h
    · cases h
    rename_i hn
    split at h
    · rename_i hty
      split at h
      case h_2 => cases h
      rename_i k a k' a' h1 h2
      split at h
      case isFalse => cases h
      rename_i hk
      subst hk
      simp only [Option.map_eq_some_iff] at h
      obtain ⟨r', hr, rfl⟩ := h
      obtain ⟨u, hu, hvu⟩ := hx.2 _ _ h1
      obtain ⟨v, hv, hvv⟩ := hy.2 _ _ h2
      obtain rfl : u = .int k a := hvu
      obtain rfl : v = .int k a' := hvv
      have ih := eqFs_run hx hy d fs r' hr
      simp only [Op.eqFields, hn, ne_eq, not_false_eq_true, if_true, Sem.run_bind, part_one hty rfl hu, part_one hty rfl hv, Result.andThen_ok, run_equalIn_int w d f.type k _ a a' (und_int hty rfl)]
      cases hab : (a == a') with
      | false => simp; intro e; simp [e] at hab
      | true =>
        have : a = a' := by simpa using hab
        simp [this, ih]
    · rename_i hty
      split at h
      case h_2 => cases h
      rename_i a a' h1 h2
      simp only [Option.map_eq_some_iff] at h
      obtain ⟨r', hr, rfl⟩ := h
      obtain ⟨u, hu, hvu⟩ := hx.2 _ _ h1
      obtain ⟨v, hv, hvv⟩ := hy.2 _ _ h2
      obtain rfl : u = .bool a := hvu
      obtain rfl : v = .bool a' := hvv
      have ih := eqFs_run hx hy d fs r' hr
      have hub : X.P.underlying f.type = some .bool := by have := (X.ok _ _ hty).1; exact this
      simp only [Op.eqFields, hn, ne_eq, not_false_eq_true, if_true, Sem.run_bind, part_one hty rfl hu, part_one hty rfl hv, Result.andThen_ok, run_equalIn_bool w d f.type a a' hub]
      cases hab : (a == a') with
      | false => simp
      | true => simp [ih]
    · cases h

theorem eqRes_run {t : Nat} {x y : V} {b : Bool} {u v : Value} (h : eqRes X t (some x) (some y) = some b) (hx : VRV G m x u) (hy : VRV G m y v) (op : BinOp) (hop : op = .eql ∨ op = .neq) (ox oy : Operand) :
    (eqGuard op t ox oy u v).run X.P w = .ok () w ∧ (binOp op t u v).run X.P w = .ok (.bool (match op with | .eql => b | _ => !b)) w := by
  unfold eqRes at h
  split at h
  · rename_i a a' h1 h2
    split at h
    case h_2 => cases h
    rename_i hty
    obtain rfl := Option.some.inj h1
    obtain rfl := Option.some.inj h2
    obtain rfl := Option.some.inj h
    obtain rfl : u = .bool a := hx
    obtain rfl : v = .bool a' := hy
    have hub : X.P.underlying t = some .bool := (X.ok _ _ hty).1
    refine ⟨by rcases hop with rfl | rfl <;> simp [eqGuard], ?_⟩
    rcases hop with rfl | rfl <;> simp [binOp, run_equal_bool w t a a' hub]
  · rename_i cs ds h1 h2
    obtain rfl := Option.some.inj h1
    obtain rfl := Option.some.inj h2
    obtain ⟨us, rfl, hxs⟩ := hx
    obtain ⟨vs, rfl, hys⟩ := hy
    split at h
    case h_2 => cases h
    rename_i fs hu
    split at h
    case isFalse => cases h
    rename_i hc
    have hu' : X.P.underlying t = some (.struct (X.P.fieldsOf t)) := by simp only [Program.fieldsOf, hu]
    refine ⟨run_eqGuard_agg w op t ox oy us vs hc.1, ?_⟩
    have h3 := eqFs_run (X := X) (w := w) hxs hys 9998 _ _ h
    have h4 : (Op.equalIn 10000 t (.agg us) (.agg vs)).run X.P w = .ok b w := by
      rw [show (10000 : Nat) = 9999 + 1 from rfl, run_equalIn_struct w 9999 t us vs hu' hc.2]; exact h3
    rcases hop with rfl | rfl
    · rw [run_eql_struct, h4]; rfl
    · rw [run_neq_struct, h4]; rfl
  · cases h

theorem ok_eq (h : evEq X T o = some r) : Quiet X o σ T r := by
  unfold evEq at h
  split at h
  · rename_i t x y t' ho
    simp only [Option.map_eq_some_iff] at h
    obtain ⟨b, hb, rfl⟩ := h
    cases hx : evO X T x with
    | none => rw [hx] at hb; simp [eqRes] at hb
    | some vx =>
      cases hy : evO X T y with
      | none => rw [hx, hy] at hb; cases vx <;> simp [eqRes] at hb
      | some vy =>
        rw [hx, hy] at hb
        refine quiet_of_run fun w G m ρ _ hρ => ?_
        obtain ⟨h1, h2⟩ := eqRes_run (w := w) hb (hρ x (by simp [ho, Op.operands]) _ hx) (hρ y (by simp [ho, Op.operands]) _ hy) .eql (.inl rfl) x y
        exact ⟨_, by simp [execOp, ho, h1, h2], rfl⟩
  · rename_i t x y t' ho
    simp only [Option.map_eq_some_iff] at h
    obtain ⟨b, hb, rfl⟩ := h
    cases hx : evO X T x with
    | none => rw [hx] at hb; simp [eqRes] at hb
    | some vx =>
      cases hy : evO X T y with
      | none => rw [hx, hy] at hb; cases vx <;> simp [eqRes] at hb
      | some vy =>
        rw [hx, hy] at hb
        refine quiet_of_run fun w G m ρ _ hρ => ?_
        obtain ⟨h1, h2⟩ := eqRes_run (w := w) hb (hρ x (by simp [ho, Op.operands]) _ hx) (hρ y (by simp [ho, Op.operands]) _ hy) .neq (.inr rfl) x y
        exact ⟨_, by simp [execOp, ho, h1, h2], rfl⟩
  · cases h
end
end Go.Av

namespace Go.Av
open Go

def putO (T : Tm) (d : Option Tmp) : Option V → Tm
  | some r => put T d r
  | none => drp T d

/-- what an operation that is passed over leaves -/
def skV : V := .tup 0 fun _ => .agg []
theorem skV_ok {G : GM} {m : OM} : VRV G m skV undef := ⟨#[], rfl, rfl, fun i hi => by omega⟩
def wantedA (ops : Array Oper) (T : Tm) (o : Oper) : Option Bool :=
  match o.guard with
  | none => some true
  | some (j, b) =>
    match ops[j]? with
    | some q =>
      match q.dst with
      | some d => match get T d with | some (.cell (.c (.bool x))) => some (x == b) | some (.tup 0 _) => some false | _ => none
      | none => none
    | none => none

section
variable {X : Cx} {N : Nat} {ops : Array Oper} {σ σ' : Hp} {T : Tm} {Q : Exit → Hp → Tm → Prop} {o : Oper} {r : Option V}

theorem wanted_ok {G : GM} {m : OM} {a : Act} (t : TR N G m a T) {q : Bool} (h : wantedA ops T o = some q) : Region.wanted o (yielded ops a.tmps) = q := by
  unfold wantedA at h
  unfold Region.wanted
  split at h
  · rename_i hg; rw [hg]; exact Option.some.inj h
  · rename_i j b hg
    rw [hg]
    split at h
    case h_2 => cases h
    rename_i q' hq
    split at h
    case h_2 => cases h
    rename_i d hd
    split at h
    case h_3 => cases h
    case h_2 =>
      rename_i f hx
      obtain ⟨h1, vs, h2, h3, -⟩ := t.vals d _ hx
      have hlt : d < a.tmps.size := by rw [t.size]; exact h1
      have h4 : a.tmps[d]? = some (.tuple vs) := by
        rw [Array.getElem?_eq_getElem hlt]
        rw [Array.getD, dif_pos hlt] at h2
        exact congrArg some h2
      simp only [yielded, hq, Option.bind_some, hd, h4]
      rw [← Option.some.inj h]
      rfl
    rename_i x hx
    obtain ⟨h1, h2⟩ := t.vals d _ hx
    have h3 : a.tmps.getD d undef = .bool x := h2
    have hlt : d < a.tmps.size := by rw [t.size]; exact h1
    have h4 : a.tmps[d]? = some (.bool x) := by
      rw [Array.getElem?_eq_getElem hlt]
      rw [Array.getD, dif_pos hlt] at h3
      exact congrArg some h3
    simp only [yielded, hq, Option.bind_some, hd, h4]
    rw [← Option.some.inj h]
    cases x <;> cases b <;> rfl

def WO (X : Cx) (N : Nat) (ops : Array Oper) (k : Nat) (σ : Hp) (T : Tm) (Q : Exit → Hp → Tm → Prop) : Prop :=
  ∀ w0 G0 μ σ0 w G m a, St X w G m σ → TR N G m a T → Tran w0 G0 μ σ0 w G m σ → wpList X.P ops (PostW X N w0 G0 μ σ0 Q) (ops.toList.drop k) a w

theorem WO_end {k : Nat} (hk : ops.toList.length ≤ k) (h : Q .normal σ T) : WO X N ops k σ T Q := by
  intro w0 G0 μ σ0 w G m a s t tr
  rw [List.drop_eq_nil_of_le hk]
  exact ⟨G, m, σ, T, s, t, tr, h⟩

theorem TR.putO {G : GM} {m : OM} {a : Act} (t : TR N G m a T) {d : Option Tmp} (hd : fitD N d = true) {v : Value} (hv : ∀ x, r = some x → VRV G m x v) : TR N G m (a.put d v) (putO T d r) := by
  cases r with
  | none => exact t.drp d v
  | some x => exact t.put hd (hv x rfl)

/-- what an operation's run must lead to -/
theorem wp_of_runs {w : World} {G : GM} {m : OM} {a : Act} {K : Act → World → Prop} {Q' : Exit → Act → World → Prop} (h : RunsE X w G m σ r σ' ((execOp a.eval o).run X.P w)) (hk : ∀ v w', EPost X w G m σ r σ' v w' → K (a.put o.dst v) w') : o.wp X.P a w K Q' := by
  unfold Oper.wp
  generalize (execOp a.eval o).run X.P w = q at h
  unfold RunsE at h
  split at h
  · exact hk _ _ h
  · exact hk _ _ h.1
  · obtain ⟨rfl, h⟩ := h
    exact h.mono fun e w'' ⟨v, he, h2⟩ => by subst he; exact hk _ _ h2
  · exact h.elim

theorem drop_cons {k : Nat} (hk : ops[k]? = some o) : ops.toList.drop k = o :: ops.toList.drop (k + 1) := by
  have hlt : k < ops.toList.length := by
    have := (Array.getElem?_eq_some_iff.1 hk).1; simpa using this
  rw [List.drop_eq_getElem_cons hlt]
  congr 1
  have : ops.toList[k]? = some o := by simpa using hk
  rw [List.getElem?_eq_getElem hlt] at this
  exact Option.some.inj this

theorem WO_eff {k : Nat} (hk : ops[k]? = some o) (hg : wantedA ops T o = some true) (hd : fitD N o.dst = true) (he : Eff X o σ T r σ') (h : WO X N ops (k + 1) σ' (putO T o.dst r) Q) : WO X N ops k σ T Q := by
  intro w0 G0 μ σ0 w G m a s t tr
  rw [drop_cons hk]
  refine wpList_step fun K hK => ?_
  rw [if_pos (wanted_ok t hg)]
  refine wp_of_runs (he w G m a.eval s fun x _ v hv => evO_ok s t hv) ?_
  rintro v w' ⟨G', m', s', tr', hv⟩
  exact hK _ _ (h w0 G0 μ σ0 w' G' m' _ s' (TR.putO (t.mono tr'.tr.gext tr'.mono) hd hv) (tr.trans tr'.tr))

theorem WO_skip {k : Nat} (hk : ops[k]? = some o) (hg : wantedA ops T o = some false) (hd : fitD N o.dst = true) (h : WO X N ops (k + 1) σ (put T o.dst skV) Q) : WO X N ops k σ T Q := by
  intro w0 G0 μ σ0 w G m a s t tr
  rw [drop_cons hk]
  refine wpList_step fun K hK => ?_
  rw [if_neg (by rw [wanted_ok t hg]; simp)]
  exact hK _ _ (h w0 G0 μ σ0 w G m _ s (t.put hd skV_ok) tr)

theorem W_region {id : Nat} (h : WO X N ops 0 σ T Q) : W X N (.region id ops false) σ T Q := by
  intro w G m a s t
  exact wp_region_list (h w G m σ w G m a s t (.refl _ _ _ _))
end

/-! ### chunks -/
def loudLoad (X : Cx) (σ : Hp) : Option V → Bool
  | some (.cell (.op k ver _ _ _)) => match σ[k]? with | some (some B) => !(Nat.beq ver B.ver) | _ => true
  | _ => false
def loudPick : Option V → Option V → Option V → Bool
  | some (.cell (.c (.bool _))), some (.cell (.c (.bool _))), some (.cell (.c (.bool _))) => false
  | some (.cell (.c (.bool bc))), some _, none => !bc
  | some (.cell (.c (.bool bc))), none, some _ => bc
  | _, _, _ => true
def loudIx (X : Cx) (t : Nat) : Operand → Bool
  | .const (.int _ n) => match X.ty t with | some ⟨.array len _, _, _, _⟩ => !(decide (0 ≤ n ∧ n < len)) | _ => true
  | _ => true
def loud (X : Cx) (σ : Hp) (T : Tm) (o : Oper) : Bool :=
  match o.op with
  | .move _ | .assign _ | .field .. | .fieldAddr .. | .extract .. | .makeFunc .. | .build .. | .nilCheck _ => false
  | .call ⟨.builtin .len, _, _⟩ | .call ⟨.builtin .min, _, _⟩ | .call ⟨.builtin .max, _, _⟩ => false
  | .unOp .not _ _ => false
  | .load _ x => loudLoad X σ (evO X T x)
  | .binOp .eql .. | .binOp .neq .. | .binOp .lss .. | .binOp .leq .. | .binOp .gtr .. | .binOp .geq .. => false
  | .pick c a b => loudPick (evO X T c) (nosk (evO X T a)) (nosk (evO X T b))
  | .indexAddr t _ ix => loudIx X t ix
  | _ => true

section
variable {X : Cx} {σ : Hp} {T : Tm} {o : Oper} {r : V} {φ : Prop}

theorem loud_ok (he : ev X σ T o = some (r, φ)) (hl : loud X σ T o = false) : φ := by
  unfold ev at he
  unfold loud at hl
  split at he <;> rename_i ho <;> simp only [ho] at hl
  · simp only [Option.map_eq_some_iff, Prod.mk.injEq] at he
    obtain ⟨_, _, _, rfl⟩ := he; trivial
  · simp only [Option.map_eq_some_iff, Prod.mk.injEq] at he
    obtain ⟨_, _, _, rfl⟩ := he; trivial
  · split at he
    case h_2 => cases he
    rename_i bc hc
    rw [hc] at hl
    generalize nosk (evO X T _) = va at he hl
    generalize nosk (evO X T _) = vb at he hl
    unfold evPick at he
    unfold loudPick at hl
    split at he
    · simp only [Option.some.injEq, Prod.mk.injEq] at he
      obtain ⟨_, rfl⟩ := he; trivial
    · simp only [Option.some.injEq, Prod.mk.injEq] at he
      obtain ⟨_, rfl⟩ := he
      simpa using hl
    · simp only [Option.some.injEq, Prod.mk.injEq] at he
      obtain ⟨_, rfl⟩ := he
      simpa using hl
    · cases he
  · unfold evField at he
    repeat' (split at he)
    all_goals first | (cases he; done) | (simp only [Option.some.injEq, Prod.mk.injEq, Option.map_eq_some_iff] at he; first | (obtain ⟨_, rfl⟩ := he; trivial) | (obtain ⟨_, _, _, rfl⟩ := he; trivial))
  · unfold evFieldAddr at he
    repeat' (split at he)
    all_goals first | (cases he; done) | (simp only [Option.some.injEq, Prod.mk.injEq] at he; obtain ⟨_, rfl⟩ := he; trivial)
  · rename_i t x ix
    unfold evIndexAddr at he
    unfold loudIx at hl
    split at hl
    case h_2 => cases hl
    rename_i n
    split at hl
    case h_2 => cases hl
    rename_i len e _ _ _ ht
    rw [ht] at he
    simp only [evO, ofConst] at he
    split at he
    case h_2 => cases he
    rename_i hix
    simp only [Option.some.injEq, V.cell.injEq, A.c.injEq, C.int.injEq] at hix
    obtain ⟨rfl, rfl⟩ := hix
    simp only [Bool.not_eq_false', decide_eq_true_eq] at hl
    split at he
    case h_2 => cases he
    split at he
    · simp only [Option.some.injEq, Prod.mk.injEq] at he
      obtain ⟨_, rfl⟩ := he; exact hl
    · simp only [Option.some.injEq, Prod.mk.injEq] at he
      obtain ⟨_, rfl⟩ := he; exact hl
    · cases he
  · cases hl
  · rename_i t x
    unfold evLoad at he
    unfold loudLoad at hl
    split at he
    · split at he
      case h_2 => cases he
      split at he
      case isFalse => cases he
      simp only [Option.some.injEq, Prod.mk.injEq] at he
      obtain ⟨_, rfl⟩ := he; trivial
    · rename_i hx
      rw [hx] at hl
      split at he
      case h_2 => cases he
      rename_i hB
      split at he
      case isFalse => cases he
      simp only [Option.some.injEq, Prod.mk.injEq] at he
      obtain ⟨_, rfl⟩ := he
      simp only [hB] at hl
      simpa using hl
    · cases he
  · rename_i op _ x y _
    generalize evO X T x = va at he
    generalize evO X T y = vb at he
    unfold evBin at he
    cases op <;> simp only [] at hl <;> first | (cases hl; done) | skip
    all_goals
      split at he
      · dsimp only at he
        split at he
        case isFalse => cases he
        simp only [Option.some.injEq, Prod.mk.injEq] at he
        obtain ⟨_, rfl⟩ := he; trivial
      · dsimp only at he
        first | (cases he; done) | (simp only [Option.some.injEq, Prod.mk.injEq] at he; obtain ⟨_, rfl⟩ := he; trivial)
      · cases he
  · rename_i op _ x
    generalize evO X T x = va at he
    unfold evUn at he
    cases op <;> simp only [] at hl <;> first | (cases hl; done) | skip
    split at he
    · simp only [Option.some.injEq, Prod.mk.injEq] at he
      obtain ⟨_, rfl⟩ := he; trivial
    · cases he
    · cases he
  · cases hl
  · unfold evExtract at he
    split at he
    · split at he
      · simp only [Option.some.injEq, Prod.mk.injEq] at he
        obtain ⟨_, rfl⟩ := he; trivial
      · cases he
    · cases he
  · unfold evFunc at he
    split at he
    case h_2 => cases he
    split at he
    case isFalse => cases he
    split at he
    · simp only [Option.some.injEq, Prod.mk.injEq] at he
      obtain ⟨_, rfl⟩ := he; trivial
    · simp only [Option.map_eq_some_iff, Prod.mk.injEq] at he
      obtain ⟨_, _, _, rfl⟩ := he; trivial
  · unfold evBuild at he
    split at he
    · simp only [Option.bind_eq_some_iff, Option.map_eq_some_iff, Prod.mk.injEq] at he
      obtain ⟨_, _, _, _, _, rfl⟩ := he; trivial
    · simp only [Option.bind_eq_some_iff, Option.map_eq_some_iff, Prod.mk.injEq] at he
      obtain ⟨_, _, _, _, _, rfl⟩ := he; trivial
    · cases he
  · cases hl
  · split at he
    · simp only [Option.some.injEq, Prod.mk.injEq] at he
      obtain ⟨_, rfl⟩ := he; trivial
    · simp only [Option.some.injEq, Prod.mk.injEq] at he
      obtain ⟨_, rfl⟩ := he; trivial
    · cases he
  · split at he
    case h_2 => cases he
    unfold evLen at he
    repeat' (split at he)
    all_goals first | (cases he; done) | (simp only [Option.some.injEq, Prod.mk.injEq] at he; obtain ⟨_, rfl⟩ := he; trivial)
  · split at he
    case h_2 => cases he
    unfold evMm at he
    split at he
    · simp only [Option.some.injEq, Prod.mk.injEq] at he
      obtain ⟨_, rfl⟩ := he; trivial
    · cases he
  · split at he
    case h_2 => cases he
    unfold evMm at he
    split at he
    · simp only [Option.some.injEq, Prod.mk.injEq] at he
      obtain ⟨_, rfl⟩ := he; trivial
    · cases he
  · cases he

/-- one operation: the heap behind it, its value, whether its condition is to be shown, the condition -/
def ev1 (X : Cx) (σ : Hp) (T : Tm) (o : Oper) : Option (Hp × Option V × Bool × Prop) :=
  match ev X σ T o with
  | some (r, φ) => some (σ, some r, loud X σ T o, φ)
  | none =>
    match o.op with
    | .buildSlice t n ps => (evRow X t n (ps.toList.map fun p => (p.1, evO X T p.2))).map fun r => (σ, some r, false, True)
    | .box e x =>
      match evO X T x with
      | some v => (cellsV v).map fun cs => (σ ++ [some (.lit 0 e cs)], some (.cell (.op σ.length 0 cs.length 0 0)), false, True)
      | none => none
    | .alloc e => (X.ty e).map fun i => (σ ++ [some (.lit 0 e (i.zero.map .c))], some (.cell (.op σ.length 0 (i.zero.map A.c).length 0 0)), false, True)
    | .store t p x =>
      match X.ty t, evO X T p, evO X T x with
      | some i, some (.cell (.op b ver sz 0 j)), some v =>
        match σ[b]?, cellsV v with
        | some (some (.lit ver' e cells)), some cs =>
          if sz = cells.length ∧ cs.length = i.size ∧ j + cs.length ≤ cells.length then some (σ.set b (some (.lit ver' e (putRow cells j cs))), none, !(Nat.beq ver ver'), ver = ver') else none
        | _, _ => none
      | _, _, _ => none
    | .makeSlice t l c =>
      match X.ty t, evO X T l, evO X T c with
      | some ⟨.slice e, _, _, _⟩, some (.cell (.c (.int _ n))), some (.cell (.c (.int _ n'))) =>
        match X.ty e with
        | some i => some (σ ++ [some (.rows 0 e i.size n.toNat fun _ j => i.zero.getD j .jk)], some (.cell (.sl σ.length 0 n.toNat)), true, n = n' ∧ 0 ≤ n ∧ n * i.bytes ≤ 140737488355328 ∧ n ≤ 140737488355328)
        | none => none
      | _, _, _ => none
    | .call ⟨.builtin .append, args, ts⟩ =>
      match args.toList, ts.toList with
      | [s, x], [t, t'] =>
        if t = t' then
          match X.ty t with
          | some ⟨.slice e, _, _, _⟩ =>
            match X.ty e, evO X T s, evO X T x with
            | some i, some (.cell (.c .nsl)), some (.cell (.c (.sl k sz row))) =>
              if 0 < i.size ∧ sz = i.size then some (σ ++ [some (.rows 0 e i.size k row)], some (.cell (.sl σ.length 0 k)), true, k * i.bytes ≤ 140737488355328) else none
            | some i, some (.cell (.sl b ver _)), some (.cell (.c (.sl k sz row2))) =>
              match σ[b]? with
              | some (some (.rows ver' e' sz' n row)) =>
                if 0 < i.size ∧ sz = i.size ∧ sz' = i.size ∧ e' = e ∧ ver + 1 ≠ 1000 then
                  some (σ.set b (some (.rows (ver + 1) e i.size (n + k) fun a j => if a < n then row a j else row2 (a - n) j)), some (.cell (.sl b (ver + 1) (n + k))), true, ver = ver' ∧ (n + k) * i.bytes ≤ 140737488355328 ∧ n + k ≤ 140737488355328)
                else none
              | _ => none
            | _, _, _ => none
          | _ => none
        else none
      | _, _ => none
    | _ => (evEq X T o).map fun r => (σ, some r, false, True)

theorem ev1_ok {ld : Bool} {r : Option V} {σ' : Hp} (he : ev1 X σ T o = some (σ', r, ld, φ)) (hφ : ld = true → φ) : Eff X o σ T r σ' := by
  unfold ev1 at he
  split at he
  · rename_i r' φ' h
    simp only [Option.some.injEq, Prod.mk.injEq] at he
    obtain ⟨rfl, rfl, rfl, rfl⟩ := he
    refine (ev_ok h ?_).eff
    cases hl : loud X σ T o with
    | true => exact hφ hl
    | false => exact loud_ok h hl
  · split at he
    · simp only [Option.map_eq_some_iff, Prod.mk.injEq] at he
      obtain ⟨r', h, rfl, rfl, -, -⟩ := he
      exact (ok_row ‹_› h).eff
    · split at he
      case h_2 => cases he
      simp only [Option.map_eq_some_iff, Prod.mk.injEq] at he
      obtain ⟨cs, h, rfl, rfl, -, -⟩ := he
      exact ok_box ‹_› ‹_› h
    · simp only [Option.map_eq_some_iff, Prod.mk.injEq] at he
      obtain ⟨i, h, rfl, rfl, -, -⟩ := he
      exact ok_alloc ‹_› h
    · split at he
      case h_2 => cases he
      split at he
      case h_2 => cases he
      split at he
      case isFalse => cases he
      rename_i hc
      simp only [Option.some.injEq, Prod.mk.injEq] at he
      obtain ⟨rfl, rfl, hld, rfl⟩ := he
      refine ok_store ‹_› ‹_› ‹_› ‹_› ‹_› ‹_› hc.1 ?_ hc.2.1 hc.2.2
      rename_i ver _ _ _ _ _ _ _ _ _ ver' _ _ _ _ _ _
      cases ld with
      | true => exact hφ rfl
      | false => simpa using hld
    · split at he
      case h_2 => cases he
      split at he
      case h_2 => cases he
      rename_i ht _ _ _ _ hi
      simp only [Option.some.injEq, Prod.mk.injEq] at he
      obtain ⟨rfl, rfl, hld, rfl⟩ := he
      obtain ⟨rfl, h1, h2, h3⟩ := hφ hld.symm
      exact ok_make ‹_› ‹_› rfl hi ‹_› ‹_› h1 h2 h3
    · split at he
      case h_2 => cases he
      split at he
      case isFalse => cases he
      rename_i htt
      subst htt
      split at he
      case h_2 => cases he
      split at he
      · split at he
        case isFalse => cases he
        rename_i hc
        simp only [Option.some.injEq, Prod.mk.injEq] at he
        obtain ⟨rfl, rfl, hld, rfl⟩ := he
        obtain ⟨hc1, rfl⟩ := hc
        exact ok_append_nil ‹_› ‹_› ‹_› ‹_› rfl ‹_› hc1 ‹_› ‹_› (hφ hld.symm)
      · split at he
        case h_2 => cases he
        split at he
        case isFalse => cases he
        rename_i hc
        simp only [Option.some.injEq, Prod.mk.injEq] at he
        obtain ⟨rfl, rfl, hld, rfl⟩ := he
        obtain ⟨hc1, rfl, rfl, rfl, hc5⟩ := hc
        obtain ⟨rfl, h1, h2⟩ := hφ hld.symm
        exact ok_append ‹_› ‹_› ‹_› ‹_› rfl ‹_› hc1 ‹_› ‹_› rfl hc5 ‹_› h1 h2
      · cases he
    · simp only [Option.map_eq_some_iff, Prod.mk.injEq] at he
      obtain ⟨r', h, rfl, rfl, -, -⟩ := he
      exact (ok_eq h).eff
end

def exs (X : Cx) (N : Nat) (ops : Array Oper) : Nat → Nat → Hp → Tm → Option (Hp × Tm × Prop)
  | 0, _, σ, T => some (σ, T, True)
  | n + 1, k, σ, T =>
    match ops[k]? with
    | none => none
    | some o =>
      match wantedA ops T o with
      | none => none
      | some false => if fitD N o.dst then exs X N ops n (k + 1) σ (put T o.dst skV) else none
      | some true =>
        if fitD N o.dst then
          match ev1 X σ T o with
          | none => none
          | some (σ', r, ld, φ) =>
            match exs X N ops n (k + 1) σ' (putO T o.dst r) with
            | none => none
            | some (σ2, T2, Φ) => some (σ2, T2, bif ld then φ ∧ Φ else Φ)
        else none

theorem WO_exs {X : Cx} {N : Nat} {ops : Array Oper} {Q : Exit → Hp → Tm → Prop} : ∀ (n : Nat) {k : Nat} {σ σ' : Hp} {T T' : Tm} {Φ : Prop}, exs X N ops n k σ T = some (σ', T', Φ) → Φ → WO X N ops (k + n) σ' T' Q → WO X N ops k σ T Q
  | 0, k, σ, σ', T, T', Φ, h, _, hw => by
    simp only [exs, Option.some.injEq, Prod.mk.injEq] at h
    obtain ⟨rfl, rfl, -⟩ := h
    exact hw
  | n + 1, k, σ, σ', T, T', Φ, h, hΦ, hw => by
    have e : k + (n + 1) = k + 1 + n := by omega
    rw [e] at hw
    simp only [exs] at h
    split at h
    case h_1 => cases h
    rename_i o hk
    split at h
    · cases h
    · split at h
      case isFalse => cases h
      exact WO_skip hk ‹_› ‹_› (WO_exs n h hΦ hw)
    · split at h
      case isFalse => cases h
      split at h
      case h_1 => cases h
      rename_i σ1 r ld φ h1
      split at h
      case h_1 => cases h
      rename_i σ2 T2 Φ2 h2
      simp only [Option.some.injEq, Prod.mk.injEq] at h
      obtain ⟨rfl, rfl, rfl⟩ := h
      cases ld with
      | true => exact WO_eff hk ‹_› ‹_› (ev1_ok h1 fun _ => hΦ.1) (WO_exs n h2 hΦ.2 hw)
      | false => exact WO_eff hk ‹_› ‹_› (ev1_ok h1 (by simp)) (WO_exs n h2 hΦ hw)

end Go.Av

namespace Go.Av
open Go

def prs (o : Oper) : List Nat := (o.after.toList.filter (Region.binds .any ·)).map (·.on)

inductive Reach (ops : Array Oper) : Nat → Nat → Prop
  | one {k i : Nat} {o : Oper} : ops[k]? = some o → i ∈ prs o → Reach ops k i
  | step {k e i : Nat} {o : Oper} : ops[k]? = some o → e ∈ prs o → Reach ops e i → Reach ops k i

def bfs1 (acc : List Nat) (o : Oper) : Nat := (prs o).foldl (fun s e => s ||| (2 ^ e ||| acc.getD e 0)) 0
def bfs (l : List Oper) : List Nat := l.foldl (fun acc o => acc ++ [bfs1 acc o]) []

theorem bfs1_bit (acc : List Nat) (i : Nat) : ∀ (l : List Nat) (s : Nat), (l.foldl (fun s e => s ||| (2 ^ e ||| acc.getD e 0)) s).testBit i = true → s.testBit i = true ∨ ∃ e ∈ l, i = e ∨ (acc.getD e 0).testBit i = true
  | [], s, h => .inl h
  | e :: l, s, h => by
    rcases bfs1_bit acc i l _ h with h1 | ⟨e', he, h1⟩
    · simp only [Nat.testBit_or, Bool.or_eq_true] at h1
      rcases h1 with h1 | h1 | h1
      · exact .inl h1
      · refine .inr ⟨e, by simp, .inl ?_⟩
        rw [Nat.testBit_two_pow] at h1
        exact (of_decide_eq_true h1).symm
      · exact .inr ⟨e, by simp, .inr h1⟩
    · exact .inr ⟨e', by simp [he], h1⟩

theorem bfs_len (l : List Oper) : (bfs l).length = l.length := by
  have : ∀ (l : List Oper) (acc : List Nat), (l.foldl (fun acc o => acc ++ [bfs1 acc o]) acc).length = acc.length + l.length := by
    intro l
    induction l with
    | nil => intro acc; simp
    | cons o l ih => intro acc; simp only [List.foldl_cons, ih]; simp; omega
  rw [bfs, this l []]; simp

theorem bfs_snoc (l : List Oper) (o : Oper) : bfs (l ++ [o]) = bfs l ++ [bfs1 (bfs l) o] := by
  simp [bfs, List.foldl_append]

theorem bfs_ok (ops : Array Oper) : ∀ (n k i : Nat), ((bfs (ops.toList.take n)).getD k 0).testBit i = true → Reach ops k i := by
  intro n
  induction n with
  | zero => intro k i h; simp [bfs] at h
  | succ n ih =>
    intro k i h
    by_cases hn : n < ops.toList.length
    · have hn' : ops[n]? = some ops.toList[n] := by
        rw [← Array.getElem?_toList]; exact List.getElem?_eq_getElem hn
      rw [List.take_succ_eq_append_getElem hn, bfs_snoc] at h
      have hl : (bfs (ops.toList.take n)).length = n := by rw [bfs_len, List.length_take]; omega
      rcases Nat.lt_trichotomy k n with h1 | h1 | h1
      · rw [List.getD_eq_getElem?_getD, List.getElem?_append_left (by omega), ← List.getD_eq_getElem?_getD] at h
        exact ih k i h
      · subst h1
        rw [List.getD_eq_getElem?_getD, List.getElem?_append_right (by omega), hl] at h
        simp only [Nat.sub_self, List.getElem?_cons_zero, Option.getD_some] at h
        rcases bfs1_bit _ i _ _ h with h2 | ⟨e, he, h2⟩
        · simp at h2
        · rcases h2 with rfl | h2
          · exact .one hn' he
          · exact .step hn' he (ih e i h2)
      · rw [List.getD_eq_getElem?_getD, List.getElem?_eq_none (by simp [hl]; omega)] at h
        simp at h
    · rw [List.take_of_length_le (by omega)] at h
      rw [← List.take_of_length_le (l := ops.toList) (i := n) (by omega)] at h
      exact ih k i h

def okDraw (ops : Array Oper) (s : Nat) : Bool :=
  let B := bfs ops.toList
  decide (s ≤ ops.size) &&
  (List.range ops.size).all (fun k => match ops[k]? with | some o => (prs o).all (fun e => decide (e < k)) | none => false) &&
  (List.range ops.size).all (fun k => decide (k < s) || (List.range k).all fun i => (B.getD k 0).testBit i) &&
  (List.range s).all (fun k => match (ops[k]?).bind (·.dst) with | none => true | some d => (List.range k).all fun i => (ops[i]?).bind (·.dst) != some d) &&
  (List.range s).all (fun j => match ops[j]? with
    | some o => (o.looksAt ops).all fun t => (List.range s).all fun k => k == j || (ops[k]?).bind (·.dst) != some t || (if k < j then (B.getD j 0).testBit k else (B.getD k 0).testBit j)
    | none => false)

structure DrawOK (ops : Array Oper) (s : Nat) : Prop where
  le : s ≤ ops.size
  back : ∀ k o, ops[k]? = some o → ∀ e ∈ prs o, e < k
  last : ∀ k, s ≤ k → k < ops.size → ∀ i, i < k → Reach ops k i
  dist : ∀ k i d, k < s → i < k → (ops[k]?).bind (·.dst) = some d → (ops[i]?).bind (·.dst) ≠ some d
  look : ∀ j o t k, j < s → ops[j]? = some o → t ∈ o.looksAt ops → k < s → k ≠ j → (ops[k]?).bind (·.dst) = some t → (k < j → Reach ops j k) ∧ (j < k → Reach ops k j)

theorem okDraw_ok {ops : Array Oper} {s : Nat} (h : okDraw ops s = true) : DrawOK ops s := by
  simp only [okDraw, Bool.and_eq_true, List.all_eq_true, List.mem_range, decide_eq_true_eq] at h
  obtain ⟨⟨⟨⟨h1, h2⟩, h3⟩, h4⟩, h5⟩ := h
  have hB : ∀ k i, ((bfs ops.toList).getD k 0).testBit i = true → Reach ops k i := by
    intro k i hb
    refine bfs_ok ops ops.toList.length k i ?_
    rw [List.take_length]; exact hb
  refine ⟨h1, fun k o hk e he => ?_, fun k hs hk i hi => ?_, fun k i d hk hi hd => ?_, fun j o t k hj ho ht hk hkj hd => ?_⟩
  · have := h2 k (Array.getElem?_eq_some_iff.1 hk).1
    rw [hk] at this
    simpa using List.all_eq_true.1 this e he
  · have := h3 k hk
    simp only [Bool.or_eq_true, decide_eq_true_eq, List.all_eq_true, List.mem_range] at this
    exact hB k i ((this.resolve_left (by omega)) i hi)
  · have := h4 k hk
    rw [hd] at this
    have := List.all_eq_true.1 this i (by simpa using hi)
    simpa using this
  · have := h5 j hj
    rw [ho] at this
    have := List.all_eq_true.1 (List.all_eq_true.1 this t ht) k (by simpa using hk)
    simp only [Bool.or_eq_true, beq_iff_eq, bne_iff_ne, ne_eq] at this
    rcases this with (h6 | h6) | h6
    · exact (hkj h6).elim
    · exact (h6 hd).elim
    · refine ⟨fun hlt => ?_, fun hlt => ?_⟩
      · rw [if_pos hlt] at h6; exact hB j k h6
      · rw [if_neg (by omega)] at h6; exact hB k j h6

/-! ### results in the text's order, and what is known behind any part of them -/
def TL (ops : Array Oper) (res : Nat → Option V) (T : Tm) (L : Nat → Bool) : Nat → Tm
  | 0 => T
  | k + 1 => if L k then putO (TL ops res T L k) ((ops[k]?).bind (·.dst)) (res k) else TL ops res T L k

theorem get_putO (T : Tm) (d : Option Tmp) (r : Option V) (t : Nat) : get (putO T d r) t = if d = some t then r else get T t := by
  cases d with
  | none => cases r <;> simp [putO, put, drp]
  | some d =>
    cases r with
    | none => simp only [putO, drp, get_del, Option.some.injEq]
    | some r =>
      simp only [putO, put, get, Option.some.injEq]
      by_cases h : d = t
      · simp [h]
      · rw [if_neg h, if_neg h, get_del, if_neg h]

section
variable {X : Cx} {N : Nat} {ops : Array Oper} {σ : Hp} {s : Nat} {Q : Exit → Hp → Tm → Prop}

/-- what two parts of the results tell of a temporary -/
theorem get_TL {res : Nat → Option V} {T : Tm} {L L' : Nat → Bool} {t : Nat} : ∀ (n : Nat), (∀ k, k < n → (ops[k]?).bind (·.dst) = some t → L k = L' k) → get (TL ops res T L n) t = get (TL ops res T L' n) t
  | 0, _ => rfl
  | n + 1, h => by
    have ih := get_TL (res := res) (T := T) n fun k hk => h k (by omega)
    have h1 := h n (by omega)
    simp only [TL]
    by_cases hd : (ops[n]?).bind (·.dst) = some t
    · rw [h1 hd]
      cases L' n with
      | true => simp only [if_true, get_putO, hd]
      | false => simpa using ih
    · have e : ∀ (b : Bool) T', get (if b then putO T' ((ops[n]?).bind (·.dst)) (res n) else T') t = get T' t := by
        intro b T'
        cases b with
        | true => simp only [if_true, get_putO, if_neg hd]
        | false => rfl
      rw [e, e]; exact ih

def WQ (X : Cx) (N : Nat) (ops : Array Oper) (σ : Hp) (K : Tm → Prop) : Nat → Nat → Tm → Prop
  | 0, _, T => K T
  | n + 1, k, T => ∃ o, ops[k]? = some o ∧
      ((wantedA ops T o = some true ∧ fitD N o.dst = true ∧ ∃ r, Quiet X o σ T r ∧ WQ X N ops σ K n (k + 1) (put T o.dst r)) ∨
       (wantedA ops T o = some false ∧ fitD N o.dst = true ∧ WQ X N ops σ K n (k + 1) (put T o.dst skV)))

/-- what the walk in the text's order shows of each operation -/
def StepOK (X : Cx) (N : Nat) (ops : Array Oper) (σ : Hp) (T : Tm) (j : Nat) (res : Option V) : Prop :=
  ∃ o, ops[j]? = some o ∧ ((wantedA ops T o = some true ∧ fitD N o.dst = true ∧ ∃ r, res = some r ∧ Quiet X o σ T r) ∨ (wantedA ops T o = some false ∧ fitD N o.dst = true ∧ res = some skV))

theorem WQ_res {K : Tm → Prop} {T0 : Tm} : ∀ (n k : Nat) (res : Nat → Option V), WQ X N ops σ K n k (TL ops res T0 (fun _ => true) k) → (∀ j, j < k → StepOK X N ops σ (TL ops res T0 (fun _ => true) j) j (res j)) →
    ∃ res', (∀ j, j < k + n → StepOK X N ops σ (TL ops res' T0 (fun _ => true) j) j (res' j)) ∧ K (TL ops res' T0 (fun _ => true) (k + n))
  | 0, k, res, h, hs => ⟨res, hs, h⟩
  | n + 1, k, res, h, hs => by
    have keep : ∀ (res' : Nat → Option V) (q : Nat), (∀ j, j < q → res' j = res j) → TL ops res' T0 (fun _ => true) q = TL ops res T0 (fun _ => true) q := by
      intro res' q
      induction q with
      | zero => intro _; rfl
      | succ q ih => intro hq; simp only [TL, if_true]; rw [ih fun j hj => hq j (by omega), hq q (by omega)]
    have e : k + (n + 1) = k + 1 + n := by omega
    rw [e]
    obtain ⟨o, ho, h⟩ := h
    have step : ∀ r, WQ X N ops σ K n (k + 1) (putO (TL ops res T0 (fun _ => true) k) o.dst r) → StepOK X N ops σ (TL ops res T0 (fun _ => true) k) k r →
        ∃ res', (∀ j, j < k + 1 + n → StepOK X N ops σ (TL ops res' T0 (fun _ => true) j) j (res' j)) ∧ K (TL ops res' T0 (fun _ => true) (k + 1 + n)) := by
      intro r hw hst
      let res' : Nat → Option V := fun j => if j = k then r else res j
      have hres : ∀ j, j < k → res' j = res j := fun j hj => by simp only [res']; rw [if_neg (by omega)]
      have hk : res' k = r := by simp [res']
      refine WQ_res n (k + 1) res' ?_ fun j hj => ?_
      · simp only [TL, if_true]
        rw [keep res' k hres, hk, ho]
        exact hw
      · rcases Nat.lt_or_ge j k with h1 | h1
        · rw [keep res' j fun q hq => hres q (by omega), hres j h1]
          exact hs j h1
        · obtain rfl : j = k := by omega
          rw [keep res' j hres, hk]
          exact hst
    rcases h with ⟨h1, h2, r, h3, h4⟩ | ⟨h1, h2, h4⟩
    · exact step (some r) h4 ⟨o, ho, .inl ⟨h1, h2, r, rfl, h3⟩⟩
    · exact step (some skV) h4 ⟨o, ho, .inr ⟨h1, h2, rfl⟩⟩

def Closed (ops : Array Oper) (L : Array Bool) : Prop := ∀ k o, L.getD k false = true → ops[k]? = some o → ∀ e ∈ prs o, L.getD e false = true

theorem Reach.listed {L : Array Bool} (hc : Closed ops L) {k i : Nat} (h : Reach ops k i) : L.getD k false = true → L.getD i false = true := by
  induction h with
  | one hk hi => intro hl; exact hc _ _ hl hk _ hi
  | step hk he _ ih => intro hl; exact ih (hc _ _ hl hk _ he)

theorem mem_prs {o : Oper} {e : Nat} : e ∈ prs o ↔ ∃ d ∈ o.after, Region.binds .any d = true ∧ d.on = e := by
  simp only [prs, List.mem_map, List.mem_filter, Array.mem_toList_iff]
  constructor
  · rintro ⟨d, ⟨h1, h2⟩, h3⟩; exact ⟨d, h1, h2, h3⟩
  · rintro ⟨d, h1, h2, h3⟩; exact ⟨d, ⟨h1, h2⟩, h3⟩

theorem Reach.ready {L : Array Bool} (hc : Closed ops L) {k i : Nat} (h : Reach ops k i) (hr : k ∈ Region.ready .any ops L) : L.getD i false = true := by
  obtain ⟨_, o, ho, hall⟩ := mem_ready.1 hr
  have hp : ∀ e ∈ prs o, L.getD e false = true := by
    intro e he
    obtain ⟨d, h1, h2, rfl⟩ := mem_prs.1 he
    exact hall d h1 h2
  cases h with
  | one hk hi => rw [ho] at hk; obtain rfl := Option.some.inj hk; exact hp _ hi
  | step hk he hr' => rw [ho] at hk; obtain rfl := Option.some.inj hk; exact hr'.listed hc (hp _ he)

theorem closed_set {L : Array Bool} (hc : Closed ops L) {j : Nat} (hr : j ∈ Region.ready .any ops L) : Closed ops (L.setIfInBounds j true) := by
  intro k o hk ho e he
  by_cases hkj : j = k
  · subst hkj
    exact getD_set_true (Reach.ready hc (.one ho he) hr)
  · have : L.getD k false = true := by
      have := getD_set_ne (listed := L) (i := j) (j := k) false hkj
      rw [this] at hk; exact hk
    exact getD_set_true (hc k o this ho e he)

def unl (L : Array Bool) : Nat := (L.toList.filter (!·)).length

theorem unl_set {L : Array Bool} {j : Nat} (h : L.getD j true = false) : unl (L.setIfInBounds j true) + 1 = unl L := by
  unfold unl
  rw [Array.toList_setIfInBounds]
  have hlt : j < L.toList.length := by
    rcases Nat.lt_or_ge j L.size with h1 | h1
    · simpa using h1
    · simp [Array.getElem?_eq_none h1] at h
  have hv : L.toList[j] = false := by
    have : j < L.size := by simpa using hlt
    simp [this] at h
    simpa using h
  generalize L.toList = l at hlt hv
  clear h
  induction l generalizing j with
  | nil => simp at hlt
  | cons b l ih =>
    cases j with
    | zero => simp at hv; subst hv; simp
    | succ j =>
      simp at hlt hv
      have := ih (j := j) hlt hv
      cases b <;> simp_all

theorem get_TL_set {res : Nat → Option V} {T : Tm} {L L' : Nat → Bool} {j : Nat} {t : Nat} (hj : L j = false) (hj' : L' j = true) (hL : ∀ k, k ≠ j → L' k = L k) (hd : ∀ k i d, k < s → i < k → (ops[k]?).bind (·.dst) = some d → (ops[i]?).bind (·.dst) ≠ some d) (hjs : j < s) :
    ∀ (n : Nat), n ≤ s → get (TL ops res T L' n) t = if j < n ∧ (ops[j]?).bind (·.dst) = some t then res j else get (TL ops res T L n) t
  | 0, _ => by simp [TL]
  | n + 1, hn => by
    have ih := get_TL_set (res := res) (T := T) (t := t) hj hj' hL hd hjs n (by omega)
    by_cases hnj : n = j
    · subst hnj
      simp only [TL, hj, hj', if_true, Bool.false_eq_true, if_false, get_putO]
      rw [ih]
      by_cases h1 : (ops[n]?).bind (·.dst) = some t
      · rw [if_pos h1, if_pos ⟨by omega, h1⟩]
      · rw [if_neg h1, if_neg (by omega), if_neg (fun h => h1 h.2)]
    · simp only [TL, hL n hnj]
      cases L n with
      | false =>
        simp only [Bool.false_eq_true, if_false]
        rw [ih]
        by_cases h1 : (ops[j]?).bind (·.dst) = some t
        · by_cases h2 : j < n
          · rw [if_pos ⟨h2, h1⟩, if_pos ⟨by omega, h1⟩]
          · rw [if_neg (by omega), if_neg (by omega)]
        · rw [if_neg (fun h => h1 h.2), if_neg (fun h => h1 h.2)]
      | true =>
        simp only [if_true, get_putO]
        by_cases h1 : (ops[n]?).bind (·.dst) = some t
        · rw [if_pos h1, if_pos h1]
          rw [if_neg]
          rintro ⟨h2, h3⟩
          exact hd n j t (by omega) (by omega) h1 h3
        · rw [if_neg h1, if_neg h1, ih]
          by_cases h3 : (ops[j]?).bind (·.dst) = some t
          · by_cases h2 : j < n
            · rw [if_pos ⟨h2, h3⟩, if_pos ⟨by omega, h3⟩]
            · rw [if_neg (by omega), if_neg (by omega)]
          · rw [if_neg (fun h => h3 h.2), if_neg (fun h => h3 h.2)]

/-- behind the quiet ones: one after the other -/
theorem wpAny_of_list {post : Exit → Act → World → Prop} (hD : DrawOK ops s) : ∀ (fuel k : Nat) (L : Array Bool) (a : Act) (w : World), s ≤ k → L.size = ops.size → Closed ops L → (∀ i, L.getD i false = true ↔ i < k ∧ i < ops.size) → ops.size ≤ k + fuel →
    wpList X.P ops post (ops.toList.drop k) a w → wpAny X.P .any ops post fuel L a w
  | fuel, k, L, a, w, hs, hsz, hc, hL, hf, h => by
    have hun : ∀ j, j ∈ Region.ready .any ops L → j = k ∧ k < ops.size := by
      intro j hj
      obtain ⟨h1, o, ho, _⟩ := mem_ready.1 hj
      have hjs : j < ops.size := (Array.getElem?_eq_some_iff.1 ho).1
      have hnot : ¬ (L.getD j false = true) := by
        have hjL : j < L.size := by omega
        simp [hjL] at h1 ⊢
        exact h1
      have hjk : k ≤ j := by
        rcases Nat.lt_or_ge j k with h2 | h2
        · exact (hnot ((hL j).2 ⟨h2, hjs⟩)).elim
        · exact h2
      rcases Nat.lt_or_ge k j with h2 | h2
      · have := Reach.ready hc (hD.last j (by omega) hjs k h2) hj
        have := ((hL k).1 this).1
        omega
      · exact ⟨by omega, by omega⟩
    by_cases hk : k < ops.size
    · cases fuel with
      | zero => omega
      | succ fuel =>
        have hok : ops[k]? = some ops[k] := Array.getElem?_eq_getElem hk
        have hready : k ∈ Region.ready .any ops L := by
          rw [mem_ready]
          refine ⟨?_, _, hok, fun e he hb => ?_⟩
          · have hnot : ¬ (L.getD k false = true) := fun h => by have := ((hL k).1 h).1; omega
            have hkL : k < L.size := by omega
            simp [hkL] at hnot ⊢
            exact hnot
          · have := hD.back k _ hok e.on (mem_prs.2 ⟨e, he, hb, rfl⟩)
            exact (hL e.on).2 ⟨this, by omega⟩
        refine ⟨fun h0 => (by rw [h0] at hready; cases hready), fun j hj => ?_⟩
        obtain ⟨rfl, -⟩ := hun j hj
        rw [drop_cons hok] at h
        have next : ∀ a' w', wpList X.P ops post (ops.toList.drop (j + 1)) a' w' → wpAny X.P .any ops post fuel (L.setIfInBounds j true) a' w' := fun a' w' h' =>
          wpAny_of_list hD fuel (j + 1) _ a' w' (by omega) (by simp [hsz]) (closed_set hc hj) (fun i => by
            by_cases hij : j = i
            · subst hij
              have hjL : j < L.size := by omega
              simp [hjL, hk]
            · rw [getD_set_ne false hij, hL i]
              omega) (by omega) h'
        unfold wpOp
        simp only [hok]
        unfold wpList at h
        split
        · rename_i hw; rw [if_pos hw] at h; exact h.imp (Oper.wp_mono next) id
        · rename_i hw; rw [if_neg hw] at h; exact next _ _ h
    · have hnil : Region.ready .any ops L = [] := by
        cases hr : Region.ready .any ops L with
        | nil => rfl
        | cons x xs =>
          have := (hun x (by rw [hr]; simp)).2
          omega
      have hend : post .normal a w := by
        rw [List.drop_eq_nil_of_le (by simp; omega)] at h
        exact h
      cases fuel with
      | zero => exact ⟨hnil, hend⟩
      | succ fuel => exact ⟨fun _ => hend, fun i hi => by rw [hnil] at hi; cases hi⟩

theorem unl_ge {L : Array Bool} (h : ∀ k, s ≤ k → L.getD k false = false) : L.size - s ≤ unl L := by
  unfold unl
  rw [← List.take_append_drop s L.toList, List.filter_append, List.length_append]
  have : (L.toList.drop s).filter (!·) = L.toList.drop s := by
    rw [List.filter_eq_self]
    intro b hb
    obtain ⟨i, hi, rfl⟩ := List.mem_iff_getElem.1 hb
    simp only [List.getElem_drop]
    have h1 := h (s + i) (by omega)
    have hlt : s + i < L.size := by simp at hi; omega
    simp [hlt] at h1
    simp [h1]
  have h2 := Array.length_toList (xs := L)
  rw [this, List.length_drop]
  omega

theorem wp_of_runsQ {o : Oper} {r : V} {w : World} {G : GM} {m : OM} {a : Act} {K : Act → World → Prop} {Q' : Exit → Act → World → Prop} (h : RunsQ X w G m σ r ((execOp a.eval o).run X.P w)) (hk : ∀ v w', QPost X w G m σ r v w' → K (a.put o.dst v) w') : o.wp X.P a w K Q' := by
  unfold Oper.wp
  generalize (execOp a.eval o).run X.P w = q at h
  unfold RunsQ at h
  split at h
  · exact hk _ _ h
  · obtain ⟨rfl, h⟩ := h
    exact h.mono fun e w'' ⟨v, he, h2⟩ => by subst he; exact hk _ _ h2
  · exact h.elim

/-- an operation's value and guard hang on what they look at alone -/
theorem looks_same {o : Oper} {T T' : Tm} (hsame : ∀ t ∈ o.looksAt ops, get T t = get T' t) : (∀ x, x ∈ o.op.operands → evO X T x = evO X T' x) ∧ wantedA ops T o = wantedA ops T' o := by
  constructor
  · intro x hx
    cases x with
    | tmp t =>
      refine hsame t ?_
      unfold Oper.looksAt
      simp only [List.mem_append, List.mem_filterMap]
      exact .inl ⟨.tmp t, by simpa using hx, rfl⟩
    | _ => rfl
  · unfold wantedA
    cases hg : o.guard with
    | none => rfl
    | some p =>
      obtain ⟨j, b⟩ := p
      cases hj : ops[j]? with
      | none => simp only [hj]
      | some q =>
        cases hd : q.dst with
        | none => simp only [hj, hd]
        | some d =>
          have : get T d = get T' d := by
            refine hsame d ?_
            unfold Oper.looksAt
            simp [hg, hj, hd]
          simp only [hj, hd, this]

theorem W_draw {id : Nat} {T : Tm} (hm : X.P.follows .mixedOrders = true) (hs : okDraw ops s = true) (h : WQ X N ops σ (fun T' => WO X N ops s σ T' Q) s 0 T) : W X N (.region id ops true) σ T Q := by
  intro w G m a st t
  have hD := okDraw_ok hs
  obtain ⟨res, hst, hK⟩ := WQ_res (T0 := T) s 0 (fun _ => none) h (fun j hj => by omega)
  simp only [Nat.zero_add] at hst hK
  refine wp_region_any hm ?_
  have key : ∀ (fuel : Nat) (L : Array Bool) (w1 : World) (G1 : GM) (a1 : Act), Closed ops L → L.size = ops.size → (∀ k, s ≤ k → L.getD k false = false) → unl L ≤ fuel → St X w1 G1 m σ → TR N G1 m a1 (TL ops res T (fun k => L.getD k false) s) → Tran w G m σ w1 G1 m σ →
      wpAny X.P .any ops (PostW X N w G m σ Q) fuel L a1 w1 := by
    intro fuel
    induction fuel with
    | zero =>
      intro L w1 G1 a1 hc hsz hsuf hu s1 t1 tr1
      have hall : ∀ k, k < ops.size → L.getD k false = true := by
        intro k hk
        have hkL : k < L.size := by omega
        cases hv : L[k] with
        | true => simp [hkL, hv]
        | false =>
          have := unl_set (L := L) (j := k) (by simp [hkL, hv])
          omega
      have hss : s = ops.size := by
        rcases Nat.lt_or_ge s ops.size with h1 | h1
        · have := hall s h1
          rw [hsuf s (Nat.le_refl _)] at this; cases this
        · have := hD.le; omega
      refine wpAny_of_list hD 0 s L a1 w1 (Nat.le_refl _) hsz hc (fun i => ?_) (by omega) ?_
      · constructor
        · intro h1
          rcases Nat.lt_or_ge i s with h2 | h2
          · exact ⟨h2, by omega⟩
          · rw [hsuf i h2] at h1; cases h1
        · exact fun h1 => hall i h1.2
      · refine hK w G m σ w1 G1 m a1 s1 (t1.sub fun k x hx => ?_) tr1
        rw [← hx]
        exact get_TL s fun k hk _ => hall k (by omega)
    | succ fuel ih =>
      intro L w1 G1 a1 hc hsz hsuf hu s1 t1 tr1
      by_cases hall : ∀ k, k < s → L.getD k false = true
      · refine wpAny_of_list hD (fuel + 1) s L a1 w1 (Nat.le_refl _) hsz hc (fun i => ?_) ?_ ?_
        · constructor
          · intro h1
            rcases Nat.lt_or_ge i s with h2 | h2
            · exact ⟨h2, by have := hD.le; omega⟩
            · rw [hsuf i h2] at h1; cases h1
          · exact fun h1 => hall i h1.1
        · have h1 := unl_ge hsuf
          have := hD.le
          omega
        · refine hK w G m σ w1 G1 m a1 s1 (t1.sub fun k x hx => ?_) tr1
          rw [← hx]
          exact get_TL s fun k hk _ => hall k hk
      · have hsle := hD.le
        obtain ⟨k0, hk0, hk0l, hk0m⟩ : ∃ k0, k0 < s ∧ L.getD k0 false = false ∧ ∀ i, i < k0 → L.getD i false = true := by
          have : ∀ (n : Nat), (∀ i, i < n → L.getD i false = true) ∨ ∃ k0, k0 < n ∧ L.getD k0 false = false ∧ ∀ i, i < k0 → L.getD i false = true := by
            intro n
            induction n with
            | zero => exact .inl fun i hi => by omega
            | succ n ihn =>
              rcases ihn with h1 | ⟨k0, h1, h2, h3⟩
              · cases hv : L.getD n false with
                | true =>
                  refine .inl fun i hi => ?_
                  rcases Nat.lt_or_ge i n with h4 | h4
                  · exact h1 i h4
                  · obtain rfl : i = n := by omega
                    exact hv
                | false => exact .inr ⟨n, by omega, hv, h1⟩
              · exact .inr ⟨k0, by omega, h2, h3⟩
          rcases this s with h1 | h1
          · exact (hall h1).elim
          · exact h1
        have htrue : ∀ k, k < ops.size → L.getD k false = false → L.getD k true = false := by
          intro k hk h1
          have hkL : k < L.size := by omega
          simp [hkL] at h1 ⊢
          exact h1
        have hok0 : ops[k0]? = some ops[k0] := Array.getElem?_eq_getElem (by omega)
        have hready : k0 ∈ Region.ready .any ops L := by
          rw [mem_ready]
          refine ⟨htrue k0 (by omega) hk0l, _, hok0, fun e he hb => ?_⟩
          exact hk0m _ (hD.back k0 _ hok0 e.on (mem_prs.2 ⟨e, he, hb, rfl⟩))
        refine ⟨fun h0 => (by rw [h0] at hready; cases hready), fun j hj => ?_⟩
        obtain ⟨hjl, o, ho, _⟩ := mem_ready.1 hj
        have hjs : j < ops.size := (Array.getElem?_eq_some_iff.1 ho).1
        have hjf : L.getD j false = false := by
          have hjL : j < L.size := by omega
          simp [hjL] at hjl ⊢
          exact hjl
        have hjs' : j < s := by
          rcases Nat.lt_or_ge j s with h1 | h1
          · exact h1
          · have := Reach.ready hc (hD.last j h1 hjs k0 (by omega)) hj
            rw [hk0l] at this; cases this
        have hsame : ∀ t ∈ o.looksAt ops, get (TL ops res T (fun _ => true) j) t = get (TL ops res T (fun k => L.getD k false) s) t := by
          intro t ht
          have e1 : TL ops res T (fun _ => true) j = TL ops res T (fun k => decide (k < j)) s := by
            have : ∀ (n : Nat), TL ops res T (fun k => decide (k < j)) (j + n) = TL ops res T (fun _ => true) j := by
              intro n
              induction n with
              | zero =>
                have : ∀ (q : Nat), q ≤ j → TL ops res T (fun k => decide (k < j)) q = TL ops res T (fun _ => true) q := by
                  intro q
                  induction q with
                  | zero => intro _; rfl
                  | succ q ihq =>
                    intro hq
                    have h1 : decide (q < j) = true := decide_eq_true (by omega)
                    simp only [TL, h1, if_true, ihq (by omega)]
                exact this j (Nat.le_refl _)
              | succ n ihn =>
                have h1 : decide (j + n < j) = false := decide_eq_false (by omega)
                show TL ops res T (fun k => decide (k < j)) (j + n + 1) = _
                simp only [TL, h1, Bool.false_eq_true, if_false]
                exact ihn
            have h2 := this (s - j)
            rw [show j + (s - j) = s by omega] at h2
            exact h2.symm
          rw [e1]
          refine get_TL s fun k hk hd => ?_
          by_cases hkj : k = j
          · subst hkj
            simp [hjf]
          · have h1 := hD.look j o t k hjs' ho ht hk hkj hd
            show decide (k < j) = L.getD k false
            rcases Nat.lt_or_ge k j with h2 | h2
            · rw [Reach.ready hc (h1.1 h2) hj]; simp [h2]
            · have h3 : j < k := by omega
              cases hv : L.getD k false with
              | true => have := (h1.2 h3).listed hc hv; rw [hjf] at this; cases this
              | false => simp; omega
        obtain ⟨hop, hwant⟩ := looks_same (X := X) hsame
        have hset : ∀ k, k ≠ j → (L.setIfInBounds j true).getD k false = L.getD k false := fun k hk => getD_set_ne false (fun h => hk h.symm)
        have hjset : (L.setIfInBounds j true).getD j false = true := by
          have hjL : j < L.size := by omega
          simp [hjL]
        have next : ∀ v w' G' r, res j = r → fitD N o.dst = true ∨ r = none → (∀ x, r = some x → VRV G' m x v) → St X w' G' m σ → Tran w1 G1 m σ w' G' m σ → wpAny X.P .any ops (PostW X N w G m σ Q) fuel (L.setIfInBounds j true) (a1.put o.dst v) w' := by
          intro v w' G' r hr hfit hv s2 tr2
          have hu2 := unl_set hjl
          refine ih _ w' G' _ (closed_set hc hj) (by simp [hsz]) (fun k hk => by rw [hset k (by omega)]; exact hsuf k hk) (by omega) s2 ?_ (tr1.trans tr2)
          have t2 : TR N G' m (a1.put o.dst v) (putO (TL ops res T (fun k => L.getD k false) s) o.dst r) := by
            have t3 := t1.mono tr2.gext (fun _ _ _ h => h) (m' := m)
            rcases hfit with hf | rfl
            · exact t3.putO hf hv
            · exact t3.drp o.dst v
          refine t2.sub fun t x hx => ?_
          rw [← hx, get_putO]
          have := get_TL_set (ops := ops) (res := res) (T := T) (t := t) (L := fun k => L.getD k false) (L' := fun k => (L.setIfInBounds j true).getD k false) hjf hjset hset hD.dist hjs' s (Nat.le_refl _)
          rw [this, ho, Option.bind_some, hr]
          by_cases hd : o.dst = some t
          · rw [if_pos hd, if_pos ⟨hjs', hd⟩]
          · rw [if_neg hd, if_neg (fun h => hd h.2)]
        obtain ⟨o', ho', hcase⟩ := hst j hjs'
        rw [ho] at ho'
        obtain rfl := Option.some.inj ho'
        unfold wpOp
        simp only [ho]
        rcases hcase with ⟨h1, h2, r, h3, h4⟩ | ⟨h1, h2, h3⟩
        · rw [hwant] at h1
          rw [if_pos (wanted_ok t1 h1)]
          refine .inl (wp_of_runsQ ((h4.congr hop) w1 G1 m a1.eval s1 fun x _ v hv => evO_ok s1 t1 hv) ?_)
          intro v w' hq
          obtain ⟨G', s2, tr2, hv⟩ := hq
          exact next v w' G' (some r) h3 (.inl h2) (fun x hx => by obtain rfl := Option.some.inj hx; exact hv) s2 tr2
        · rw [hwant] at h1
          rw [if_neg (by rw [wanted_ok t1 h1]; simp)]
          exact next undef w1 G1 (some skV) h3 (.inl h2) (fun x hx => by obtain rfl := Option.some.inj hx; exact skV_ok) s1 (.refl _ _ _ _)
  have hrep : ∀ k, (Array.replicate ops.size false).getD k false = false := by
    intro k
    by_cases hk : k < ops.size <;> simp [hk]
  have hdrew : Tran w G m σ { w with drawn := w.drawn + 1 } G m σ := ⟨rfl, rfl, rfl, Nat.le_refl _, fun _ _ _ => rfl, fun _ _ h => h, fun _ _ h => .inl h, fun _ h => .inl h, fun _ B h hv => ⟨⟨B, h, hv⟩, rfl⟩⟩
  refine key ops.size _ _ G a (fun k o hk => by rw [hrep k] at hk; cases hk) (by simp) (fun k _ => hrep k) (by unfold unl; simp) ⟨st.fro, st.glob, st.own, st.sep, st.top, st.lim⟩ (t.sub fun k x hx => ?_) hdrew
  rw [← hx]
  have : ∀ (n : Nat), TL ops res T (fun k => (Array.replicate ops.size false).getD k false) n = T := by
    intro n
    induction n with
    | zero => rfl
    | succ n ihn => simp only [TL, hrep n, Bool.false_eq_true, if_false, ihn]
  rw [this]
end
end Go.Av

namespace Go.Av
open Go

section
variable {X : Cx} {N : Nat} {ops : Array Oper} {σ : Hp} {T : Tm} {Q : Exit → Hp → Tm → Prop} {K : Tm → Prop}

def evq (X : Cx) (σ : Hp) (T : Tm) (o : Oper) : Option (V × Bool × Prop) :=
  match ev X σ T o with
  | some (r, φ) => some (r, loud X σ T o, φ)
  | none =>
    match o.op with
    | .buildSlice t n ps => (evRow X t n (ps.toList.map fun p => (p.1, evO X T p.2))).map fun r => (r, false, True)
    | _ => (evEq X T o).map fun r => (r, false, True)

theorem evq_ok {o : Oper} {r : V} {ld : Bool} {φ : Prop} (he : evq X σ T o = some (r, ld, φ)) (hφ : ld = true → φ) : Quiet X o σ T r := by
  unfold evq at he
  split at he
  · rename_i r' φ' h
    simp only [Option.some.injEq, Prod.mk.injEq] at he
    obtain ⟨rfl, rfl, rfl⟩ := he
    refine ev_ok h ?_
    cases hl : loud X σ T o with
    | true => exact hφ hl
    | false => exact loud_ok h hl
  · split at he
    · simp only [Option.map_eq_some_iff, Prod.mk.injEq] at he
      obtain ⟨r', h, rfl, -, -⟩ := he
      exact ok_row ‹_› h
    · simp only [Option.map_eq_some_iff, Prod.mk.injEq] at he
      obtain ⟨r', h, rfl, -, -⟩ := he
      exact ok_eq h

def exq (X : Cx) (N : Nat) (ops : Array Oper) (σ : Hp) : Nat → Nat → Tm → Option (Tm × Prop)
  | 0, _, T => some (T, True)
  | n + 1, k, T =>
    match ops[k]? with
    | none => none
    | some o =>
      match wantedA ops T o with
      | none => none
      | some false => if fitD N o.dst then exq X N ops σ n (k + 1) (put T o.dst skV) else none
      | some true =>
        if fitD N o.dst then
          match evq X σ T o with
          | none => none
          | some (r, ld, φ) =>
            match exq X N ops σ n (k + 1) (put T o.dst r) with
            | none => none
            | some (T2, Φ) => some (T2, bif ld then φ ∧ Φ else Φ)
        else none

theorem WQ_exq {n' : Nat} : ∀ (n : Nat) {k : Nat} {T T' : Tm} {Φ : Prop}, exq X N ops σ n k T = some (T', Φ) → Φ → WQ X N ops σ K n' (k + n) T' → WQ X N ops σ K (n' + n) k T
  | 0, k, T, T', Φ, h, _, hw => by
    simp only [exq, Option.some.injEq, Prod.mk.injEq] at h
    obtain ⟨rfl, -⟩ := h
    exact hw
  | n + 1, k, T, T', Φ, h, hΦ, hw => by
    have e : k + (n + 1) = k + 1 + n := by omega
    rw [e] at hw
    simp only [exq] at h
    split at h
    case h_1 => cases h
    rename_i o hk
    refine ⟨o, hk, ?_⟩
    split at h
    · cases h
    · split at h
      case isFalse => cases h
      exact .inr ⟨‹_›, ‹_›, WQ_exq n h hΦ hw⟩
    · split at h
      case isFalse => cases h
      split at h
      case h_1 => cases h
      rename_i r ld φ h1
      split at h
      case h_1 => cases h
      rename_i T2 Φ2 h2
      simp only [Option.some.injEq, Prod.mk.injEq] at h
      obtain ⟨rfl, rfl⟩ := h
      cases ld with
      | true => exact .inl ⟨‹_›, ‹_›, r, evq_ok h1 fun _ => hΦ.1, WQ_exq n h2 hΦ.2 hw⟩
      | false => exact .inl ⟨‹_›, ‹_›, r, evq_ok h1 (by simp), WQ_exq n h2 hΦ hw⟩

/-! ### calls -/
def isYes : Option Bool → Bool
  | some true => true
  | _ => false
theorem isYes_ok {x : Option Bool} (h : isYes x = true) : x = some true := by
  unfold isYes at h
  split at h
  · rfl
  · cases h

/-- at a call: the callee, the arguments with what it captured, the temporary -/
def atCall (X : Cx) (N : Nat) (ops : Array Oper) (k : Nat) (T : Tm) : Option (FuncId × List V × Option Tmp) :=
  match ops[k]? with
  | some o =>
    match o.op with
    | .call ⟨.value fo, args, _⟩ =>
      match evO X T fo, allSome (args.toList.map (evO X T)) with
      | some (.cell (.c (.fn f n cap))), some avs => if (fitD N o.dst && isYes (wantedA ops T o)) = true then some (f, avs ++ capsC n cap, o.dst) else none
      | _, _ => none
    | _ => none
  | none => none

structure CallAt (X : Cx) (N : Nat) (ops : Array Oper) (k : Nat) (T : Tm) (f : FuncId) (all : List V) (d : Option Tmp) : Prop where
  h : ∃ o fo args ts n cap avs, ops[k]? = some o ∧ o.op = .call ⟨.value fo, args, ts⟩ ∧ o.dst = d ∧ wantedA ops T o = some true ∧ fitD N o.dst = true ∧ evO X T fo = some (.cell (.c (.fn f n cap))) ∧ allSome (args.toList.map (evO X T)) = some avs ∧ all = avs ++ capsC n cap

theorem atCall_ok {k : Nat} {f : FuncId} {all : List V} {d : Option Tmp} (h : atCall X N ops k T = some (f, all, d)) : CallAt X N ops k T f all d := by
  unfold atCall at h
  split at h
  case h_2 => cases h
  rename_i o hk
  split at h
  case h_2 => cases h
  rename_i fo args ts ho
  split at h
  case h_2 => cases h
  rename_i f' n cap avs h1 h2
  split at h
  case isFalse => cases h
  rename_i hc
  simp only [Option.some.injEq, Prod.mk.injEq] at h
  obtain ⟨rfl, rfl, rfl⟩ := h
  rw [Bool.and_eq_true] at hc
  exact ⟨o, fo, args, ts, n, cap, avs, hk, ho, rfl, isYes_ok hc.2, hc.1, h1, h2, rfl⟩

theorem frozen_caps {n : Nat} {cap : Nat → C} {avs : List V} (h : (avs ++ capsC n cap).all frozenV = true) : avs.all frozenV = true := by
  rw [List.all_append, Bool.and_eq_true] at h
  exact h.1

theorem WO_call {k : Nat} {f : FuncId} {all : List V} {d : Option Tmp} {r : V} (h : atCall X N ops k T = some (f, all, d)) (hz : all.all frozenV = true) (hr : frozenV r = true) (hc : ∀ (as : Array Value) (w : World), (callFunc f as).run X.P w = .ok (.enter f as) w)
    (hp : Pure X f all r) (hw : WO X N ops (k + 1) σ (put T d r) Q) : WO X N ops k σ T Q := by
  obtain ⟨o, fo, args, ts, n, cap, avs, h1, h2, rfl, h3, h4, h5, h6, rfl⟩ := (atCall_ok h).h
  exact WO_eff h1 h3 h4 (ok_call h2 h5 h6 (frozen_caps hz) hr hc hp).eff hw

theorem WQ_call {n k : Nat} {f : FuncId} {all : List V} {d : Option Tmp} {r : V} (h : atCall X N ops k T = some (f, all, d)) (hz : all.all frozenV = true) (hr : frozenV r = true) (hc : ∀ (as : Array Value) (w : World), (callFunc f as).run X.P w = .ok (.enter f as) w)
    (hp : Pure X f all r) (hw : WQ X N ops σ K n (k + 1) (put T d r)) : WQ X N ops σ K (n + 1) k T := by
  obtain ⟨o, fo, args, ts, n, cap, avs, h1, h2, rfl, h3, h4, h5, h6, rfl⟩ := (atCall_ok h).h
  exact ⟨o, h1, .inl ⟨h3, h4, r, ok_call h2 h5 h6 (frozen_caps hz) hr hc hp, hw⟩⟩

theorem lend_caps {n : Nat} {cap : Nat → C} {avs : List V} (h : lendAll σ (avs ++ capsC n cap)) : lendAll σ avs ∧ (avs ++ capsC n cap).map (lendV σ) = avs.map (lendV σ) ++ capsC n cap := by
  refine ⟨?_, ?_⟩
  · induction avs with
    | nil => trivial
    | cons a l ih => exact ⟨h.1, ih h.2⟩
  · simp only [List.map_append, capsC, List.map_map, List.append_cancel_left_eq]
    rfl

theorem WO_lend {k : Nat} {f : FuncId} {all : List V} {d : Option Tmp} {r : V} (h : atCall X N ops k T = some (f, all, d)) (hz : lendAll σ all) (hr : scalarV r = true) (hc : ∀ (as : Array Value) (w : World), (callFunc f as).run X.P w = .ok (.enter f as) w)
    (hp : Pure X f (all.map (lendV σ)) r) (hw : WO X N ops (k + 1) σ (put T d r) Q) : WO X N ops k σ T Q := by
  obtain ⟨o, fo, args, ts, n, cap, avs, h1, h2, rfl, h3, h4, h5, h6, rfl⟩ := (atCall_ok h).h
  obtain ⟨h7, h8⟩ := lend_caps hz
  rw [h8] at hp
  exact WO_eff h1 h3 h4 (ok_call_lend h2 h5 h6 h7 hr hc hp).eff hw

theorem WQ_lend {n k : Nat} {f : FuncId} {all : List V} {d : Option Tmp} {r : V} (h : atCall X N ops k T = some (f, all, d)) (hz : lendAll σ all) (hr : scalarV r = true) (hc : ∀ (as : Array Value) (w : World), (callFunc f as).run X.P w = .ok (.enter f as) w)
    (hp : Pure X f (all.map (lendV σ)) r) (hw : WQ X N ops σ K n (k + 1) (put T d r)) : WQ X N ops σ K (n + 1) k T := by
  obtain ⟨o, fo, args, ts, n, cap, avs, h1, h2, rfl, h3, h4, h5, h6, rfl⟩ := (atCall_ok h).h
  obtain ⟨h7, h8⟩ := lend_caps hz
  rw [h8] at hp
  exact ⟨o, h1, .inl ⟨h3, h4, r, ok_call_lend h2 h5 h6 h7 hr hc hp, hw⟩⟩

/-! ### what is let go -/
def keepT : List Nat → Tm → Tm
  | [], _ => []
  | k :: ks, T => match get T k with | some x => (k, x) :: keepT ks T | none => keepT ks T

theorem get_keepT {T : Tm} {k : Nat} {x : V} : ∀ {ks : List Nat}, get (keepT ks T) k = some x → get T k = some x
  | [], h => by cases h
  | q :: ks, h => by
    simp only [keepT] at h
    split at h
    · rename_i y hy
      simp only [get] at h
      split at h
      · rename_i hq; subst hq; rw [hy]; exact h
      · exact get_keepT h
    · exact get_keepT h

theorem W_keep {c : Code} {T' : Tm} (ks : List Nat) (h : keepT ks T = T') (hw : W X N c σ T' Q) : W X N c σ T Q :=
  W_sub (fun _ _ hx => get_keepT (ks := ks) (by rw [h]; exact hx)) hw

theorem WO_keep {k : Nat} {T' : Tm} (ks : List Nat) (h : keepT ks T = T') (hw : WO X N ops k σ T' Q) : WO X N ops k σ T Q := by
  subst h
  exact fun w0 G0 μ σ0 w G m a s t tr => hw w0 G0 μ σ0 w G m a s (t.sub fun _ _ hx => get_keepT hx) tr

/-- ids below n alone -/
def clA (n : Nat) : A → Bool
  | .c _ => true
  | .op b _ _ _ _ => decide (b < n)
  | .sl b _ _ => decide (b < n)
  | .clos _ q cap => (List.range q).all fun i => clA n (cap i)
def clV (n : Nat) : V → Bool
  | .cell a => clA n a
  | .agg cs => cs.all (clA n)
  | .tup q f => (List.range q).all fun i => clV n (f i)
def clT (n : Nat) (T : Tm) : Bool := T.all fun p => clV n p.2
def clH (n : Nat) (σ : Hp) : Bool := σ.all fun b => match b with | some (.lit _ _ cs) => cs.all (clA n) | _ => true

def cutM (n : Nat) (m : OM) : OM := fun i u => if i < n then m i u else none

theorem clA_ok {n : Nat} {G : GM} {m : OM} : ∀ (x : A) (v : Value), clA n x = true → VRA G m x v → VRA G (cutM n m) x v := by
  intro x
  induction x with
  | c x => intro v _ h; exact h
  | op b ver sz i j =>
    intro v hx h
    obtain ⟨g, k, cp, h1, h2, h3⟩ := h
    refine ⟨g, k, cp, ?_, h2, h3⟩
    unfold cutM; rw [if_pos (of_decide_eq_true hx)]; exact h1
  | sl b ver len =>
    intro v hx h
    refine ⟨?_, h.2⟩
    unfold cutM; rw [if_pos (of_decide_eq_true hx)]; exact h.1
  | clos f q cap ih =>
    intro v hx h
    obtain ⟨vs, rfl, h1, h2⟩ := h
    refine ⟨vs, rfl, h1, fun i hi => ?_⟩
    obtain ⟨u, hu, hr⟩ := h2 i hi
    exact ⟨u, hu, ih i u (List.all_eq_true.1 hx i (by simpa using hi)) hr⟩

theorem clV_ok {n : Nat} {G : GM} {m : OM} : ∀ (x : V) (v : Value), clV n x = true → VRV G m x v → VRV G (cutM n m) x v := by
  intro x
  induction x with
  | cell a => intro v hx h; exact clA_ok a v hx h
  | agg cs =>
    intro v hx h
    obtain ⟨vs, rfl, h1, h2⟩ := h
    refine ⟨vs, rfl, h1, fun i a ha => ?_⟩
    obtain ⟨u, hu, hr⟩ := h2 i a ha
    exact ⟨u, hu, clA_ok a u (List.all_eq_true.1 hx a (List.mem_of_getElem? ha)) hr⟩
  | tup q f ih =>
    intro v hx h
    obtain ⟨vs, rfl, h1, h2⟩ := h
    refine ⟨vs, rfl, h1, fun i hi => ?_⟩
    obtain ⟨u, hu, hr⟩ := h2 i hi
    exact ⟨u, hu, ih i u (List.all_eq_true.1 hx i (by simpa using hi)) hr⟩

theorem get_mem {T : Tm} {k : Nat} {x : V} : get T k = some x → (k, x) ∈ T := by
  induction T with
  | nil => intro h; cases h
  | cons p r ih =>
    obtain ⟨q, y⟩ := p
    intro h
    simp only [get] at h
    split at h
    · rename_i hq; subst hq; obtain rfl := Option.some.inj h; simp
    · simp [ih h]

/-! ### loops -/
theorem exists_least {p : Nat → Prop} (h : ∃ n, p n) : ∃ n, p n ∧ ∀ k, p k → n ≤ k := by
  obtain ⟨n, hn⟩ := h
  induction n using Nat.strongRecOn with
  | _ n ih =>
    rcases Classical.em (∃ k, k < n ∧ p k) with ⟨k, hk, hp⟩ | hno
    · exact ih k hk hp
    · exact ⟨n, hn, fun k hk => by
        rcases Nat.lt_or_ge k n with h | h
        · exact (hno ⟨k, h, hk⟩).elim
        · exact h⟩
open Classical in
noncomputable def lst (p : Nat → Prop) : Nat := if h : ∃ n, p n then (exists_least h).choose else 0
theorem lst_spec {p : Nat → Prop} (h : ∃ n, p n) : p (lst p) ∧ ∀ k, p k → lst p ≤ k := by
  unfold lst
  rw [dif_pos h]
  exact (exists_least h).choose_spec
end
end Go.Av

namespace Go.Av
open Go

def lendA (σ : Hp) : A → A
  | .sl b ver len => match σ[b]? with | some (some (.rows _ _ sz n row)) => .c (.sl n sz row) | _ => .sl b ver len
  | a => a
def lendAOK (σ : Hp) : A → Prop
  | .c _ => True
  | .sl b ver _ => match σ[b]? with | some (some (.rows v _ _ _ _)) => ver = v | _ => False
  | _ => False
def lendL (σ : Hp) : List A → Prop
  | [] => True
  | a :: r => lendAOK σ a ∧ lendL σ r
def lendR (σ : Hp) : V → V
  | .cell a => .cell (lendA σ a)
  | .agg cs => .agg (cs.map (lendA σ))
  | .tup n f => .tup n fun i => lendR σ (f i)
def lendROK (σ : Hp) : V → Prop
  | .cell a => lendAOK σ a
  | .agg cs => lendL σ cs
  | .tup n f => ∀ i, i < n → lendROK σ (f i)
def lendRs (σ : Hp) : List V → Prop
  | [] => True
  | [v] => lendROK σ v
  | v :: r => lendROK σ v ∧ lendRs σ r

section
variable {X : Cx} {N : Nat} {σ : Hp} {T : Tm} {Q : Exit → Hp → Tm → Prop} {w : World} {G : GM} {m : OM} {c : Code}

theorem lendA_ok (s : St X w G m σ) {a : A} {u : Value} (h : lendAOK σ a) (hv : VRA G m a u) : VRA (lent w G m σ) m0 (lendA σ a) u := by
  cases a with
  | c x => exact VRC.mono (lent_ext s) x u hv
  | op => exact h.elim
  | clos => exact h.elim
  | sl b ver len =>
    have h1 : lendOK σ (.cell (.sl b ver len)) := h
    have h2 := lendV_ok s h1 hv
    have h3 : lendV σ (.cell (.sl b ver len)) = .cell (lendA σ (.sl b ver len)) := by
      simp only [lendV, lendA]
      cases hb : σ[b]? with
      | none => rfl
      | some ob =>
        cases ob with
        | none => rfl
        | some B => cases B <;> rfl
    rw [h3] at h2
    exact h2

theorem lendL_mem : ∀ {cs : List A}, lendL σ cs → ∀ a ∈ cs, lendAOK σ a
  | [], _, a, h => by cases h
  | x :: cs, h, a, ha => by
    rcases List.mem_cons.1 ha with rfl | ha
    · exact h.1
    · exact lendL_mem h.2 a ha

theorem lendR_ok (s : St X w G m σ) : ∀ {v : V} {u : Value}, lendROK σ v → VRV G m v u → VRV (lent w G m σ) m0 (lendR σ v) u := by
  intro v
  induction v with
  | cell a => intro u h hv; exact lendA_ok s h hv
  | agg cs =>
    intro u h hv
    obtain ⟨vs, rfl, h1, h2⟩ := hv
    refine ⟨vs, rfl, by simpa using h1, fun i a ha => ?_⟩
    simp only [List.getElem?_map, Option.map_eq_some_iff] at ha
    obtain ⟨b, hb, rfl⟩ := ha
    obtain ⟨u, hu, hr⟩ := h2 i b hb
    exact ⟨u, hu, lendA_ok s (lendL_mem h b (List.mem_of_getElem? hb)) hr⟩
  | tup n f ih =>
    intro u h hv
    obtain ⟨vs, rfl, h1, h2⟩ := hv
    refine ⟨vs, rfl, h1, fun i hi => ?_⟩
    obtain ⟨u, hu, hr⟩ := h2 i hi
    exact ⟨u, hu, ih i (h i hi) hr⟩

theorem lendRs_mem : ∀ {vs : List V}, lendRs σ vs → ∀ v ∈ vs, lendROK σ v
  | [], _, v, h => by cases h
  | [x], h, v, hv => by simp at hv; subst hv; exact h
  | x :: y :: vs, h, v, hv => by
    rcases List.mem_cons.1 hv with rfl | hv
    · exact h.1
    · exact lendRs_mem (vs := y :: vs) h.2 v hv

/-! ### results -/
def evR (X : Cx) (σ : Hp) (T : Tm) : ResultVar → Option V
  | .tmp t => get T t
  | .cell a t => if loudLoad X σ (get T a) then none else (evLoad X σ t (get T a)).map (·.1)
def evRs (X : Cx) (σ : Hp) (T : Tm) (rs : List ResultVar) : Option (List V) := allSome (rs.map (evR X σ T))
def resV : List V → V
  | [v] => v
  | vs => .tup vs.length fun i => vs.getD i (.agg [])

/-- nil slices told as empty ones -/
inductive Up where
  | no
  | sl (sz : Nat) (row : Nat → Nat → C)
  | agg (l : List Up)
  | tup (l : List Up)
def upA : Up → A → A
  | .sl sz row, .c .nsl => .c (.sl 0 sz row)
  | _, a => a
def upL : List Up → List A → List A
  | u :: l, a :: cs => upA u a :: upL l cs
  | _, cs => cs
def upV : V → Up → V
  | .cell a, u => .cell (upA u a)
  | .agg cs, .agg l => .agg (upL l cs)
  | .agg cs, _ => .agg cs
  | .tup n f, .tup l => .tup n fun i => upV (f i) (l.getD i .no)
  | .tup n f, _ => .tup n f
def upVs : List Up → List V → List V
  | u :: l, v :: vs => upV v u :: upVs l vs
  | _, vs => vs
theorem upA_ok {u : Up} {a : A} {v : Value} (h : VRA G m a v) : VRA G m (upA u a) v := by
  unfold upA
  split
  · exact ⟨none, 0, h, by omega, by omega, .inl rfl⟩
  · exact h
theorem upL_ok : ∀ {l : List Up} {cs : List A} {vs : List Value}, VRL G m cs vs → VRL G m (upL l cs) vs
  | [], cs, vs, h => h
  | u :: l, [], vs, h => h
  | u :: l, a :: cs, vs, h => by
    obtain ⟨h1, h2⟩ := h
    match vs, h1 with
    | v :: vs, h1 =>
      have hr : VRL G m cs vs := ⟨by simpa using h1, fun i b hb => by simpa using h2 (i + 1) b (by simpa using hb)⟩
      obtain ⟨g1, g2⟩ := upL_ok (l := l) hr
      refine ⟨by simp [upL, g1], fun i b hb => ?_⟩
      cases i with
      | zero =>
        obtain ⟨x, hx, hy⟩ := h2 0 a rfl
        simp only [upL, List.getElem?_cons_zero, Option.some.injEq] at hb
        subst hb
        exact ⟨x, hx, upA_ok hy⟩
      | succ i => simpa using g2 i b (by simpa [upL] using hb)
theorem upV_ok : ∀ {x : V} {u : Up} {v : Value}, VRV G m x v → VRV G m (upV x u) v := by
  intro x
  induction x with
  | cell a => intro u v h; exact upA_ok (u := u) (show VRA G m a v from h)
  | agg cs =>
    intro u v h
    cases u with
    | agg l => obtain ⟨vs, rfl, h⟩ := h; exact ⟨vs, rfl, upL_ok h⟩
    | _ => exact h
  | tup n f ih =>
    intro u v h
    cases u with
    | tup l =>
      obtain ⟨vs, rfl, h1, h2⟩ := h
      exact ⟨vs, rfl, h1, fun i hi => let ⟨y, hy, hr⟩ := h2 i hi; ⟨y, hy, ih i hr⟩⟩
    | _ => exact h
theorem upVs_ok : ∀ {l : List Up} {xs : List V} {vs : List Value}, VRs G m xs vs → VRs G m (upVs l xs) vs
  | [], xs, vs, h => h
  | u :: l, [], vs, h => h
  | u :: l, x :: xs, vs, h => by
    obtain ⟨h1, h2⟩ := h
    match vs, h1 with
    | v :: vs, h1 =>
      have hr : VRs G m xs vs := ⟨by simpa using h1, fun i b hb => by simpa using h2 (i + 1) b (by simpa using hb)⟩
      obtain ⟨g1, g2⟩ := upVs_ok (l := l) hr
      refine ⟨by simp [upVs, g1], fun i b hb => ?_⟩
      cases i with
      | zero =>
        obtain ⟨y, hy, hz⟩ := h2 0 x rfl
        simp only [upVs, List.getElem?_cons_zero, Option.some.injEq] at hb
        subst hb
        exact ⟨y, hy, upV_ok hz⟩
      | succ i => simpa using g2 i b (by simpa [upVs] using hb)
theorem pure_up {f : FuncId} {xs ys : List V} {r : V} (l : List Up) (h : upVs l xs = ys) (hp : Pure X f ys r) : Pure X f xs r := by
  subst h
  intro w G vs s hv
  exact hp w G vs s (upVs_ok hv)

def QRet (X : Cx) (fn : Func) (r : V) (e : Exit) (σ : Hp) (T : Tm) : Prop :=
  (e = .ret ∨ e = .normal) ∧ ∃ vs, evRs X σ T fn.results.toList = some vs ∧ lendRs σ vs ∧ ∃ us, resV (upVs us (vs.map (lendR σ))) = r

theorem load_result {N : Nat} (s : St X w G m σ) {a : Act} (t : TR N G m a T) {p : Tmp} {ty : TypeId} {v : V} (h : evR X σ T (.cell p ty) = some v) : ∃ ad u, a.tmps.getD p undef = .pointer (some ad) ∧ (loadVar ty ad).run X.P w = .ok u w ∧ VRV G m v u := by
  simp only [evR] at h
  split at h
  · cases h
  rename_i hl
  simp only [Bool.not_eq_true] at hl
  cases he : evLoad X σ ty (get T p) with
  | none => rw [he] at h; cases h
  | some q =>
    obtain ⟨r, φ⟩ := q
    rw [he] at h
    obtain rfl : r = v := by simpa using h
    let o : Oper := { dst := none, op := .load ty (.tmp p), type := ty, pos := "", after := #[], guard := none }
    have hev : ev X σ T o = some (r, φ) := he
    have hφ : φ := loud_ok hev hl
    obtain ⟨u, hrun, hu⟩ := ok_load_run (o := o) rfl he hφ w G m a.eval s fun x _ v hv => evO_ok s t hv
    have hptr : ∃ ad, a.tmps.getD p undef = .pointer (some ad) := by
      unfold evLoad at he
      split at he
      · rename_i sz len row i j hx
        obtain ⟨_, blk, off, arr, hp, _⟩ := t.vals p _ hx
        exact ⟨_, hp⟩
      · rename_i k ver sz i j hx
        obtain ⟨_, g, n, cp, _, _, hp⟩ := t.vals p _ hx
        exact ⟨_, hp⟩
      · cases he
    obtain ⟨ad, had⟩ := hptr
    refine ⟨ad, u, had, ?_, hu⟩
    have e1 : (execOp a.eval o).run X.P w = ((loadVar ty ad).run X.P w).andThen fun v w => .ok (.value v) w := by
      have : a.eval (.tmp p) = .pointer (some ad) := had
      simp [execOp, o, this, Instr.loadAt, Instr.sureAddr]
    rw [e1] at hrun
    generalize (loadVar ty ad).run X.P w = q at hrun
    cases q with
    | ok v' w' => simp only [Result.andThen_ok, Result.ok.injEq, Next.value.injEq] at hrun; rw [hrun.1, hrun.2]
    | halt h w' => simp at hrun

theorem results_run (s : St X w G m σ) {a : Act} (t : TR N G m a T) : ∀ (rs : List ResultVar) (vs : List V), evRs X σ T rs = some vs →
    ∃ us : List Value, (rs.mapM (m := Sem) fun | .tmp t => pure (a.tmps.getD t undef) | .cell p t => do loadVar t (← asAddr (a.tmps.getD p undef))).run X.P w = .ok us w ∧ VRs G m vs us
  | [], vs, h => by
    obtain rfl := Option.some.inj h
    exact ⟨[], by simp, rfl, fun i x hx => by simp at hx⟩
  | r :: rs, vs, h => by
    unfold evRs at h
    simp only [List.map_cons] at h
    cases hr : evR X σ T r with
    | none => rw [hr] at h; cases h
    | some v =>
      rw [hr] at h
      simp only [allSome, Option.map_eq_some_iff] at h
      obtain ⟨l, hl, rfl⟩ := h
      obtain ⟨us, h1, h2, h3⟩ := results_run s t rs l hl
      have hone : ∃ u, ((match r with | .tmp t => pure (a.tmps.getD t undef) | .cell p t => do loadVar t (← asAddr (a.tmps.getD p undef)) : Sem Value)).run X.P w = .ok u w ∧ VRV G m v u := by
        cases r with
        | tmp q => exact ⟨_, rfl, (t.vals q v hr).2⟩
        | cell p ty =>
          obtain ⟨ad, u, g1, g2, g3⟩ := load_result s t hr
          refine ⟨u, ?_, g3⟩
          simp only [g1, asAddr, Sem.run_bind, Sem.run_pure, Result.andThen_ok, g2]
      obtain ⟨u, g1, g2⟩ := hone
      refine ⟨u :: us, ?_, by simp [h2], fun i x hx => ?_⟩
      · simp only [List.mapM_cons, Sem.run_bind]
        rw [g1]
        simp only [Result.andThen_ok]
        rw [h1]
        rfl
      · cases i with
        | zero => simp at hx; subst hx; exact ⟨u, rfl, g2⟩
        | succ i => simpa using h3 i x (by simpa using hx)

theorem resV_ok {G : GM} {vs : List V} {us : List Value} (h : VRs G m vs us) : VRV G m (resV vs) (if h : us.toArray.size = 1 then us.toArray[0] else .tuple us.toArray) := by
  obtain ⟨h1, h2⟩ := h
  match vs, us, h1 with
  | [], [], _ => exact ⟨#[], rfl, rfl, fun i hi => by simp at hi⟩
  | [v], [u], _ =>
    obtain ⟨u', hu, hr⟩ := h2 0 v rfl
    simp at hu
    subst hu
    exact hr
  | v :: v' :: vs, u :: u' :: us, h1 =>
    rw [dif_neg (by simp)]
    refine ⟨_, rfl, by simp; simpa using h1, fun i hi => ?_⟩
    obtain ⟨y, hy, hr⟩ := h2 i _ (List.getElem?_eq_getElem hi)
    refine ⟨y, by simpa using hy, ?_⟩
    show VRV G m ((v :: v' :: vs).getD i (.agg [])) y
    rw [List.getD_eq_getElem?_getD, List.getElem?_eq_getElem hi]
    exact hr

def argsT : Nat → List V → Tm
  | _, [] => []
  | i, v :: r => (i, v) :: argsT (i + 1) r

theorem get_argsT : ∀ {xs : List V} {i k : Nat} {x : V}, get (argsT i xs) k = some x → i ≤ k ∧ xs[k - i]? = some x
  | [], i, k, x, h => by cases h
  | v :: r, i, k, x, h => by
    simp only [argsT, get] at h
    split at h
    · rename_i hik; subst hik; exact ⟨Nat.le_refl _, by simpa using h⟩
    · rename_i hik
      obtain ⟨h1, h2⟩ := get_argsT h
      refine ⟨by omega, ?_⟩
      have : k - i = (k - (i + 1)) + 1 := by omega
      rw [this]; simpa using h2

theorem Pure_of_W {f : FuncId} {fn : Func} {args : List V} {r : V} (hf : X.P.funcs[f]? = some fn) (hb : fn.body = some c) (hN : fn.ntmps = N) (hl : args.length ≤ N) (h : W X N c [] (argsT 0 args) (QRet X fn r)) : Pure X f args r := by
  intro w G vs s hv
  refine calls_of_wp hf hb (wp_mono (h w G m0 _ s ⟨?_, rfl, fun k x hx => ?_⟩) ?_)
  · simp [hN, hv.1]; omega
  · obtain ⟨-, h1⟩ := get_argsT hx
    simp only [Nat.sub_zero] at h1
    have hk : k < args.length := (List.getElem?_eq_some_iff.1 h1).1
    obtain ⟨u, hu, hr⟩ := hv.2 k x h1
    refine ⟨by omega, ?_⟩
    have hk' : k < vs.length := by rw [hv.1]; exact hk
    have : (vs.toArray ++ Array.replicate (fn.ntmps - vs.toArray.size) undef).getD k undef = u := by
      rw [List.getElem?_eq_getElem hk'] at hu
      obtain rfl := Option.some.inj hu
      simp [Array.getD, hk', Array.getElem_append]
      omega
    rw [this]; exact hr
  · rintro e a' w' ⟨G2, m2, σ2, T2, s2, t2, tr2, he, xs, h1, h2, ou, rfl⟩
    have hres : ∃ u, (results fn a'.tmps).run X.P w' = .ok u w' ∧ VRV (lent w' G2 m2 σ2) m0 (resV (upVs ou (xs.map (lendR σ2)))) u := by
      obtain ⟨us, g1, g2, g3⟩ := results_run s2 t2 fn.results.toList xs h1
      refine ⟨_, ?_, resV_ok (us := us) (upVs_ok ⟨by simpa using g2, fun i x hx => ?_⟩)⟩
      · unfold results
        rw [Array.mapM_eq_mapM_toList]
        simp only [Sem.run_bind, Sem.run_map]
        erw [g1]
        rfl
      · simp only [List.getElem?_map, Option.map_eq_some_iff] at hx
        obtain ⟨y, hy, rfl⟩ := hx
        obtain ⟨u, hu, hr⟩ := g3 i y hy
        exact ⟨u, hu, lendR_ok s2 (lendRs_mem h2 y (List.mem_of_getElem? hy)) hr⟩
    obtain ⟨u, g1, g2⟩ := hres
    have hno : ∀ k, ¬ Img m0 [] k := fun k ⟨i, B, v, h, _⟩ => by simp at h
    have hgrow : Grow w G w' (lent w' G2 m2 σ2) := by
      refine ⟨tr2.os, tr2.tape, tr2.output, tr2.size, fun k hk => tr2.frame k hk (hno k), fun b arr h => lent_ext s2 b arr (tr2.gext b arr h), fun b arr h => ?_, (lent_st s2).fro⟩
      unfold lent at h
      split at h
      · rename_i hi
        exact .inr ((tr2.img b hi).resolve_left (hno b))
      · rcases tr2.gnew b arr h with h | h | h
        · exact .inl h
        · exact (hno b h).elim
        · exact .inr h
    rcases he with rfl | rfl
    · exact ⟨t2.defers, u, g1, u, _, rfl, hgrow, g2⟩
    · exact ⟨t2.defers, u, g1, u, _, rfl, hgrow, g2⟩
end
end Go.Av

namespace Go.Av
open Go

/-- Where the one holds, the other holds (of the same world). -/
def Ent (X : Cx) (N : Nat) (σ : Hp) (T : Tm) (σ' : Hp) (T' : Tm) : Prop :=
  ∀ w G m a, St X w G m σ → TR N G m a T → ∃ G' m', St X w G' m' σ' ∧ TR N G' m' a T' ∧ Tran w G m σ w G' m' σ'

section
variable {X : Cx} {N : Nat} {σ σ' σ2 : Hp} {T T' T2 : Tm} {Q : Exit → Hp → Tm → Prop} {c : Code} {ops : Array Oper}

theorem Ent.refl : Ent X N σ T σ T := fun w G m _ s t => ⟨G, m, s, t, .refl _ _ _ _⟩
theorem Ent.trans (h : Ent X N σ T σ' T') (k : Ent X N σ' T' σ2 T2) : Ent X N σ T σ2 T2 := by
  intro w G m a s t
  obtain ⟨G', m', s', t', r⟩ := h w G m a s t
  obtain ⟨G2, m2, s2, t2, r2⟩ := k w G' m' a s' t'
  exact ⟨G2, m2, s2, t2, r.trans r2⟩
theorem W_ent (h : Ent X N σ T σ' T') (hw : W X N c σ' T' Q) : W X N c σ T Q := by
  intro w G m a s t
  obtain ⟨G', m', s', t', r⟩ := h w G m a s t
  exact wp_mono (hw w G' m' a s' t') fun _ _ _ h => PostW.trans r h
theorem WO_ent {k : Nat} (h : Ent X N σ T σ' T') (hw : WO X N ops k σ' T' Q) : WO X N ops k σ T Q := by
  intro w0 G0 μ σ0 w G m a s t tr
  obtain ⟨G', m', s', t', r⟩ := h w G m a s t
  exact hw w0 G0 μ σ0 w G' m' a s' t' (tr.trans r)

theorem ent_keep (ks : List Nat) (h : keepT ks T = T') : Ent X N σ T σ T' := by
  subst h
  exact fun w G m _ s t => ⟨G, m, s, t.sub fun _ _ hx => get_keepT hx, .refl _ _ _ _⟩

theorem ent_take (n : Nat) (hσ : σ.take n = σ') (hcl : clT n T = true ∧ clH n σ' = true) : Ent X N σ T σ' T := by
  subst hσ
  intro w G m a s t
  rcases Nat.lt_or_ge n σ.length with hn | hn
  · obtain ⟨hcT, hcH⟩ := hcl
    have hlen : (σ.take n).length = n := by simp; omega
    have hcut : ∀ i, i < n → ∀ u, cutM n m i u = m i u := fun i hi u => by unfold cutM; rw [if_pos hi]
    have hget : ∀ (i : Nat) B, (σ.take n)[i]? = some (some B) → i < n ∧ σ[i]? = some (some B) := by
      intro i B h
      rw [List.getElem?_take] at h
      split at h
      · exact ⟨‹_›, h⟩
      · cases h
    refine ⟨G, cutM n m, ⟨s.fro, s.glob, fun i B hB => ?_, fun i j B B' v v' hij h1 h2 h3 h4 => ?_, fun i B u hB hu => ?_, fun i u hi => ?_⟩, ⟨t.size, t.defers, fun k x hx => ?_⟩, ⟨rfl, rfl, rfl, Nat.le_refl _, fun _ _ _ => rfl, fun _ _ h => h, fun _ _ h => .inl h, fun k h => ?_, fun i B hB hv => ?_⟩⟩
    · obtain ⟨hi, hB'⟩ := hget i B hB
      obtain ⟨v, h1, ⟨xs, h2, h3⟩, h4⟩ := s.own i B hB'
      refine ⟨v, by rw [hcut i hi]; exact h1, ⟨xs, h2, fun p hp q hq => ?_⟩, h4⟩
      obtain ⟨u, hu, hr⟩ := h3 p hp q hq
      refine ⟨u, hu, ?_⟩
      cases B with
      | rows => exact hr
      | lit ver e cs =>
        refine clA_ok _ _ ?_ hr
        have h5 := List.all_eq_true.1 hcH _ (List.mem_of_getElem? hB)
        show clA n (cs.getD q (.c .jk)) = true
        rw [List.getD_eq_getElem?_getD]
        cases hq' : cs[q]? with
        | none => rfl
        | some a => exact List.all_eq_true.1 h5 a (List.mem_of_getElem? hq')
    · obtain ⟨hi, h1'⟩ := hget i B h1
      obtain ⟨hj, h2'⟩ := hget j B' h2
      rw [hcut i hi] at h3
      rw [hcut j hj] at h4
      exact s.sep i j B B' v v' hij h1' h2' h3 h4
    · obtain ⟨hi, hB'⟩ := hget i B hB
      rw [hcut i hi]; exact s.top i B u hB' hu
    · unfold cutM; rw [if_neg (by omega)]
    · obtain ⟨h1, h2⟩ := t.vals k x hx
      exact ⟨h1, clV_ok _ _ (List.all_eq_true.1 hcT _ (get_mem hx)) h2⟩
    · obtain ⟨i, B, v, h1, h2, h3⟩ := h
      obtain ⟨hi, h1'⟩ := hget i B h1
      rw [hcut i hi] at h2
      exact .inl ⟨i, B, v, h1', h2, h3⟩
    · obtain ⟨hi, hB'⟩ := hget i B hB
      exact ⟨⟨B, hB', hv⟩, hcut i hi _⟩
  · rw [List.take_of_length_le hn]
    exact ⟨G, m, s, t, .refl _ _ _ _⟩

/-- a block's rows told by another function -/
theorem ent_rows {b ver e sz n : Nat} {row row' : Nat → Nat → C} (hB : σ[b]? = some (some (.rows ver e sz n row))) (hr : ∀ i, i < n → ∀ j, j < sz → row i j = row' i j) (hσ : σ.set b (some (.rows ver e sz n row')) = σ') : Ent X N σ T σ' T := by
  subst hσ
  intro w G m a s tr
  have hb : b < σ.length := (List.getElem?_eq_some_iff.1 hB).1
  have hget : ∀ (i : Nat) B, (σ.set b (some (.rows ver e sz n row')))[i]? = some (some B) → ∃ B', σ[i]? = some (some B') ∧ B'.ver = B.ver ∧ (B = B' ∨ (B = .rows ver e sz n row' ∧ B' = .rows ver e sz n row)) := by
    intro i B h1
    rw [List.getElem?_set] at h1
    split at h1
    · rename_i hbi
      subst hbi
      simp only [Option.some.injEq] at h1
      subst h1
      exact ⟨_, hB, rfl, .inr ⟨rfl, rfl⟩⟩
    · exact ⟨B, h1, rfl, .inl rfl⟩
  refine ⟨G, m, ⟨s.fro, s.glob, fun i B h1 => ?_, fun i j B B' v v' hij h1 h2 h3 h4 => ?_, fun i B u h1 hu => ?_, fun i u hi => s.lim i u (by simpa using hi)⟩, tr, ⟨rfl, rfl, rfl, Nat.le_refl _, fun _ _ _ => rfl, fun _ _ h => h, fun _ _ h => .inl h, fun k h => ?_, fun i B h hv => ?_⟩⟩
  · obtain ⟨B', h2, h3, h4⟩ := hget i B h1
    obtain ⟨v, h5, h6, h7⟩ := s.own i B' h2
    refine ⟨v, by rw [← h3]; exact h5, ?_, h7⟩
    rcases h4 with rfl | ⟨rfl, rfl⟩
    · exact h6
    · obtain ⟨xs, g1, g2⟩ := h6
      refine ⟨xs, g1, fun p hp q hq => ?_⟩
      obtain ⟨u, hu, hr'⟩ := g2 p hp q hq
      refine ⟨u, hu, ?_⟩
      show VRC G (row' p q) u
      rw [← hr p hp q hq]; exact hr'
  · obtain ⟨B1, g1, g2, -⟩ := hget i B h1
    obtain ⟨B2, k1, k2, -⟩ := hget j B' h2
    rw [← g2] at h3; rw [← k2] at h4
    exact s.sep i j B1 B2 v v' hij g1 k1 h3 h4
  · obtain ⟨B1, g1, g2, -⟩ := hget i B h1
    exact s.top i B1 u g1 (by rw [g2]; exact hu)
  · obtain ⟨i, B, v, h1, h2, h3⟩ := h
    obtain ⟨B', g1, g2, -⟩ := hget i B h1
    exact .inl ⟨i, B', v, g1, by rw [g2]; exact h2, h3⟩
  · obtain ⟨B', g1, g2, -⟩ := hget i B h
    exact ⟨⟨B', g1, by rw [g2]; exact hv⟩, rfl⟩

/-! ### every mention of a block -/
def mpA (f : A → A) : A → A
  | .clos g n cap => .clos g n fun i => ((List.range n).map fun i => mpA f (cap i)).getD i (.c .jk)
  | a => f a
def mpV (f : A → A) : V → V
  | .cell a => .cell (mpA f a)
  | .agg cs => .agg (cs.map (mpA f))
  | .tup n g => .tup n fun i => mpV f (g i)
def mpT (f : A → A) (T : Tm) : Tm := T.map fun p => (p.1, mpV f p.2)
def mpB (f : A → A) : Option Blk → Option Blk
  | some (.lit v e cs) => some (.lit v e (cs.map (mpA f)))
  | b => b

def noClos : A → Bool | .clos .. => false | _ => true
theorem mpA_ok {f : A → A} {G G' : GM} {m m' : OM} (hf : ∀ a u, noClos a = true → VRA G m a u → VRA G' m' (f a) u) : ∀ (a : A) (u : Value), VRA G m a u → VRA G' m' (mpA f a) u := by
  intro a
  induction a with
  | c x => intro u h; exact hf _ u rfl h
  | op => intro u h; exact hf _ u rfl h
  | sl => intro u h; exact hf _ u rfl h
  | clos g n cap ih =>
    intro u h
    obtain ⟨vs, rfl, h1, h2⟩ := h
    refine ⟨vs, rfl, h1, fun i hi => ?_⟩
    obtain ⟨u, hu, hr⟩ := h2 i hi
    refine ⟨u, hu, ?_⟩
    have e : ((List.range n).map fun i => mpA f (cap i)).getD i (.c .jk) = mpA f (cap i) := by
      rw [List.getD_eq_getElem?_getD, List.getElem?_map, List.getElem?_range hi]; rfl
    show VRA G' m' (((List.range n).map fun i => mpA f (cap i)).getD i (.c .jk)) u
    rw [e]
    exact ih i u hr
theorem mpV_ok {f : A → A} {G G' : GM} {m m' : OM} (hf : ∀ a u, noClos a = true → VRA G m a u → VRA G' m' (f a) u) : ∀ (x : V) (u : Value), VRV G m x u → VRV G' m' (mpV f x) u := by
  intro x
  induction x with
  | cell a => intro u h; exact mpA_ok hf a u h
  | agg cs =>
    intro u h
    obtain ⟨vs, rfl, h1, h2⟩ := h
    refine ⟨vs, rfl, by simpa using h1, fun i a ha => ?_⟩
    simp only [List.getElem?_map, Option.map_eq_some_iff] at ha
    obtain ⟨b, hb, rfl⟩ := ha
    obtain ⟨u, hu, hr⟩ := h2 i b hb
    exact ⟨u, hu, mpA_ok hf b u hr⟩
  | tup n g ih =>
    intro u h
    obtain ⟨vs, rfl, h1, h2⟩ := h
    refine ⟨vs, rfl, h1, fun i hi => ?_⟩
    obtain ⟨u, hu, hr⟩ := h2 i hi
    exact ⟨u, hu, ih i u hr⟩
theorem get_mpT {f : A → A} {k : Nat} {x : V} : ∀ {T : Tm}, get (mpT f T) k = some x → ∃ y, get T k = some y ∧ x = mpV f y
  | [], h => by cases h
  | (q, v) :: T, h => by
    simp only [mpT, List.map_cons, get] at h ⊢
    split at h
    · rename_i hq
      rw [if_pos hq]
      obtain rfl := Option.some.inj h
      exact ⟨v, rfl, rfl⟩
    · rename_i hq
      rw [if_neg hq]
      exact get_mpT h
theorem mpT_ok {f : A → A} {G G' : GM} {m m' : OM} {a : Act} (hf : ∀ a u, noClos a = true → VRA G m a u → VRA G' m' (f a) u) (t : TR N G m a T) : TR N G' m' a (mpT f T) := by
  refine ⟨t.size, t.defers, fun k x hx => ?_⟩
  obtain ⟨y, hy, rfl⟩ := get_mpT hx
  obtain ⟨h1, h2⟩ := t.vals k y hy
  exact ⟨h1, mpV_ok hf y _ h2⟩
theorem mpB_at {f : A → A} {w : World} {G G' : GM} {m m' : OM} {v : Value} {B B' : Blk} (hf : ∀ a u, noClos a = true → VRA G m a u → VRA G' m' (f a) u) (hc : ∀ x u, VRC G x u → VRC G' x u) (hB : mpB f (some B) = some B') (h : BlkAt w G m v B) : BlkAt w G' m' v B' := by
  obtain ⟨xs, h1, h2⟩ := h
  cases B with
  | rows ver e sz n row =>
    obtain rfl := Option.some.inj hB
    exact ⟨xs, h1, fun i hi j hj => let ⟨u, hu, hr⟩ := h2 i hi j hj; ⟨u, hu, hc _ _ hr⟩⟩
  | lit ver e cs =>
    obtain rfl := Option.some.inj hB
    refine ⟨xs, by simpa [Blk.sz, Blk.e, Blk.len] using h1, fun i hi j hj => ?_⟩
    have hj' : j < cs.length := by simpa [Blk.sz] using hj
    obtain ⟨u, hu, hr⟩ := h2 i hi j hj'
    refine ⟨u, by simpa [Blk.sz] using hu, ?_⟩
    have hr : VRA G m (cs.getD j (.c .jk)) u := hr
    show VRA G' m' ((cs.map (mpA f)).getD j (.c .jk)) u
    rw [List.getD_eq_getElem?_getD, List.getElem?_eq_getElem hj'] at hr
    rw [List.getD_eq_getElem?_getD, List.getElem?_map, List.getElem?_eq_getElem hj']
    exact mpA_ok hf _ u hr
theorem mpB_ver {f : A → A} {B B' : Blk} (hB : mpB f (some B) = some B') : B'.ver = B.ver := by
  cases B <;> (obtain rfl := Option.some.inj hB; rfl)
theorem mpB_some {f : A → A} {ob : Option Blk} {B' : Blk} (hB : mpB f ob = some B') : ∃ B, ob = some B := by
  cases ob with
  | none => cases hB
  | some B => exact ⟨B, rfl⟩

/-! #### versions anew -/
def zA (b v : Nat) : A → A
  | .op b' u sz i j => bif Nat.beq b' b then (bif Nat.beq u v then .op b 0 sz i j else .c .jk) else .op b' u sz i j
  | .sl b' u n => bif Nat.beq b' b then (bif Nat.beq u v then .sl b 0 n else .c .jk) else .sl b' u n
  | a => a
def Blk.at0 : Blk → Blk
  | .rows _ e sz n r => .rows 0 e sz n r
  | .lit _ e cs => .lit 0 e cs
def setV0 (b : Nat) (σ : Hp) : Hp := σ.modify b (Option.map Blk.at0)

theorem ent_ver0 (b : Nat) {B : Blk} (hB : σ[b]? = some (some B)) (hσ : setV0 b (σ.map (mpB (zA b B.ver))) = σ') (hT : mpT (zA b B.ver) T = T') : Ent X N σ T σ' T' := by
  subst hσ; subst hT
  intro w G m a s t
  have hb : b < σ.length := (List.getElem?_eq_some_iff.1 hB).1
  let m' : OM := fun i u => if i = b then (if u = 0 then m b B.ver else none) else m i u
  have hm0 : m' b 0 = m b B.ver := by simp [m']
  have hmo : ∀ i, i ≠ b → ∀ u, m' i u = m i u := fun i hi u => by simp [m', hi]
  have hf : ∀ a u, noClos a = true → VRA G m a u → VRA G m' (zA b B.ver a) u := by
    intro a u hn h
    cases a with
    | c x => exact h
    | clos => cases hn
    | op b' v sz i j =>
      simp only [zA]
      cases hb' : Nat.beq b' b with
      | false =>
        have hne : b' ≠ b := fun e => by subst e; simp at hb'
        obtain ⟨g, n, cp, h1, h2⟩ := h
        exact ⟨g, n, cp, by rw [hmo b' hne]; exact h1, h2⟩
      | true =>
        obtain rfl := Nat.eq_of_beq_eq_true hb'
        cases hv' : Nat.beq v B.ver with
        | false => exact h.one
        | true =>
          obtain rfl := Nat.eq_of_beq_eq_true hv'
          obtain ⟨g, n, cp, h1, h2⟩ := h
          exact ⟨g, n, cp, by rw [hm0]; exact h1, h2⟩
    | sl b' v n =>
      simp only [zA]
      cases hb' : Nat.beq b' b with
      | false =>
        have hne : b' ≠ b := fun e => by subst e; simp at hb'
        obtain ⟨h1, h2⟩ := h
        exact ⟨by rw [hmo b' hne]; exact h1, h2⟩
      | true =>
        obtain rfl := Nat.eq_of_beq_eq_true hb'
        cases hv' : Nat.beq v B.ver with
        | false => exact h.one
        | true =>
          obtain rfl := Nat.eq_of_beq_eq_true hv'
          obtain ⟨h1, h2⟩ := h
          exact ⟨by rw [hm0]; exact h1, h2⟩
  have hget : ∀ (i : Nat) B', (setV0 b (σ.map (mpB (zA b B.ver))))[i]? = some (some B') → ∃ B1 B2, σ[i]? = some (some B1) ∧ mpB (zA b B.ver) (some B1) = some B2 ∧ ((i = b ∧ B' = B2.at0 ∧ B1 = B) ∨ (i ≠ b ∧ B' = B2)) := by
    intro i B' h
    unfold setV0 at h
    rw [List.getElem?_modify, List.getElem?_map] at h
    cases h1 : σ[i]? with
    | none => rw [h1] at h; simp at h
    | some ob =>
      rw [h1] at h
      cases ob with
      | none => by_cases hbi : b = i <;> simp [hbi, mpB] at h
      | some B1 =>
        have h2 : ∃ B2, mpB (zA b B.ver) (some B1) = some B2 := by cases B1 <;> exact ⟨_, rfl⟩
        obtain ⟨B2, h2⟩ := h2
        refine ⟨B1, B2, rfl, h2, ?_⟩
        by_cases hbi : b = i
        · subst hbi
          simp [h2] at h
          rw [hB] at h1
          exact .inl ⟨rfl, h.symm, (Option.some.inj (Option.some.inj h1)).symm⟩
        · simp [hbi, h2] at h
          exact .inr ⟨fun e => hbi e.symm, h.symm⟩
  have hver : ∀ i B' B1 B2, σ[i]? = some (some B1) → mpB (zA b B.ver) (some B1) = some B2 → ((i = b ∧ B' = B2.at0 ∧ B1 = B) ∨ (i ≠ b ∧ B' = B2)) → m' i B'.ver = m i B1.ver := by
    intro i B' B1 B2 h1 h2 h3
    rcases h3 with ⟨rfl, rfl, rfl⟩ | ⟨h3, rfl⟩
    · have : B2.at0.ver = 0 := by cases B2 <;> rfl
      rw [this, hm0]
    · rw [hmo i h3, mpB_ver h2]
  have hat0 : ∀ {v : Value} {B2 : Blk}, BlkAt w G m' v B2 → BlkAt w G m' v B2.at0 := by
    intro v B2 h
    cases B2 <;> exact h
  refine ⟨G, m', ⟨s.fro, s.glob, fun i B' h => ?_, fun i j B1 B2 v v' hij h1 h2 h3 h4 => ?_, fun i B' u h hu => ?_, fun i u hi => ?_⟩, mpT_ok hf t, ⟨rfl, rfl, rfl, Nat.le_refl _, fun _ _ _ => rfl, fun _ _ h => h, fun _ _ h => .inl h, fun k h => ?_, fun i B' h hv => ?_⟩⟩
  · obtain ⟨B1, B2, h1, h2, h3⟩ := hget i B' h
    obtain ⟨v, h4, h5, h6⟩ := s.own i B1 h1
    refine ⟨v, by rw [hver i B' B1 B2 h1 h2 h3]; exact h4, ?_, h6⟩
    have h7 := mpB_at hf (fun _ _ h => h) h2 h5
    rcases h3 with ⟨rfl, rfl, rfl⟩ | ⟨h3, rfl⟩
    · exact hat0 h7
    · exact h7
  · obtain ⟨C1, C2, a1, a2, a3⟩ := hget i B1 h1
    obtain ⟨D1, D2, b1, b2, b3⟩ := hget j B2 h2
    rw [hver i B1 C1 C2 a1 a2 a3] at h3
    rw [hver j B2 D1 D2 b1 b2 b3] at h4
    exact s.sep i j C1 D1 v v' hij a1 b1 h3 h4
  · obtain ⟨B1, B2, h1, h2, h3⟩ := hget i B' h
    rcases h3 with ⟨rfl, rfl, rfl⟩ | ⟨h3, rfl⟩
    · have : B2.at0.ver = 0 := by cases B2 <;> rfl
      rw [this] at hu
      show (if _ then _ else _) = _
      rw [if_pos rfl, if_neg (by omega)]
    · rw [hmo i h3]
      exact s.top i B1 u h1 (by rw [← mpB_ver h2]; exact hu)
  · have hi' : σ.length ≤ i := by simpa [setV0] using hi
    rw [hmo i (by omega)]
    exact s.lim i u hi'
  · obtain ⟨i, B', v, h1, h2, h3⟩ := h
    obtain ⟨B1, B2, a1, a2, a3⟩ := hget i B' h1
    rw [hver i B' B1 B2 a1 a2 a3] at h2
    exact .inl ⟨i, B1, v, a1, h2, h3⟩
  · obtain ⟨B1, B2, a1, a2, a3⟩ := hget i B' h
    rcases a3 with ⟨rfl, rfl, rfl⟩ | ⟨a3, rfl⟩
    · have : B2.at0.ver = 0 := by cases B2 <;> rfl
      rw [this] at hv; cases hv
    · exact ⟨⟨B1, a1, by rw [← mpB_ver a2]; exact hv⟩, hmo i a3 _⟩
end
end Go.Av


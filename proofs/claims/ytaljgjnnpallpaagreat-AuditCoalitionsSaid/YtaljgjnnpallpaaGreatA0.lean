/- The abstract memory of the proofs: values whose addresses are names, the relation to the machine's memory, and what a load, a store and a new block do to it. -/
import Derived.CallsIn
import Derived.OrdersIn
import Derived.Below
import Derived.RangeFuncFrom
import Derived.RangeFuncLeaves
import Derived.Laws.Sem
import Derived.Laws.World
set_option linter.unusedVariables false
set_option linter.unusedSimpArgs false
namespace Go.Ab
open Go.RowKit

inductive AV where
  | unk
  | bool (b : Bool)
  | int (k : IntKind) (n : Int)
  | str (s : ByteArray)
  | nilPtr
  | ptr (b off ver : Nat)
  | nilSlice
  | slice (sz b off len ver : Nat) (cap : Option Nat)
  /-- a slice of cells that stay as they are; nn: it is known not to be nil -/
  | vals (sz : Nat) (xs : List AV) (nn : Bool)
  /-- the place of cells that stay as they are, from there on -/
  | cptr (xs : List AV)
  | func (fn : FuncId) (first captured : List AV)
  | nilFunc
  | iface (t : TypeId) (v : AV)
  | nilIface
  | agg (cells : List AV)
  | tuple (vs : List AV)
  /-- what a loop over a function hands to it -/
  | yld (l : Nat)
  deriving Inhabited

def AV.cells : AV → List AV
  | .agg cs => cs
  | v => [v]

/-- One cell's value, and known. -/
def AV.one : AV → Bool
  | .unk | .agg _ | .tuple _ => false
  | _ => true

/-- Where a version of a named block lies: the machine's block, the first cell, how many cells there are from there on. -/
structure Phi where
  m : Nat → Nat → Option (Nat × Nat × Nat)
  /-- Cells of the machine that stay as they are, and what they hold. -/
  K : Nat → Nat → Option Value
  /-- Not made: no block of that name yet, or one that is named ahead. -/
  Z : Nat → Bool
instance : CoeFun Phi fun _ => Nat → Nat → Option (Nat × Nat × Nat) := ⟨Phi.m⟩

/-- More blocks, more versions, more cells are known. -/
structure Sub (φ φ' : Phi) : Prop where
  m : ∀ b v X, φ b v = some X → φ' b v = some X
  K : ∀ B i v, φ.K B i = some v → φ'.K B i = some v
  Z : ∀ b, φ.Z b = false → φ'.Z b = false
theorem Sub.refl (φ : Phi) : Sub φ φ := ⟨fun _ _ _ h => h, fun _ _ _ h => h, fun _ h => h⟩
theorem Sub.trans {φ φ' φ'' : Phi} (h : Sub φ φ') (k : Sub φ' φ'') : Sub φ φ'' := ⟨fun _ _ _ e => k.m _ _ _ (h.m _ _ _ e), fun _ _ _ e => k.K _ _ _ (h.K _ _ _ e), fun _ e => k.Z _ (h.Z _ e)⟩

/-- Only the cells that stay as they are. -/
def Phi.pure (φ : Phi) : Phi := ⟨fun _ _ => none, φ.K, fun _ => true⟩
theorem Phi.pure_sub (φ : Phi) : Sub φ.pure φ := ⟨fun _ _ _ h => (by cases h), fun _ _ _ h => h, fun _ h => (by cases h)⟩
theorem Sub.pure {φ φ' : Phi} (h : Sub φ φ') : Sub φ.pure φ'.pure := ⟨fun _ _ _ h => (by cases h), h.K, fun _ h => (by cases h)⟩

mutual
inductive VR : Phi → AV → Value → Prop
  | unk {φ : Phi} (v : Value) : VR φ .unk v
  | bool {φ : Phi} (b : Bool) : VR φ (.bool b) (.bool b)
  | int {φ : Phi} (k : IntKind) (n : Int) : VR φ (.int k n) (.int k n)
  | str {φ : Phi} (s : ByteArray) : VR φ (.str s) (.string s)
  | nilPtr {φ : Phi} : VR φ .nilPtr (.pointer none)
  | ptr {φ : Phi} {b off ver B o S : Nat} (h : φ b ver = some (B, o, S)) : VR φ (.ptr b off ver) (.pointer (some ⟨B, o + off, none⟩))
  | nilSlice {φ : Phi} : VR φ .nilSlice (.slice none 0 0)
  | slice {φ : Phi} {sz b off len ver : Nat} {cap : Option Nat} {B o S C : Nat} {A : Option Addr} (h : φ b ver = some (B, o, S)) (hl : len ≤ C) (hc : ∀ c, cap = some c → C = c)
      (hS : off + C * sz ≤ S) (ha : A = some ⟨B, o + off, none⟩ ∨ (C = 0 ∧ ∃ a, A = some a)) : VR φ (.slice sz b off len ver cap) (.slice A len C)
  /-- a slice that is still to be made is nil -/
  | slice0 {φ : Phi} {sz b : Nat} (hz : φ.Z b = false) : VR φ (.slice sz b 0 0 0 none) (.slice none 0 0)
  | vals {φ : Phi} {sz : Nat} {xs : List AV} {ys : List Value} {nn : Bool} {B o len C : Nat} {A : Option Addr} (hk : ∀ (i : Nat) (y : Value), ys[i]? = some y → φ.K B (o + i) = some y) (h : VRs φ.pure xs ys) (hl : xs.length = len * sz) (hC : len ≤ C)
      (ha : A = some ⟨B, o, none⟩ ∨ (len = 0 ∧ (A = none → nn = false ∧ C = 0))) : VR φ (.vals sz xs nn) (.slice A len C)
  | cptr {φ : Phi} {xs : List AV} {ys : List Value} {B o : Nat} (hk : ∀ (i : Nat) (y : Value), ys[i]? = some y → φ.K B (o + i) = some y) (h : VRs φ.pure xs ys) : VR φ (.cptr xs) (.pointer (some ⟨B, o, none⟩))
  | func {φ : Phi} {fn : FuncId} {xs ys : List AV} {xs' ys' : Array Value} (h1 : VRs φ xs xs'.toList) (h2 : VRs φ ys ys'.toList) : VR φ (.func fn xs ys) (.func (.func fn) xs' ys')
  | nilFunc {φ : Phi} : VR φ .nilFunc .nilFunc
  | yld {φ : Phi} (l : Nat) : VR φ (.yld l) (.func (.yield l) #[] #[])
  | iface {φ : Phi} {t : TypeId} {v : AV} {v' : Value} (h : VR φ v v') : VR φ (.iface t v) (.iface t v')
  | nilIface {φ : Phi} : VR φ .nilIface .nilIface
  | agg {φ : Phi} {xs : List AV} {xs' : Array Value} (h : VRs φ xs xs'.toList) : VR φ (.agg xs) (.agg xs')
  | tuple {φ : Phi} {xs : List AV} {xs' : Array Value} (h : VRs φ xs xs'.toList) : VR φ (.tuple xs) (.tuple xs')
inductive VRs : Phi → List AV → List Value → Prop
  | nil {φ : Phi} : VRs φ [] []
  | cons {φ : Phi} {x : AV} {y : Value} {xs : List AV} {ys : List Value} (h : VR φ x y) (t : VRs φ xs ys) : VRs φ (x :: xs) (y :: ys)
end

/-- More blocks, or more versions, are known; of the first n blocks those that are not yet made are not made. -/
structure Ext (base n : Nat) (φ φ' : Phi) : Prop where
  sub : Sub φ φ'
  stays : ∀ b, b < n → φ.Z b = true → φ'.Z b = true
  /-- of the machine's elder blocks no more is known -/
  knew : ∀ B i v, B < base → φ'.K B i = some v → φ.K B i = some v

theorem Ext.refl (base n : Nat) (φ : Phi) : Ext base n φ φ := ⟨Sub.refl φ, fun _ _ h => h, fun _ _ _ _ h => h⟩
theorem Ext.trans {base n m : Nat} {φ φ' φ'' : Phi} (h : Ext base n φ φ') (k : Ext base m φ' φ'') (hn : n ≤ m) : Ext base n φ φ'' :=
  ⟨h.sub.trans k.sub, fun b hb hx => k.stays b (Nat.lt_of_lt_of_le hb hn) (h.stays b hb hx), fun B i v hB e => h.knew B i v hB (k.knew B i v hB e)⟩

mutual
theorem VR.mono {φ φ' : Phi} (he : Sub φ φ') : ∀ {x : AV} {y : Value}, VR φ x y → VR φ' x y
  | _, _, .unk v => .unk v
  | _, _, .bool b => .bool b
  | _, _, .int k n => .int k n
  | _, _, .str s => .str s
  | _, _, .nilPtr => .nilPtr
  | _, _, .ptr h => .ptr (he.m _ _ _ h)
  | _, _, .nilSlice => .nilSlice
  | _, _, .slice h hl hc hS ha => .slice (he.m _ _ _ h) hl hc hS ha
  | _, _, .slice0 hz => .slice0 (he.Z _ hz)
  | _, _, .vals hk h hl hC ha => .vals (fun i y e => he.K _ _ _ (hk i y e)) (VRs.mono he.pure h) hl hC ha
  | _, _, .cptr hk h => .cptr (fun i y e => he.K _ _ _ (hk i y e)) (VRs.mono he.pure h)
  | _, _, .func h1 h2 => .func (VRs.mono he h1) (VRs.mono he h2)
  | _, _, .nilFunc => .nilFunc
  | _, _, .yld l => .yld l
  | _, _, .iface h => .iface (VR.mono he h)
  | _, _, .nilIface => .nilIface
  | _, _, .agg h => .agg (VRs.mono he h)
  | _, _, .tuple h => .tuple (VRs.mono he h)
theorem VRs.mono {φ φ' : Phi} (he : Sub φ φ') : ∀ {xs : List AV} {ys : List Value}, VRs φ xs ys → VRs φ' xs ys
  | _, _, .nil => .nil
  | _, _, .cons h t => .cons (VR.mono he h) (VRs.mono he t)
end

theorem VRs.length {φ : Phi} : ∀ {xs : List AV} {ys : List Value}, VRs φ xs ys → xs.length = ys.length
  | _, _, .nil => rfl
  | _, _, .cons _ t => congrArg (· + 1) t.length
theorem VRs.get {φ : Phi} : ∀ {xs : List AV} {ys : List Value}, VRs φ xs ys → ∀ (i : Nat) (x : AV), xs[i]? = some x → ∃ y, ys[i]? = some y ∧ VR φ x y
  | _, _, .nil, i, x, h => by simp at h
  | _, _, .cons h t, 0, x, hx => by simp at hx; subst hx; exact ⟨_, rfl, h⟩
  | _, _, .cons h t, i + 1, x, hx => by simp at hx; simpa using t.get i x hx
theorem VRs.of_get {φ : Phi} : ∀ (xs : List AV) (ys : List Value), xs.length = ys.length → (∀ (i : Nat) (x : AV), xs[i]? = some x → ∃ y, ys[i]? = some y ∧ VR φ x y) → VRs φ xs ys
  | [], [], _, _ => .nil
  | x :: xs, y :: ys, hl, h => by
    refine .cons ?_ (VRs.of_get xs ys (by simpa using hl) fun i x hx => by simpa using h (i + 1) x (by simpa using hx))
    obtain ⟨y', h1, h2⟩ := h 0 x rfl
    simp at h1; subst h1; exact h2
  | [], _ :: _, hl, _ => by simp at hl
  | _ :: _, [], hl, _ => by simp at hl
theorem VRs.append {φ : Phi} : ∀ {xs : List AV} {ys : List Value} {xs2 : List AV} {ys2 : List Value}, VRs φ xs ys → VRs φ xs2 ys2 → VRs φ (xs ++ xs2) (ys ++ ys2)
  | _, _, _, _, .nil, k => k
  | _, _, _, _, .cons h t, k => .cons h (t.append k)
theorem VRs.drop {φ : Phi} : ∀ {xs : List AV} {ys : List Value} (n : Nat), VRs φ xs ys → VRs φ (xs.drop n) (ys.drop n)
  | _, _, 0, h => by simpa using h
  | _, _, n + 1, .nil => by simpa using VRs.nil
  | _, _, n + 1, .cons _ t => by simpa using t.drop n
theorem VRs.take {φ : Phi} : ∀ {xs : List AV} {ys : List Value} (n : Nat), VRs φ xs ys → VRs φ (xs.take n) (ys.take n)
  | _, _, 0, h => by simpa using VRs.nil
  | _, _, n + 1, .nil => by simpa using VRs.nil
  | _, _, n + 1, .cons h t => by simpa using VRs.cons h (t.take n)
theorem VRs.replicate {φ : Phi} {x : AV} {y : Value} (h : VR φ x y) : ∀ n, VRs φ (List.replicate n x) (List.replicate n y)
  | 0 => .nil
  | n + 1 => by simpa [List.replicate_succ] using VRs.cons h (VRs.replicate h n)
theorem VRs.set {φ : Phi} : ∀ {xs : List AV} {ys : List Value} (n : Nat) {x : AV} {y : Value}, VRs φ xs ys → VR φ x y → VRs φ (xs.set n x) (ys.set n y)
  | _, _, _, _, _, .nil, _ => by simpa using VRs.nil
  | _, _, 0, _, _, .cons _ t, k => by simpa using VRs.cons k t
  | _, _, n + 1, _, _, .cons h t, k => by simpa using VRs.cons h (t.set n k)
theorem VR.cells {φ : Phi} {x : AV} {y : Value} (h : VR φ x y) (hx : x ≠ .unk) : VRs φ x.cells y.cells.toList := by
  cases h with
  | unk v => exact absurd rfl hx
  | agg h => exact h
  | tuple h => exact .cons (.tuple h) .nil
  | ptr h => exact .cons (.ptr h) .nil
  | slice h hl hc hS ha => exact .cons (.slice h hl hc hS ha) .nil
  | slice0 hz => exact .cons (.slice0 hz) .nil
  | vals hk h hl hC ha => exact .cons (.vals hk h hl hC ha) .nil
  | cptr hk h => exact .cons (.cptr hk h) .nil
  | func h1 h2 => exact .cons (.func h1 h2) .nil
  | iface h => exact .cons (.iface h) .nil
  | bool b => exact .cons (.bool b) .nil
  | int k n => exact .cons (.int k n) .nil
  | str s => exact .cons (.str s) .nil
  | nilPtr => exact .cons .nilPtr .nil
  | nilSlice => exact .cons .nilSlice .nil
  | nilFunc => exact .cons .nilFunc .nil
  | yld l => exact .cons (.yld l) .nil
  | nilIface => exact .cons .nilIface .nil
theorem VR.oneCell {φ : Phi} {x : AV} {y : Value} (h : VR φ x y) (hx : x.one = true) : y.oneCell' = true := by
  cases h <;> first | rfl | simp [AV.one] at hx

inductive AObj where
  /-- cells, the least version that may still be read, whether it came in (and is not written) -/
  | blk (cells : List AV) (minv : Nat) (ro : Bool)
  | gone
  deriving Inhabited
abbrev Heap := List AObj

theorem heap_alloc_self (w : World) (o : Obj) : (w.alloc o).heap[w.heap.size]? = some o := by
  show (w.heap.push o)[w.heap.size]? = _
  simp

theorem cell_alloc_self (w : World) (cs : Array Value) (e : TypeId) (fz : Nat × Nat) (i : Nat) : (w.alloc (.cells cs e fz)).cell? ⟨w.heap.size, i, none⟩ = cs[i]? := by
  unfold World.cell?
  simp only [heap_alloc_self]
  simp

structure BlkOk (base : Nat) (φ : Phi) (cells : List AV) (minv : Nat) (ro : Bool) (w : World) (v B o S : Nat) : Prop where
  ver : v ≤ cells.length
  min : minv ≤ cells.length
  room : v ≤ S
  lies : ∃ c e fz, w.heap[B]? = some (.cells c e fz) ∧ o + S ≤ c.size
  reads : minv ≤ v → ∀ i x, i < v → cells[i]? = some x → ∃ y, w.cell? ⟨B, o + i, none⟩ = some y ∧ VR φ x y
  own : ro = false → base ≤ B ∧ o = 0 ∧ ∀ i, i < S → w.frozen? ⟨B, i, none⟩ = false
  free : ro = false → ∀ i, φ.K B i = none

/-- The machine's elder blocks below base lie as they lay, and so does whatever is no cells. -/
structure Bel (base : Nat) (w0 w : World) : Prop where
  bel : Below base w0 w
  objs : KeepsOthers w0 w
theorem Bel.refl (base : Nat) (w : World) : Bel base w w := ⟨⟨rfl, rfl, rfl, Nat.le_refl _, fun _ _ => rfl⟩, .refl w⟩
theorem keepsOthers_ofBelow {w w' : World} (h : Below w.heap.size w w') : KeepsOthers w w' := ⟨h.size, fun k o hk _ => (h.block k (Array.getElem?_eq_some_iff.1 hk).1).trans hk⟩
theorem Bel.later {base : Nat} {w0 w w' : World} (h : Bel base w0 w) (hs : base ≤ w.heap.size) (hb : Below w.heap.size w w') : Bel base w0 w' := ⟨h.bel.trans (hb.mono hs), h.objs.trans (keepsOthers_ofBelow hb)⟩
theorem Bel.setCell {base : Nat} {w0 w : World} (h : Bel base w0 w) {a : Addr} (hB : base ≤ a.block) (u : Value) : Bel base w0 (w.setCell a u) := ⟨h.bel.setCell hB u, h.objs.trans (.setCell w a u)⟩

structure Rel (base : Nat) (w0 : World) (φ : Phi) (H : Heap) (w : World) : Prop where
  below : Bel base w0 w
  size : base ≤ w.heap.size
  dom : ∀ b v X, φ b v = some X → b < H.length
  lt : ∀ b v B o S, φ b v = some (B, o, S) → B < w.heap.size
  blk : ∀ b cells minv ro, H[b]? = some (.blk cells minv ro) → ∀ v B o S, φ b v = some (B, o, S) → BlkOk base φ cells minv ro w v B o S
  know : ∀ B i v, φ.K B i = some v → w.cell? ⟨B, i, none⟩ = some v
  zz : ∀ b v, φ.Z b = true → φ b v = none
  zdom : ∀ b, φ.Z b = false → b < H.length
  inj : ∀ b cells minv, H[b]? = some (.blk cells minv false) → ∀ b' v v' B o S o' S', b ≠ b' → φ b v = some (B, o, S) → φ b' v' = some (B, o', S') → False

section
variable {base : Nat} {w0 : World} {φ : Phi} {H : Heap} {w : World}

/-- Whatever leaves what was there as it was. -/
theorem Rel.later (h : Rel base w0 φ H w) {w' : World} (hb : Below w.heap.size w w') : Rel base w0 φ H w' where
  below := h.below.later h.size hb
  size := Nat.le_trans h.size hb.size
  dom := h.dom
  lt := fun b v B o S hx => Nat.lt_of_lt_of_le (h.lt b v B o S hx) hb.size
  inj := h.inj
  zz := h.zz
  zdom := h.zdom
  know := fun B i v hv => by
    have k := h.know B i v hv
    have hB : B < w.heap.size := by
      unfold World.cell? at k
      rcases Nat.lt_or_ge B w.heap.size with h' | h'
      · exact h'
      · simp [Array.getElem?_eq_none h'] at k
    simpa [World.cell?, hb.block B hB] using k
  blk := fun b cells minv ro hH v B o S hφ => by
    have k := h.blk b cells minv ro hH v B o S hφ
    obtain ⟨c, e, fz, hc, hS⟩ := k.lies
    have hB : B < w.heap.size := (Array.getElem?_eq_some_iff.1 hc).1
    have hh : w'.heap[B]? = w.heap[B]? := hb.block B hB
    refine ⟨k.ver, k.min, k.room, ⟨c, e, fz, hh.trans hc, hS⟩, fun hm i x hi hx => ?_, fun hr => ⟨(k.own hr).1, (k.own hr).2.1, fun i hi => ?_⟩, ?_⟩
    · obtain ⟨y, h1, h2⟩ := k.reads hm i x hi hx
      exact ⟨y, by simpa [World.cell?, hh] using h1, h2⟩
    · have := (k.own hr).2.2 i hi
      simpa [World.frozen?, hh] using this
    · exact k.free

theorem Rel.awake (h : Rel base w0 φ H w) {b v : Nat} {X : Nat × Nat × Nat} (hx : φ b v = some X) : φ.Z b = false := by
  cases hz : φ.Z b with
  | false => rfl
  | true => rw [h.zz _ _ hz] at hx; cases hx
theorem Rel.newK (h : Rel base w0 φ H w) {B : Nat} (hB : w.heap.size ≤ B) (i : Nat) : φ.K B i = none := by
  cases hk : φ.K B i with
  | none => rfl
  | some v =>
    have := h.know _ _ _ hk
    unfold World.cell? at this
    simp [Array.getElem?_eq_none hB] at this

theorem Rel.drew (h : Rel base w0 φ H w) : Rel base w0 φ H w.drew := h.later ⟨rfl, rfl, rfl, Nat.le_refl _, fun _ _ => rfl⟩

def Phi.put (φ : Phi) (b v : Nat) (X : Nat × Nat × Nat) : Phi := ⟨fun b' v' => if b' = b ∧ v' = v then some X else φ b' v', φ.K, fun b' => if b' = b then false else φ.Z b'⟩
theorem Phi.put_same (φ : Phi) (b v : Nat) (X : Nat × Nat × Nat) : φ.put b v X b v = some X := by simp [Phi.put]
theorem Phi.put_other {φ : Phi} {b v b' v' : Nat} {X : Nat × Nat × Nat} (h : ¬(b' = b ∧ v' = v)) : φ.put b v X b' v' = φ b' v' := by simp [Phi.put, h]
theorem Phi.put_K (φ : Phi) (b v : Nat) (X : Nat × Nat × Nat) : (φ.put b v X).K = φ.K := rfl
theorem Phi.put_sub {φ : Phi} {b v : Nat} {X : Nat × Nat × Nat} (h : φ b v = none ∨ φ b v = some X) : Sub φ (φ.put b v X) := by
  refine ⟨?_, fun _ _ _ e => e, fun b' e => by show (if b' = b then false else φ.Z b') = false; rw [e]; simp⟩
  intro b' v' Y hY
  by_cases hh : b' = b ∧ v' = v
  · obtain ⟨rfl, rfl⟩ := hh
    rcases h with h | h
    · rw [h] at hY; cases hY
    · rw [Phi.put_same, ← h]; exact hY
  · rw [Phi.put_other hh]; exact hY

/-- A new block, under a name that is not yet made. -/
theorem Rel.newAt (h : Rel base w0 φ H w) (cells : List AV) (cs : Array Value) (e : TypeId) (hl : cells.length ≤ cs.size) (hv : ∀ (i : Nat) (x : AV), cells[i]? = some x → ∃ y : Value, cs[i]? = some y ∧ VR φ x y) (fz : Nat × Nat) (hfz : fz.2 ≤ fz.1 ∨ cs.size ≤ fz.1)
    {nb : Nat} {H2 : Heap} (hz : φ.Z nb = true) (hnb : H2[nb]? = some (.blk cells cells.length false)) (ho : ∀ b', b' ≠ nb → H2[b']? = H[b']?) (hlen : H.length ≤ H2.length) :
    Rel base w0 (φ.put nb cells.length (w.heap.size, 0, cs.size)) H2 (w.alloc (.cells cs e fz)) ∧ Sub φ (φ.put nb cells.length (w.heap.size, 0, cs.size)) := by
  have hnone : ∀ v, φ nb v = none := fun v => h.zz _ _ hz
  have hnl : nb < H2.length := (List.getElem?_eq_some_iff.1 hnb).1
  have hsub := Phi.put_sub (b := nb) (v := cells.length) (X := (w.heap.size, 0, cs.size)) (.inl (hnone cells.length))
  have hl2 := h.later (w' := w.alloc (.cells cs e fz)) ⟨rfl, rfl, rfl, by simp, fun k hk => Below.heap_alloc _ _ _ hk⟩
  refine ⟨⟨hl2.below, hl2.size, fun b v X hx => ?_, fun b v B o S hx => ?_, fun b cl mv ro hH v B o S hφ => ?_, hl2.know, fun b v hz => ?_, fun b hz => ?_, fun b cl mv hH b' v v' B o S o' S' hne h1 h2 => ?_⟩, hsub⟩
  · by_cases hh : b = nb ∧ v = cells.length
    · rw [hh.1]; exact hnl
    · rw [Phi.put_other hh] at hx
      have := h.dom _ _ _ hx
      omega
  · by_cases hh : b = nb ∧ v = cells.length
    · rw [hh.1, hh.2, Phi.put_same] at hx
      simp only [Option.some.injEq, Prod.mk.injEq] at hx
      simp; omega
    · rw [Phi.put_other hh] at hx
      exact hl2.lt _ _ _ _ _ hx
  · by_cases hb : b ≠ nb
    · rw [ho b hb] at hH
      rw [Phi.put_other (by omega)] at hφ
      have k := hl2.blk b cl mv ro hH v B o S hφ
      exact ⟨k.ver, k.min, k.room, k.lies, fun hm i x hi hx => let ⟨y, h1, h2⟩ := k.reads hm i x hi hx; ⟨y, h1, h2.mono hsub⟩, k.own, k.free⟩
    · have hbl : b = nb := Classical.byContradiction hb
      subst hbl
      rw [hnb] at hH
      simp only [Option.some.injEq, AObj.blk.injEq] at hH
      obtain ⟨rfl, rfl, rfl⟩ := hH
      by_cases hv' : v = cells.length
      · subst hv'
        rw [Phi.put_same] at hφ
        simp only [Option.some.injEq, Prod.mk.injEq] at hφ
        obtain ⟨rfl, rfl, rfl⟩ := hφ
        refine ⟨Nat.le_refl _, Nat.le_refl _, hl, ⟨cs, e, fz, heap_alloc_self _ _, by omega⟩, fun _ i x hi hx => ?_, fun _ => ⟨h.size, rfl, fun i hi => ?_⟩, fun _ i => ?_⟩
        · obtain ⟨y, h1, h2⟩ := hv i x hx
          refine ⟨y, ?_, h2.mono hsub⟩
          rw [Nat.zero_add, cell_alloc_self, h1]
        · simp only [World.frozen?, heap_alloc_self]
          rcases hfz with hf | hf <;> simp <;> omega
        · rw [Phi.put_K]
          cases hk : φ.K w.heap.size i with
          | none => rfl
          | some v =>
            have := h.know _ _ _ hk
            simp [World.cell?] at this
      · rw [Phi.put_other (by omega), hnone] at hφ; cases hφ
  · have hz' : (if b = nb then false else φ.Z b) = true := hz
    split at hz'
    · cases hz'
    · rw [Phi.put_other (by omega)]
      exact h.zz _ _ hz'
  · have hz' : (if b = nb then false else φ.Z b) = false := hz
    split at hz'
    · rename_i e; rw [e]; exact hnl
    · have := h.zdom _ hz'
      omega
  · by_cases ha : b = nb ∧ v = cells.length
    · rw [ha.1, ha.2, Phi.put_same] at h1
      simp only [Option.some.injEq, Prod.mk.injEq] at h1
      by_cases hc : b' = nb ∧ v' = cells.length
      · exact hne (by omega)
      · rw [Phi.put_other hc] at h2
        have := h.lt _ _ _ _ _ h2
        omega
    · rw [Phi.put_other ha] at h1
      have hb : b ≠ nb := fun e => by rw [e, hnone] at h1; cases h1
      by_cases hc : b' = nb ∧ v' = cells.length
      · rw [hc.1, hc.2, Phi.put_same] at h2
        simp only [Option.some.injEq, Prod.mk.injEq] at h2
        have := h.lt _ _ _ _ _ h1
        omega
      · rw [Phi.put_other hc] at h2
        rw [ho b hb] at hH
        exact h.inj b cl mv hH b' v v' B o S o' S' hne h1 h2

theorem Rel.fresh (h : Rel base w0 φ H w) {b : Nat} (hb : H.length ≤ b) : φ.Z b = true := by
  cases hz : φ.Z b with
  | true => rfl
  | false => have := h.zdom _ hz; omega

/-- A new block. -/
theorem Rel.new (h : Rel base w0 φ H w) (cells : List AV) (cs : Array Value) (e : TypeId) (hl : cells.length ≤ cs.size) (hv : ∀ (i : Nat) (x : AV), cells[i]? = some x → ∃ y : Value, cs[i]? = some y ∧ VR φ x y) (fz : Nat × Nat) (hfz : fz.2 ≤ fz.1 ∨ cs.size ≤ fz.1) :
    Rel base w0 (φ.put H.length cells.length (w.heap.size, 0, cs.size)) (H ++ [.blk cells cells.length false]) (w.alloc (.cells cs e fz)) ∧ Ext base H.length φ (φ.put H.length cells.length (w.heap.size, 0, cs.size)) := by
  obtain ⟨h1, h2⟩ := h.newAt cells cs e hl hv fz hfz (nb := H.length) (H2 := H ++ [.blk cells cells.length false]) (h.fresh (Nat.le_refl _)) (by simp) (fun b' hb' => by
    rcases Nat.lt_or_ge b' H.length with hlt | hge
    · rw [List.getElem?_append_left hlt]
    · rw [List.getElem?_eq_none (by simp; omega), List.getElem?_eq_none hge]) (by simp)
  exact ⟨h1, h2, fun b hb hn => (if_neg (show ¬ b = H.length by omega)).trans hn, fun _ _ _ _ e => e⟩

/-- A store into a cell of a block's newest version. -/
theorem Rel.store (h : Rel base w0 φ H w) {b : Nat} {cells : List AV} {mv : Nat} (hb : H[b]? = some (.blk cells mv false)) {B o S : Nat} (hφ : φ b cells.length = some (B, o, S)) {i : Nat} (hi : i < cells.length) {x : AV} {y : Value} (hx : VR φ x y) :
    (∃ u, w.cell? ⟨B, o + i, none⟩ = some u) ∧ w.frozen? ⟨B, o + i, none⟩ = false ∧ Rel base w0 φ (H.set b (.blk (cells.set i x) cells.length false)) (w.setCell ⟨B, o + i, none⟩ y) := by
  have k := h.blk b cells mv false hb _ B o S hφ
  obtain ⟨hB, rfl, hf⟩ := k.own rfl
  obtain ⟨c, e, fz, hc, hS⟩ := k.lies
  have hiS : i < S := Nat.lt_of_lt_of_le hi k.room
  have hcell : ∃ u, w.cell? ⟨B, 0 + i, none⟩ = some u := by
    refine ⟨c[i]'(by omega), ?_⟩
    simp [World.cell?, hc, Array.getElem?_eq_getElem (show i < c.size by omega)]
  obtain ⟨u, hu⟩ := hcell
  have hfr : w.frozen? ⟨B, 0 + i, none⟩ = false := by simpa using hf i hiS
  refine ⟨⟨u, hu⟩, hfr, ?_⟩
  have hbl : b < H.length := (List.getElem?_eq_some_iff.1 hb).1
  refine ⟨h.below.setCell hB _, by simpa using h.size, fun b' v X hX => by simpa using h.dom b' v X hX, fun b' v B' o' S' hX => by simpa using h.lt b' v B' o' S' hX, fun b' cl mv' ro hH v B' o' S' hX => ?_, fun B' j u hu' => ?_, h.zz, fun b' hz => by simpa using h.zdom _ hz, fun b' cl mv' hH b'' v v' B' o' S' o'' S'' hne h1 h2 => ?_⟩
  · by_cases hbb : b' = b
    · subst hbb
      rw [List.getElem?_set_self hbl] at hH
      simp only [Option.some.injEq, AObj.blk.injEq] at hH
      obtain ⟨rfl, rfl, rfl⟩ := hH
      have k' := h.blk b' cells mv false hb v B' o' S' hX
      obtain ⟨hB', rfl, hf'⟩ := k'.own rfl
      obtain ⟨c', e', fz', hc', hS'⟩ := k'.lies
      refine ⟨by simpa using k'.ver, by simp, k'.room, ?_, fun hm j z hj hz => ?_, fun _ => ⟨hB', rfl, fun j hj => by rw [World.frozen?_setCell]; exact hf' j hj⟩, k'.free⟩
      · by_cases hBB : B' = B
        · subst hBB
          rw [hc] at hc'
          injection hc' with hc'
          injection hc' with h1 h2 h3
          subst h1
          refine ⟨c.setIfInBounds (0 + i) y, e, fz, ?_, by simp; omega⟩
          simp [World.setCell, Array.getElem?_modify, hc]
        · exact ⟨c', e', fz', by rw [Below.heap_setCell _ _ _ _ (by simpa using hBB)]; exact hc', hS'⟩
      · have hvl : v = cells.length := by have := k'.ver; omega
        subst hvl
        rw [hφ] at hX
        simp only [Option.some.injEq, Prod.mk.injEq] at hX
        obtain ⟨rfl, _, rfl⟩ := hX
        by_cases hji : j = i
        · subst hji
          rw [List.getElem?_set_self hi] at hz
          injection hz with hz
          subst hz
          exact ⟨y, World.cell?_setCell_same _ _ _ hu, hx⟩
        · rw [List.getElem?_set_ne (by omega)] at hz
          obtain ⟨t, h1, h2⟩ := k'.reads k'.min j z hj hz
          exact ⟨t, by rw [World.cell?_setCell_other _ _ _ _ (by simp; omega)]; exact h1, h2⟩
    · rw [List.getElem?_set_ne (by omega)] at hH
      have k' := h.blk b' cl mv' ro hH v B' o' S' hX
      have hBB : B ≠ B' := fun e => by subst e; exact h.inj b cells mv hb b' cells.length v B 0 S o' S' (by omega) hφ hX
      obtain ⟨c', e', fz', hc', hS'⟩ := k'.lies
      refine ⟨k'.ver, k'.min, k'.room, ⟨c', e', fz', by rw [Below.heap_setCell _ _ _ _ (by simp; omega)]; exact hc', hS'⟩, fun hm j z hj hz => ?_, fun hr => ⟨(k'.own hr).1, (k'.own hr).2.1, fun j hj => by rw [World.frozen?_setCell]; exact (k'.own hr).2.2 j hj⟩, k'.free⟩
      obtain ⟨t, h1, h2⟩ := k'.reads hm j z hj hz
      exact ⟨t, by rw [World.cell?_setCell_other _ _ _ _ (by simp; omega)]; exact h1, h2⟩
  · have hBB : B' ≠ B := fun e => by
      subst e
      rw [k.free rfl j] at hu'; cases hu'
    rw [World.cell?_setCell_other _ _ _ _ (by simp; omega)]
    exact h.know _ _ _ hu'
  · by_cases hbb : b' = b
    · subst hbb
      exact h.inj b' cells mv hb b'' v v' B' o' S' o'' S'' hne h1 h2
    · rw [List.getElem?_set_ne (by omega)] at hH
      exact h.inj b' cl mv' hH b'' v v' B' o' S' o'' S'' hne h1 h2
end
end Go.Ab

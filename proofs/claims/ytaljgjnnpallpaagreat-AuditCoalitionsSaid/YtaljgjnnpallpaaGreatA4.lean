/- The operations on the abstract memory, one by one: numbers, strings, make, append, copy. -/
import Derived.Test.YtaljgjnnpallpaaGreatA3
set_option linter.unusedVariables false
set_option linter.unusedSimpArgs false
namespace Go.Ab
open Go.RowKit

section
variable {base : Nat} {w0 : World} {P : Program} {φ : Phi} {H : Heap} {w : World}

/-! #### numbers, strings -/
def bits2 (k : IntKind) (f : BitVec k.bits → BitVec k.bits → BitVec k.bits) (a b : Int) : Int := k.wrap ((f (BitVec.ofInt k.bits a) (BitVec.ofInt k.bits b)).toNat)
def aInt (op : BinOp) (k : IntKind) (a b : Int) : Option AV :=
  match op with
  | .add => some (.int k (k.wrap (a + b)))
  | .sub => some (.int k (k.wrap (a - b)))
  | .mul => some (.int k (k.wrap (a * b)))
  | .quo => if b = 0 then none else some (.int k (k.wrap (a.tdiv b)))
  | .rem => if b = 0 then none else some (.int k (a.tmod b))
  | .and => some (.int k (bits2 k (· &&& ·) a b))
  | .or => some (.int k (bits2 k (· ||| ·) a b))
  | .xor => some (.int k (bits2 k (· ^^^ ·) a b))
  | .andNot => some (.int k (bits2 k (fun x y => x &&& ~~~y) a b))
  | .eql => some (.bool (a == b))
  | .neq => some (.bool (a != b))
  | .lss => some (.bool (decide (a < b)))
  | .leq => some (.bool (decide (a ≤ b)))
  | .gtr => some (.bool (decide (a > b)))
  | .geq => some (.bool (decide (a ≥ b)))
  | .shl | .shr => none
def aStr (op : BinOp) (a b : ByteArray) : Option AV :=
  match op with
  | .add => if a.size + b.size ≤ 4611686018427387904 then some (.str (a ++ b)) else none
  | .eql => some (.bool (a.toList == b.toList))
  | .neq => some (.bool (!(a.toList == b.toList)))
  | .lss => some (.bool (Op.bytesLess a.toList b.toList))
  | .leq => some (.bool (Op.bytesLess a.toList b.toList || a.toList == b.toList))
  | .gtr => some (.bool (!(Op.bytesLess a.toList b.toList || a.toList == b.toList)))
  | .geq => some (.bool (!Op.bytesLess a.toList b.toList))
  | _ => none
/-- 'x == nil'. Two nil values of an interface type: one of them is the literal (c). -/
def aIsNil (c : Bool) (d : TypeDesc) (x y : AV) : Option Bool :=
  match d, x, y with
  | .slice _, .nilSlice, .nilSlice => some true
  | .slice _, .slice _ _ _ _ ver cap, .nilSlice => if 0 < ver ∨ cap.isSome = true then some false else none
  | .slice _, .vals _ _ true, .nilSlice => some false
  | .interface _, .iface _ _, .nilIface => some false
  | .interface _, .nilIface, .nilIface => if c = true then some true else none
  | .pointer _, .nilPtr, .nilPtr => some true
  | .pointer _, .ptr _ _ _, .nilPtr => some false
  | .pointer _, .cptr _, .nilPtr => some false
  | .func _ _ _, .nilFunc, .nilFunc => some true
  | .func _ _ _, .func _ _ _, .nilFunc => some false
  | _, _, _ => none
def aEqNe (op : BinOp) (b : Bool) : Option AV := match op with | .eql => some (.bool b) | .neq => some (.bool !b) | _ => none
def isC : Operand → Bool | .const _ => true | _ => false
def aBin (P : Program) (op : BinOp) (t : TypeId) (c : Bool) (x y : AV) : Option AV :=
  match op, x, y with
  | .shl, .int k a, .int _ b => if 0 ≤ b then some (.int k (k.wrap (a * 2 ^ (min b.toNat k.bits)))) else none
  | .shr, .int k a, .int _ b => if 0 ≤ b then some (.int k (a.fdiv (2 ^ (min b.toNat k.bits)))) else none
  | op, .int k a, .int k' b => if k = k' then aInt op k a b else none
  | op, .str a, .str b => aStr op a b
  | op, .bool a, .bool b => match P.underlying t, op with
    | some .bool, .eql => some (.bool (a == b))
    | some .bool, .neq => some (.bool (!(a == b)))
    | _, _ => none
  | op, x, y => match P.underlying t with
    | some d => match aIsNil c d x y with
      | some b => aEqNe op b
      | none => none
    | none => none

theorem run_equal {t : TypeId} {x y : Value} {r : Bool} (h : (Op.equalIn (9999 + 1) t x y).run P w = .ok r w) : (Op.equal t x y).run P w = .ok r w := h
theorem run_equalIn_bool {t : TypeId} (hd : P.underlying t = some .bool) (a b : Bool) (w : World) : (Op.equal t (.bool a) (.bool b)).run P w = .ok (a == b) w := by
  refine run_equal ?_
  rw [Op.equalIn]
  simp [run_under hd]
theorem run_equalIn_nil {t e : TypeId} (hd : P.underlying t = some (.slice e)) (A : Option Addr) (n c : Nat) (w : World) : (Op.equal t (.slice A n c) (.slice none 0 0)).run P w = .ok A.isNone w := by
  refine run_equal ?_
  rw [Op.equalIn]
  cases A <;> simp [run_under hd]

theorem run_aInt {op : BinOp} {k : IntKind} {a b : Int} {r : AV} (h : aInt op k a b = some r) (t : TypeId) (w : World) : ∃ v, (binOp op t (.int k a) (.int k b)).run P w = .ok v w ∧ VR φ r v := by
  cases op <;> simp only [aInt, Option.some.injEq] at h
  case quo =>
    split at h
    · cases h
    · rename_i hb
      injection h with h; subst h
      exact ⟨_, by simp [binOp, Op.intDiv, hb], .int _ _⟩
  case rem =>
    split at h
    · cases h
    · rename_i hb
      injection h with h; subst h
      exact ⟨_, by simp [binOp, Op.intDiv, hb], .int _ _⟩
  case shl => cases h
  case shr => cases h
  case add => subst h; exact ⟨_, by simp [binOp, Op.intArith], .int _ _⟩
  case sub => subst h; exact ⟨_, by simp [binOp, Op.intArith], .int _ _⟩
  case mul => subst h; exact ⟨_, by simp [binOp, Op.intArith], .int _ _⟩
  case and => subst h; exact ⟨.int k _, by simp only [binOp, Op.intBits, ne_eq, not_true_eq_false, if_false]; rfl, .int _ _⟩
  case or => subst h; exact ⟨.int k _, by simp only [binOp, Op.intBits, ne_eq, not_true_eq_false, if_false]; rfl, .int _ _⟩
  case xor => subst h; exact ⟨.int k _, by simp only [binOp, Op.intBits, ne_eq, not_true_eq_false, if_false]; rfl, .int _ _⟩
  case andNot => subst h; exact ⟨.int k _, by simp only [binOp, Op.intBits, ne_eq, not_true_eq_false, if_false]; rfl, .int _ _⟩
  all_goals subst h; exact ⟨_, by simp only [binOp, Op.intCmp, ne_eq, not_true_eq_false, if_false]; rfl, .bool _⟩

theorem run_aStr {op : BinOp} {a b : ByteArray} {r : AV} (h : aStr op a b = some r) (t : TypeId) (w : World) : ∃ v, (binOp op t (.string a) (.string b)).run P w = .ok v w ∧ VR φ r v := by
  have hm : IntKind.i64.max = 9223372036854775807 := by decide
  cases op <;> simp only [aStr, Option.some.injEq] at h
  case add =>
    split at h
    · rename_i hc
      injection h with h; subst h
      refine ⟨_, ?_, .str _⟩
      simp only [binOp, Op.stringOp]
      rw [if_neg (by rw [hm]; omega)]
      rfl
    · cases h
  case eql => subst h; exact ⟨_, by simp only [binOp, Op.stringOp]; rfl, .bool _⟩
  case neq => subst h; exact ⟨_, by simp only [binOp, Op.stringOp]; rfl, .bool _⟩
  case lss => subst h; exact ⟨_, by simp only [binOp, Op.stringOp]; rfl, .bool _⟩
  case leq => subst h; exact ⟨_, by simp only [binOp, Op.stringOp]; rfl, .bool _⟩
  case gtr => subst h; exact ⟨_, by simp only [binOp, Op.stringOp]; rfl, .bool _⟩
  case geq => subst h; exact ⟨_, by simp only [binOp, Op.stringOp]; rfl, .bool _⟩
  all_goals cases h

def plainPair : Value → Value → Bool
  | .nilIface, .nilIface => false
  | .agg _, .agg _ => false
  | _, _ => true
theorem ite_both {α : Type} {c : Prop} [Decidable c] {x y r : α} (h1 : x = r) (h2 : y = r) : (if c then x else y) = r := by split <;> assumption
theorem eqGuard_plain {op : BinOp} {t : TypeId} {x y : Operand} {a b : Value} (h : plainPair a b = true) (w : World) : (eqGuard op t x y a b).run P w = .ok () w := by
  unfold eqGuard
  rw [Sem.run_ite]
  refine ite_both rfl ?_
  split
  · simp [plainPair] at h
  · simp [plainPair] at h
  · rfl
theorem guarded {op : BinOp} {t : TypeId} {o1 o2 : Operand} {a b : Value} {r : AV} (hp : plainPair a b = true) (h : ∃ v, (binOp op t a b).run P w = .ok v w ∧ VR φ r v) : ∃ v, (do eqGuard op t o1 o2 a b; binOp op t a b : Sem Value).run P w = .ok v w ∧ VR φ r v := by
  obtain ⟨v, h1, h2⟩ := h
  refine ⟨v, ?_, h2⟩
  rw [Sem.run_bind, eqGuard_plain hp, Result.andThen_ok]
  exact h1

theorem aIsNil_ok {op : BinOp} {t : TypeId} {d : TypeDesc} {x y r : AV} {b : Bool} {x' y' : Value} {o1 o2 : Operand} (hd : P.underlying t = some d) (hx : VR φ x x') (hy : VR φ y y') (h : aIsNil (isC o1 || isC o2) d x y = some b) (hr : aEqNe op b = some r) :
    ∃ v, (do eqGuard op t o1 o2 x' y'; binOp op t x' y' : Sem Value).run P w = .ok v w ∧ VR φ r v := by
  have hop : op = .eql ∨ op = .neq := by cases op <;> simp [aEqNe] at hr <;> simp
  have key : ∀ {a a' : Value}, plainPair a a' = true → (Op.equal t a a').run P w = .ok b w → (binOp op t a a').run P w = (match op with | .eql => (do pure (.bool (← Op.equal t a a')) : Sem Value) | _ => do pure (.bool (!(← Op.equal t a a')))).run P w → ∃ v, (do eqGuard op t o1 o2 a a'; binOp op t a a' : Sem Value).run P w = .ok v w ∧ VR φ r v := by
    intro a a' hp he hb
    refine guarded hp ?_
    rcases hop with rfl | rfl
    · simp only [aEqNe, Option.some.injEq] at hr; subst hr
      exact ⟨.bool b, by rw [hb]; simp [he], .bool _⟩
    · simp only [aEqNe, Option.some.injEq] at hr; subst hr
      exact ⟨.bool !b, by rw [hb]; simp [he], .bool _⟩
  have eq : ∀ {a a' : Value}, (Op.equalIn (9999 + 1) t a a').run P w = .ok b w → (Op.equal t a a').run P w = .ok b w := fun h => h
  unfold aIsNil at h
  split at h
  · injection h with h; subst h; cases hx; cases hy
    exact key rfl (eq (by rw [Op.equalIn]; simp [run_under hd])) (by rcases hop with rfl | rfl <;> rfl)
  · split at h
    · rename_i hc
      injection h with h; subst h; cases hy
      cases hx with
      | slice hφ hl hcap hS ha =>
        rcases ha with rfl | ⟨_, a, rfl⟩
        · exact key rfl (eq (by rw [Op.equalIn]; simp [run_under hd])) (by rcases hop with rfl | rfl <;> rfl)
        · exact key rfl (eq (by rw [Op.equalIn]; simp [run_under hd])) (by rcases hop with rfl | rfl <;> rfl)
      | slice0 hz => simp at hc
    · cases h
  · injection h with h; subst h; cases hy
    cases hx with
    | vals hk hxs hl hC ha =>
      rename_i A
      cases A with
      | none =>
        rcases ha with ha | ⟨_, ha⟩
        · cases ha
        · exact absurd (ha rfl).1 (by simp)
      | some a => exact key rfl (eq (by rw [Op.equalIn]; simp [run_under hd])) (by rcases hop with rfl | rfl <;> rfl)
  · injection h with h; subst h; cases hx; cases hy
    exact key rfl (eq (by rw [Op.equalIn]; simp [run_under hd])) (by rcases hop with rfl | rfl <;> rfl)
  · split at h
    · rename_i hc
      injection h with h; subst h; cases hx; cases hy
      have hg : (eqGuard op t o1 o2 .nilIface .nilIface).run P w = .ok () w := by
        unfold eqGuard
        rw [Sem.run_ite]
        refine ite_both rfl ?_
        simp only []
        cases o1 <;> first
          | rfl
          | (cases o2 <;> first | rfl | (simp [isC] at hc))
      have he : (Op.equal t .nilIface .nilIface).run P w = .ok true w := eq (by rw [Op.equalIn]; simp [run_under hd])
      rcases hop with rfl | rfl
      · simp only [aEqNe, Option.some.injEq] at hr; subst hr
        exact ⟨.bool true, by rw [Sem.run_bind, hg, Result.andThen_ok]; simp [binOp, he], .bool _⟩
      · simp only [aEqNe, Option.some.injEq] at hr; subst hr
        exact ⟨.bool false, by rw [Sem.run_bind, hg, Result.andThen_ok]; simp [binOp, he], .bool _⟩
    · cases h
  · injection h with h; subst h; cases hx; cases hy
    exact key rfl (eq (by rw [Op.equalIn]; simp [run_under hd])) (by rcases hop with rfl | rfl <;> rfl)
  · injection h with h; subst h; cases hx; cases hy
    exact key rfl (eq (by rw [Op.equalIn]; simp [run_under hd])) (by rcases hop with rfl | rfl <;> rfl)
  · injection h with h; subst h; cases hx; cases hy
    exact key rfl (eq (by rw [Op.equalIn]; simp [run_under hd])) (by rcases hop with rfl | rfl <;> rfl)
  · injection h with h; subst h; cases hx; cases hy
    exact key rfl (eq (by rw [Op.equalIn]; simp [run_under hd])) (by rcases hop with rfl | rfl <;> rfl)
  · injection h with h; subst h; cases hx; cases hy
    exact key rfl (eq (by rw [Op.equalIn]; simp [run_under hd])) (by rcases hop with rfl | rfl <;> rfl)
  · cases h

theorem aBin_ok {op : BinOp} {t : TypeId} {x y r : AV} {x' y' : Value} (hx : VR φ x x') (hy : VR φ y y') {o1 o2 : Operand} (h : aBin P op t (isC o1 || isC o2) x y = some r) :
    ∃ v, (do eqGuard op t o1 o2 x' y'; binOp op t x' y' : Sem Value).run P w = .ok v w ∧ VR φ r v := by
  unfold aBin at h
  split at h
  · rename_i k a k2 b
    split at h
    · rename_i hb
      injection h with h; subst h
      cases hx; cases hy
      refine guarded rfl ⟨_, ?_, .int _ _⟩
      simp only [binOp, Op.shift]
      rw [if_neg (by omega)]
      rfl
    · cases h
  · rename_i k a k2 b
    split at h
    · rename_i hb
      injection h with h; subst h
      cases hx; cases hy
      refine guarded rfl ⟨_, ?_, .int _ _⟩
      simp only [binOp, Op.shift]
      rw [if_neg (by omega)]
      rfl
    · cases h
  · split at h
    · rename_i hk
      subst hk
      cases hx; cases hy
      exact guarded rfl (run_aInt h t w)
    · cases h
  · cases hx; cases hy
    exact guarded rfl (run_aStr h t w)
  · cases hx; cases hy
    refine guarded rfl ?_
    split at h
    · rename_i hd
      injection h with h; subst h
      exact ⟨_, by simp [binOp, run_equalIn_bool hd], .bool _⟩
    · rename_i hd
      injection h with h; subst h
      exact ⟨_, by simp [binOp, run_equalIn_bool hd], .bool _⟩
    · cases h
  · split at h
    · rename_i d hd
      split at h
      · rename_i b hb
        exact aIsNil_ok hd hx hy hb h
      · cases h
    · cases h

def aUn (op : UnOp) (x : AV) : Option AV :=
  match op, x with
  | .neg, .int k n => some (.int k (k.wrap (0 - n)))
  | .xor, .int k n => some (.int k (bits2 k (· ^^^ ·) (if k.signed then -1 else k.max) n))
  | .not, .bool b => some (.bool !b)
  | _, _ => none
theorem aUn_ok {op : UnOp} {x r : AV} {x' : Value} (hx : VR φ x x') (h : aUn op x = some r) : ∃ v, (Op.unary op x').run P w = .ok v w ∧ VR φ r v := by
  unfold aUn at h
  split at h
  · injection h with h; subst h; cases hx
    exact ⟨_, by simp [Op.unary, Op.intArith], .int _ _⟩
  · injection h with h; subst h; cases hx
    exact ⟨.int _ _, by simp only [Op.unary, Op.intBits]; rfl, .int _ _⟩
  · injection h with h; subst h; cases hx
    exact ⟨_, by simp [Op.unary], .bool _⟩
  · cases h

def aConv (P : Program) (src dst : TypeId) (x : AV) : Option AV :=
  match P.underlying src, P.underlying dst, x with
  | some (.int _), some (.int k), .int _ n => some (.int k (k.wrap n))
  | some .string, some .string, .str s => some (.str s)
  | _, _, _ => none
theorem aConv_ok {src dst : TypeId} {x r : AV} {x' : Value} (hx : VR φ x x') (h : aConv P src dst x = some r) : ∃ v, (convert src dst x').run P w = .ok v w ∧ VR φ r v := by
  unfold aConv at h
  split at h
  · rename_i k1 k k2 n hs hd
    injection h with h; subst h; cases hx
    exact ⟨_, by simp [convert, run_under hs, run_under hd, Conv.intToInt], .int _ _⟩
  · rename_i s hs hd
    injection h with h; subst h; cases hx
    exact ⟨.string s, by simp [convert, run_under hs, run_under hd], .str _⟩
  · cases h

/-! #### make -/
def bMake (P : Program) (t : TypeId) (n c : AV) : Option Birth :=
  match P.underlying t, n, c with
  | some (.slice e), .int _ n, .int _ c =>
    match zeroA P e, P.info? e with
    | some zs, some i =>
      if 0 ≤ n ∧ n ≤ c ∧ 0 < i.bytes ∧ (i.bytes : Int) * c ≤ 281474976710656 ∧ 0 < i.size then
        some (aZeros zs (c.toNat * i.size), fun b => .slice i.size b 0 n.toNat (c.toNat * i.size) (some c.toNat))
      else none
    | _, _ => none
  | _, _, _ => none
theorem bMake_ok (h : Rel base w0 φ H w) {t : TypeId} {n c : AV} {n' c' : Value} {r : Birth} (hn : VR φ n n') (hc : VR φ c c') (hs : bMake P t n c = some r) : Born base w0 P φ H w (Instr.makeSlice t n' c') r.1 r.2 := by
  unfold bMake at hs
  split at hs
  · rename_i e k1 n k2 c hd
    split at hs
    · rename_i zs i hz hi
      obtain ⟨z, hz1, hz2⟩ := zeroA_ok (φ := φ) hz
      split at hs
      · rename_i hh
        obtain ⟨h0, h1, h2, h3, h4⟩ := hh
        injection hs with hs; subst hs
        cases hn; cases hc
        have hcb : c ≤ 281474976710656 := by
          have : (1 : Int) * c ≤ i.bytes * c := Int.mul_le_mul_of_nonneg_right (by omega) (by omega)
          omega
        have hnw : IntKind.i64.wrap n = n := IntWalk.i64_in _ (by omega)
        have hcw : IntKind.i64.wrap c = c := IntWalk.i64_in _ (by omega)
        have hl := aZeros_length zs (c.toNat * i.size)
        have hzz := aZeros_ok hz2 (c.toNat * i.size)
        refine born h ((Array.range (c.toNat * i.size)).map (z.cells[· % z.cells.size]!)) e (by simp [hl]) (fun j x hx => by have := hzz.get j x hx; simpa only [Array.getElem?_toList] using this) (v := .slice (some ⟨w.heap.size, 0, none⟩) n.toNat c.toNat) ?_ fun b φ' hφ => ?_
        · have hcond : ¬((decide (c < 0) || decide ((i.bytes : Int) * c > 2 ^ 48)) || decide (n < 0) || decide (n > c)) = true := by
            have e2 : ((2 : Int) ^ 48) = 281474976710656 := by decide
            simp only [e2, Bool.or_eq_true, decide_eq_true_eq]
            omega
          simp only [Instr.makeSlice, Sem.run_bind, run_under hd, Result.andThen_ok, asInt, asIntOf, Sem.run_pure, run_typeInfo hi, hnw, hcw]
          rw [if_neg hcond]
          simp only [Sem.run_bind, Sem.run_pure, Result.andThen_ok, run_askRoom, run_sizeOf hi]
          by_cases hm : c.toNat * i.size = 0
          · have e0 : ∀ f : Nat → Value, (Array.range 0).map f = #[] := fun f => by simp
            simp only [hm, if_true, Sem.run_pure, Result.andThen_ok, newRow, Sem.run_bind, run_newObj, e0]
            rfl
          · simp only [hm, if_false, Sem.run_bind, hz1, Result.andThen_ok, Sem.run_pure, newRow, run_newObj]
            rfl
        · rw [hl] at hφ
          exact .slice (o := 0) (off := 0) hφ (by omega) (fun c' hc' => by injection hc') (by simp) (.inl rfl)
      · cases hs
    · cases hs
  · cases hs
end
end Go.Ab

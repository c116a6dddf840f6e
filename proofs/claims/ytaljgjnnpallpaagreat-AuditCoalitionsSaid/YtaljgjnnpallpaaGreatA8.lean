/- All operations that call nothing, under one name; a call's function and arguments. -/
import Derived.Test.YtaljgjnnpallpaaGreatA7
set_option linter.unusedVariables false
set_option linter.unusedSimpArgs false
namespace Go.Ab
open Go.RowKit

def aParts (ts : List AV) (parts : Array (Nat × Operand)) : List (Nat × AV) := parts.toList.map fun p => (p.1, look ts p.2)
def withH (H : Heap) (r : Option AV) : Option (AV × Heap) := match r with | some v => some (v, H) | none => none
def concreteT (P : Program) (t : TypeId) : Bool := match P.underlying t with | some (.interface _) | none => false | _ => true

def aBuiltin (P : Program) (b : Builtin) (args : List AV) (tys : List TypeId) (H : Heap) : Option (AV × Heap) :=
  match b, args, tys with
  | .len, [x], [t] => withH H (aLenOf P t x)
  | .append, [s, x], [sT, xT] => aAppend P sT xT s x H
  | .copy, [d, x], [dT, _] => aCopy P dT d x H
  | .max, [x, y], _ => withH H (aMax2 x y)
  | .min, [x, y], _ => withH H (aMin2 x y)
  | _, _, _ => none

/-- An operation that calls no function: its value, and the memory behind it. -/
def aOp (P : Program) (op : Op) (ts : List AV) (H : Heap) : Option (AV × Heap) :=
  match op with
  | .move x => some (look ts x, H)
  | .assign x => some (look ts x, H)
  | .pick c a b => match look ts c with
    | .bool true => some (look ts a, H)
    | .bool false => some (look ts b, H)
    | _ => none
  | .alloc t => (bAlloc P t).map (·.at H)
  | .box t x => (bBox (look ts x)).map (·.at H)
  | .build t parts => withH H (aBuild P t (aParts ts parts))
  | .buildSlice t len parts => (bBuildSlice P t len (aParts ts parts)).map (·.at H)
  | .load t a => withH H (aLoad P t (look ts a) H)
  | .store t a x => match aStore P t (look ts a) (look ts x) H with
    | some H' => some (undefA, H')
    | none => none
  | .nilCheck x => match look ts x with
    | .ptr b o v => some (.ptr b o v, H)
    | .func f a b => some (.func f a b, H)
    | .cptr xs => some (.cptr xs, H)
    | _ => none
  | .binOp op t x y _ => withH H (aBin P op t (isC x || isC y) (look ts x) (look ts y))
  | .unOp op _ x => withH H (aUn op (look ts x))
  | .convert s d x => withH H (aConv P s d (look ts x))
  | .makeInterface t x => if concreteT P t then some (.iface t (look ts x), H) else none
  | .makeFunc (.func f) a b => some (.func f (a.toList.map (look ts)) (b.toList.map (look ts)), H)
  | .makeSlice t l c => (bMake P t (look ts l) (look ts c)).map (·.at H)
  | .slice t x lo hi mx => withH H (aSlice P t (look ts x) (lo.map (look ts)) (hi.map (look ts)) (mx.map (look ts)))
  | .fieldAddr s x f => withH H (aField P s (look ts x) f)
  | .field t x f => withH H (aFieldV P t (look ts x) f)
  | .indexAddr t x i => withH H (aIndexAddr P t (look ts x) (look ts i))
  | .index t x i => withH H (aIndexV P t (look ts x) (look ts i))
  | .extract x i => match look ts x with
    | .tuple vs => withH H vs[i]?
    | _ => none
  | .call { callee := .builtin b, args := args, argTypes := tys } => aBuiltin P b (args.toList.map (look ts)) tys.toList H
  | _ => none

def nextVal : Next → Option Value
  | .value v => some v
  | .skip => some undef
  | _ => none

section
variable {base : Nat} {w0 : World} {P : Program} {φ : Phi} {H : Heap} {w : World}

def OpDoes (base : Nat) (w0 : World) (P : Program) (φ : Phi) (H : Heap) (w : World) (s : Sem Next) (r : AV) (H' : Heap) : Prop :=
  ∃ n v w' φ', s.run P w = .ok n w' ∧ nextVal n = some v ∧ Ext base H.length φ φ' ∧ H.length ≤ H'.length ∧ Rel base w0 φ' H' w' ∧ VR φ' r v

theorem OpDoes.of_does {s : Sem Value} {r : AV} {H' : Heap} (h : Does base w0 P φ H w s r H') : OpDoes base w0 P φ H w (do pure (.value (← s))) r H' := by
  obtain ⟨v, w', φ', e1, e2, e3, e4, e5⟩ := h
  exact ⟨.value v, v, w', φ', by simp [e1], rfl, e2, e3, e4, e5⟩
theorem OpDoes.of_val (h : Rel base w0 φ H w) {s : Sem Value} {r : AV} (hs : ∃ v, s.run P w = .ok v w ∧ VR φ r v) : OpDoes base w0 P φ H w (do pure (.value (← s))) r H := by
  obtain ⟨v, h1, h2⟩ := hs
  exact ⟨.value v, v, w, φ, by simp [h1], rfl, Ext.refl _ _ _, Nat.le_refl _, h, h2⟩
theorem withH_some {r : Option AV} {v : AV} {H H' : Heap} (h : withH H r = some (v, H')) : r = some v ∧ H' = H := by
  cases r <;> simp [withH] at h
  exact ⟨by rw [h.1], h.2.symm⟩

theorem parts_fst (ts : List AV) (a : Act) (parts : Array (Nat × Operand)) : (aParts ts parts).map (·.1) = (parts.map fun (i, x) => (i, a.eval x)).toList.map (·.1) := by
  simp [aParts]
theorem parts_snd {ts : List AV} {a : Act} (parts : Array (Nat × Operand)) (hl : ∀ x, x ∈ parts.toList.map (·.2) → VR φ (look ts x) (a.eval x)) : VRs φ ((aParts ts parts).map (·.2)) ((parts.map fun (i, x) => (i, a.eval x)).toList.map (·.2)) := by
  simp only [aParts, Array.toList_map, List.map_map]
  revert hl
  induction parts.toList with
  | nil => intro hl; exact .nil
  | cons p l ih => intro hl; exact .cons (hl p.2 (by simp)) (ih fun x hx => hl x (by rw [List.map_cons]; exact List.mem_cons_of_mem _ hx))
theorem looks {ts : List AV} {a : Act} : ∀ xs : List Operand, (∀ x, x ∈ xs → VR φ (look ts x) (a.eval x)) → VRs φ (xs.map (look ts)) (xs.map a.eval)
  | [], _ => .nil
  | x :: xs, hl => .cons (hl x (by simp)) (looks xs fun y hy => hl y (by simp [hy]))
theorem lookO {ts : List AV} {a : Act} : ∀ x : Option Operand, (∀ y, x = some y → VR φ (look ts y) (a.eval y)) → OR φ (x.map (look ts)) (x.map a.eval)
  | none, _ => .none
  | some x, hl => .some (hl x rfl)

theorem aOp_ok (h : Rel base w0 φ H w) {ts : List AV} {a : Act} (o : Oper) (hl : ∀ x, x ∈ o.op.operands → VR φ (look ts x) (a.eval x)) {r : AV} {H' : Heap} (hs : aOp P o.op ts H = some (r, H')) : OpDoes base w0 P φ H w (execOp a.eval o) r H' := by
  obtain ⟨dst, op, ty, pos, after, guard⟩ := o
  cases op <;> simp only [aOp] at hs
  case move x =>
    injection hs with hs; injection hs with e1 e2; subst e1; subst e2
    exact ⟨.value (a.eval x), _, w, φ, rfl, rfl, Ext.refl _ _ _, Nat.le_refl _, h, hl x (by simp [Op.operands, Call.operands])⟩
  case assign x =>
    injection hs with hs; injection hs with e1 e2; subst e1; subst e2
    exact ⟨.value (a.eval x), _, w, φ, rfl, rfl, Ext.refl _ _ _, Nat.le_refl _, h, hl x (by simp [Op.operands, Call.operands])⟩
  case pick c x y =>
    have hc := hl c (by simp [Op.operands, Call.operands])
    split at hs
    · rename_i he
      rw [he] at hc
      injection hs with hs; injection hs with e1 e2; subst e1; subst e2
      generalize hv : a.eval c = cv at hc
      cases hc
      exact ⟨.value (a.eval x), _, w, φ, by simp [execOp, hv, asBool], rfl, Ext.refl _ _ _, Nat.le_refl _, h, hl x (by simp [Op.operands, Call.operands])⟩
    · rename_i he
      rw [he] at hc
      injection hs with hs; injection hs with e1 e2; subst e1; subst e2
      generalize hv : a.eval c = cv at hc
      cases hc
      exact ⟨.value (a.eval y), _, w, φ, by simp [execOp, hv, asBool], rfl, Ext.refl _ _ _, Nat.le_refl _, h, hl y (by simp [Op.operands, Call.operands])⟩
    · cases hs
  case alloc t =>
    obtain ⟨b, hb, e⟩ := Option.map_eq_some_iff.1 hs
    injection e with e1 e2; subst e1; subst e2
    exact .of_does ((bAlloc_ok h hb _).does h)
  case box t x =>
    obtain ⟨b, hb, e⟩ := Option.map_eq_some_iff.1 hs
    injection e with e1 e2; subst e1; subst e2
    exact .of_does ((bBox_ok h (hl x (by simp [Op.operands, Call.operands])) hb).does h)
  case build t parts =>
    obtain ⟨e1, rfl⟩ := withH_some hs
    exact .of_val h (aBuild_ok (parts_fst ts a parts) (parts_snd parts fun x hx => hl x (by simpa [Op.operands] using hx)) e1)
  case buildSlice t len parts =>
    obtain ⟨b, hb, e⟩ := Option.map_eq_some_iff.1 hs
    injection e with e1 e2; subst e1; subst e2
    exact .of_does ((bBuildSlice_ok h (parts_fst ts a parts) (parts_snd parts fun x hx => hl x (by simpa [Op.operands] using hx)) hb).does h)
  case load t x =>
    obtain ⟨e1, rfl⟩ := withH_some hs
    exact .of_val h (aLoad_ok h (hl x (by simp [Op.operands, Call.operands])) e1)
  case store t x y =>
    split at hs
    · rename_i H2 he
      injection hs with hs; injection hs with e1 e2; subst e1; subst e2
      obtain ⟨w', f1, f2, f3⟩ := aStore_ok (P := P) h (hl x (by simp [Op.operands, Call.operands])) (hl y (by simp [Op.operands, Call.operands])) he
      exact ⟨.skip, undef, w', φ, by simp [execOp, f1], rfl, Ext.refl _ _ _, by omega, f2, .tuple .nil⟩
    · cases hs
  case nilCheck x =>
    have hx := hl x (by simp [Op.operands, Call.operands])
    split at hs
    · rename_i b off ver he
      rw [he] at hx
      injection hs with hs; injection hs with e1 e2; subst e1; subst e2
      generalize hv : a.eval x = xv at hx
      cases hx with
      | ptr hφ => exact ⟨.value _, _, w, φ, by simp [execOp, hv], rfl, Ext.refl _ _ _, Nat.le_refl _, h, .ptr hφ⟩
    · rename_i f p q he
      rw [he] at hx
      injection hs with hs; injection hs with e1 e2; subst e1; subst e2
      generalize hv : a.eval x = xv at hx
      cases hx with
      | func h1 h2 => exact ⟨.value _, _, w, φ, by simp [execOp, hv], rfl, Ext.refl _ _ _, Nat.le_refl _, h, .func h1 h2⟩
    · rename_i xs he
      rw [he] at hx
      injection hs with hs; injection hs with e1 e2; subst e1; subst e2
      generalize hv : a.eval x = xv at hx
      cases hx with
      | cptr hk hxs => exact ⟨.value _, _, w, φ, by simp [execOp, hv], rfl, Ext.refl _ _ _, Nat.le_refl _, h, .cptr hk hxs⟩
    · cases hs
  case binOp op t x y yt =>
    obtain ⟨e1, rfl⟩ := withH_some hs
    exact .of_val h (aBin_ok (hl x (by simp [Op.operands, Call.operands])) (hl y (by simp [Op.operands, Call.operands])) e1)
  case unOp op t x =>
    obtain ⟨e1, rfl⟩ := withH_some hs
    exact .of_val h (aUn_ok (hl x (by simp [Op.operands, Call.operands])) e1)
  case convert s d x =>
    obtain ⟨e1, rfl⟩ := withH_some hs
    exact .of_val h (aConv_ok (hl x (by simp [Op.operands, Call.operands])) e1)
  case makeInterface t x =>
    split at hs
    · rename_i hc
      injection hs with hs; injection hs with e1 e2; subst e1; subst e2
      refine .of_val h ⟨.iface t (a.eval x), ?_, .iface (hl x (by simp [Op.operands, Call.operands]))⟩
      unfold concreteT at hc
      cases hd : P.underlying t with
      | none => simp [hd] at hc
      | some d =>
        cases d <;> first
          | (simp [hd] at hc; done)
          | simp [Instr.makeInterface, run_under hd]
    · cases hs
  case makeFunc fn p q =>
    cases fn <;> simp only [aOp] at hs
    case func f =>
      injection hs with hs; injection hs with e1 e2; subst e1; subst e2
      refine .of_val h ⟨.func (.func f) (p.map a.eval) (q.map a.eval), rfl, .func ?_ ?_⟩
      · rw [Array.toList_map]; exact looks _ fun x hx => hl x (by simp [Op.operands]; left; simpa using hx)
      · rw [Array.toList_map]; exact looks _ fun x hx => hl x (by simp [Op.operands]; right; simpa using hx)
    all_goals cases hs
  case makeSlice t l c =>
    obtain ⟨b, hb, e⟩ := Option.map_eq_some_iff.1 hs
    injection e with e1 e2; subst e1; subst e2
    exact .of_does ((bMake_ok h (hl l (by simp [Op.operands, Call.operands])) (hl c (by simp [Op.operands, Call.operands])) hb).does h)
  case slice t x lo hi mx =>
    obtain ⟨e1, rfl⟩ := withH_some hs
    exact .of_val h (aSlice_ok (hl x (by simp [Op.operands, Call.operands])) (lookO lo fun y hy => hl y (by simp [Op.operands, hy])) (lookO hi fun y hy => hl y (by simp [Op.operands, hy])) (lookO mx fun y hy => hl y (by simp [Op.operands, hy])) e1)
  case fieldAddr s x f =>
    obtain ⟨e1, rfl⟩ := withH_some hs
    exact .of_val h (aField_ok (hl x (by simp [Op.operands, Call.operands])) e1)
  case field t x f =>
    obtain ⟨e1, rfl⟩ := withH_some hs
    exact .of_val h (aFieldV_ok (hl x (by simp [Op.operands, Call.operands])) e1)
  case indexAddr t x i =>
    obtain ⟨e1, rfl⟩ := withH_some hs
    exact .of_val h (aIndexAddr_ok (hl x (by simp [Op.operands, Call.operands])) (hl i (by simp [Op.operands, Call.operands])) e1)
  case index t x i =>
    obtain ⟨e1, rfl⟩ := withH_some hs
    exact .of_val h (aIndexV_ok (hl x (by simp [Op.operands, Call.operands])) (hl i (by simp [Op.operands, Call.operands])) e1)
  case extract x i =>
    have hx := hl x (by simp [Op.operands, Call.operands])
    split at hs
    · rename_i vs he
      rw [he] at hx
      obtain ⟨e1, rfl⟩ := withH_some hs
      generalize hv : a.eval x = xv at hx
      cases hx with
      | tuple hx =>
        obtain ⟨y, y1, y2⟩ := hx.get i r e1
        simp at y1
        refine .of_val h ⟨y, ?_, y2⟩
        rw [hv]
        simp [Instr.extract, y1]
    · cases hs
  case call c =>
    obtain ⟨callee, args, tys⟩ := c
    cases callee <;> simp only [aOp] at hs
    case builtin b =>
      obtain ⟨cs, key⟩ : ∃ cs, ∀ w, (execOp a.eval { dst := dst, op := .call { callee := .builtin b, args := args, argTypes := tys }, type := ty, pos := pos, after := after, guard := guard }).run P w = (builtin b tys ty cs (args.map a.eval)).run P w := ⟨_, fun w => by
        simp only [execOp, resolve, invoke, Sem.run_bind, Sem.run_pure, Result.andThen_ok]
        rfl⟩
      have key2 : ∀ {r : AV} {H' : Heap}, OpDoes base w0 P φ H w (builtin b tys ty cs (args.map a.eval)) r H' → OpDoes base w0 P φ H w (execOp a.eval { dst := dst, op := .call { callee := .builtin b, args := args, argTypes := tys }, type := ty, pos := pos, after := after, guard := guard }) r H' := by
        rintro r H' ⟨n, v, w', φ', e1, e2⟩
        exact ⟨n, v, w', φ', (key w).trans e1, e2⟩
      refine key2 ?_
      unfold aBuiltin at hs
      split at hs
      · rename_i x t ha hty
        obtain ⟨e1, rfl⟩ := withH_some hs
        obtain ⟨x0, hx0, rfl⟩ : ∃ x0, args.toList = [x0] ∧ look ts x0 = x := by
          cases hl : args.toList with
          | nil => rw [hl] at ha; simp at ha
          | cons y l => rw [hl] at ha; cases l <;> simp at ha; exact ⟨y, rfl, ha⟩
        have h1 : args = #[x0] := by rw [← Array.toList_inj]; simp [hx0]
        have h2 : tys = #[t] := by rw [← Array.toList_inj]; simp [hty]
        subst h1; subst h2
        rw [show (#[x0] : Array Operand).map a.eval = #[a.eval x0] by simp]
        exact .of_val h (aLenOf_ok ty (hl x0 (by simp [Op.operands, Call.operands])) e1)
      · rename_i s x sT xT ha hty
        obtain ⟨s0, x0, hx0, rfl, rfl⟩ : ∃ s0 x0, args.toList = [s0, x0] ∧ look ts s0 = s ∧ look ts x0 = x := by
          cases hl : args.toList with
          | nil => rw [hl] at ha; simp at ha
          | cons y l => rw [hl] at ha; cases l with
            | nil => simp at ha
            | cons z l => cases l <;> simp at ha; exact ⟨y, z, rfl, ha.1, ha.2⟩
        have h1 : args = #[s0, x0] := by rw [← Array.toList_inj]; simp [hx0]
        have h2 : tys = #[sT, xT] := by rw [← Array.toList_inj]; simp [hty]
        subst h1; subst h2
        rw [show (#[s0, x0] : Array Operand).map a.eval = #[a.eval s0, a.eval x0] by simp]
        exact .of_does (aAppend_ok h ty (hl s0 (by simp [Op.operands, Call.operands])) (hl x0 (by simp [Op.operands, Call.operands])) hs)
      · rename_i s x sT xT ha hty
        obtain ⟨s0, x0, hx0, rfl, rfl⟩ : ∃ s0 x0, args.toList = [s0, x0] ∧ look ts s0 = s ∧ look ts x0 = x := by
          cases hl : args.toList with
          | nil => rw [hl] at ha; simp at ha
          | cons y l => rw [hl] at ha; cases l with
            | nil => simp at ha
            | cons z l => cases l <;> simp at ha; exact ⟨y, z, rfl, ha.1, ha.2⟩
        have h1 : args = #[s0, x0] := by rw [← Array.toList_inj]; simp [hx0]
        have h2 : tys = #[sT, xT] := by rw [← Array.toList_inj]; simp [hty]
        subst h1; subst h2
        rw [show (#[s0, x0] : Array Operand).map a.eval = #[a.eval s0, a.eval x0] by simp]
        exact .of_does (aCopy_ok h ty (hl s0 (by simp [Op.operands, Call.operands])) (hl x0 (by simp [Op.operands, Call.operands])) hs)
      · rename_i s x ha
        obtain ⟨e1, rfl⟩ := withH_some hs
        obtain ⟨s0, x0, hx0, rfl, rfl⟩ : ∃ s0 x0, args.toList = [s0, x0] ∧ look ts s0 = s ∧ look ts x0 = x := by
          cases hl : args.toList with
          | nil => rw [hl] at ha; simp at ha
          | cons y l => rw [hl] at ha; cases l with
            | nil => simp at ha
            | cons z l => cases l <;> simp at ha; exact ⟨y, z, rfl, ha.1, ha.2⟩
        have h1 : args = #[s0, x0] := by rw [← Array.toList_inj]; simp [hx0]
        subst h1
        rw [show (#[s0, x0] : Array Operand).map a.eval = #[a.eval s0, a.eval x0] by simp]
        exact .of_val h (aMax2_ok (hl s0 (by simp [Op.operands, Call.operands])) (hl x0 (by simp [Op.operands, Call.operands])) e1)
      · rename_i s x ha
        obtain ⟨e1, rfl⟩ := withH_some hs
        obtain ⟨s0, x0, hx0, rfl, rfl⟩ : ∃ s0 x0, args.toList = [s0, x0] ∧ look ts s0 = s ∧ look ts x0 = x := by
          cases hl : args.toList with
          | nil => rw [hl] at ha; simp at ha
          | cons y l => rw [hl] at ha; cases l with
            | nil => simp at ha
            | cons z l => cases l <;> simp at ha; exact ⟨y, z, rfl, ha.1, ha.2⟩
        have h1 : args = #[s0, x0] := by rw [← Array.toList_inj]; simp [hx0]
        subst h1
        rw [show (#[s0, x0] : Array Operand).map a.eval = #[a.eval s0, a.eval x0] by simp]
        exact .of_val h (aMin2_ok (hl s0 (by simp [Op.operands, Call.operands])) (hl x0 (by simp [Op.operands, Call.operands])) e1)
      · cases hs
    all_goals cases hs
  all_goals cases hs

/-! #### births -/
def bOp (P : Program) (op : Op) (ts : List AV) : Option Birth :=
  match op with
  | .alloc t => bAlloc P t
  | .box t x => bBox (look ts x)
  | .buildSlice t len parts => bBuildSlice P t len (aParts ts parts)
  | .makeSlice t l c => bMake P t (look ts l) (look ts c)
  | _ => none
theorem bOp_aOp {op : Op} {ts : List AV} {b : Birth} (h : bOp P op ts = some b) (H : Heap) : aOp P op ts H = some (b.at H) := by
  cases op <;> simp only [bOp] at h
  all_goals first
    | (simp only [aOp, h]; rfl)
    | cases h
theorem bOp_ok (h : Rel base w0 φ H w) {ts : List AV} {a : Act} (o : Oper) (hl : ∀ x, x ∈ o.op.operands → VR φ (look ts x) (a.eval x)) {b : Birth} (hs : bOp P o.op ts = some b) :
    ∃ s : Sem Value, execOp a.eval o = (do pure (.value (← s))) ∧ Born base w0 P φ H w s b.1 b.2 := by
  obtain ⟨dst, op, ty, pos, after, guard⟩ := o
  cases op <;> simp only [bOp] at hs
  case alloc t => exact ⟨_, rfl, bAlloc_ok h hs _⟩
  case box t x => exact ⟨_, rfl, bBox_ok h (hl x (by simp [Op.operands])) hs⟩
  case buildSlice t len parts => exact ⟨_, rfl, bBuildSlice_ok h (parts_fst ts a parts) (parts_snd parts fun x hx => hl x (by simpa [Op.operands] using hx)) hs⟩
  case makeSlice t l c => exact ⟨_, rfl, bMake_ok h (hl l (by simp [Op.operands])) (hl c (by simp [Op.operands])) hs⟩
  all_goals cases hs
end
end Go.Ab

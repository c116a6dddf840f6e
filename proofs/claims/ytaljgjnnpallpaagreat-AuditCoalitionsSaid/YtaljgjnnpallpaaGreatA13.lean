/- What a proof that goes through a function's text wants: the rules in the form in which they are applied, and what is worked out by simp. -/
import Derived.Test.YtaljgjnnpallpaaGreatA12
set_option linter.unusedVariables false
set_option linter.unusedSimpArgs false
namespace Go.Ab
open Go.RowKit

/-! ### forgetting -/
theorem Weak.refl (x : AV) : Weak x x := fun _ _ h => h
theorem Weak.of_eq {x y : AV} (h : x = y) : Weak x y := h ▸ Weak.refl x
theorem Weak.unk (x : AV) : Weak x .unk := fun _ v _ => .unk v
theorem Weak.vals (sz : Nat) (xs : List AV) (b : Bool) : Weak (.vals sz xs b) (.vals sz xs false) := fun _ _ h => by
  cases h with
  | vals hk h hl hC ha => exact .vals hk h hl hC (ha.imp id fun ⟨h1, h2⟩ => ⟨h1, fun e => ⟨rfl, (h2 e).2⟩⟩)
theorem Weak.nilSlice (sz : Nat) : Weak .nilSlice (.vals sz [] false) := fun _ _ h => by
  cases h
  exact .vals (B := 0) (o := 0) (ys := []) (fun i y e => by simp at e) .nil (by simp) (Nat.le_refl _) (.inr ⟨rfl, fun _ => ⟨rfl, rfl⟩⟩)
theorem Weak.trans {x y z : AV} (h : Weak x y) (k : Weak y z) : Weak x z := fun φ v e => k φ v (h φ v e)
/-- Lists, one by one. -/
inductive WeakL : List AV → List AV → Prop
  | nil : WeakL [] []
  | cons {x y : AV} {xs ys : List AV} (h : Weak x y) (t : WeakL xs ys) : WeakL (x :: xs) (y :: ys)
theorem WeakL.refl : ∀ xs : List AV, WeakL xs xs
  | [] => .nil
  | x :: xs => .cons (Weak.refl x) (WeakL.refl xs)
theorem WeakL.ok {φ : Phi} : ∀ {xs ys : List AV} {vs : List Value}, WeakL xs ys → VRs φ xs vs → VRs φ ys vs
  | _, _, _, .nil, .nil => .nil
  | _, _, _, .cons h t, .cons a b => .cons (h _ _ a) (t.ok b)
theorem Weak.tuple {xs ys : List AV} (h : WeakL xs ys) : Weak (.tuple xs) (.tuple ys) := fun _ _ e => by cases e with | tuple e => exact .tuple (h.ok e)
theorem Weak.agg {xs ys : List AV} (h : WeakL xs ys) : Weak (.agg xs) (.agg ys) := fun _ _ e => by cases e with | agg e => exact .agg (h.ok e)

theorem info_of {P : Program} {t : TypeId} {i : TypeInfo} (h : P.types[t]? = some i) : P.info? t = some i := by
  unfold Tables.info?
  rw [if_pos (Array.getElem?_eq_some_iff.1 h).1]; exact h
theorem enters_of {P : Program} {f : FuncId} {fn : Func} (h : P.funcs[f]? = some fn) (hb : (!(fn.name == "runtime.NumGoroutine") && fn.body.isSome) = true) : enters P f = true := by
  rw [enters, h]; exact hb
theorem hasT_of {P : Program} {t : TypeId} {i : TypeInfo} (h : P.info? t = some i) : hasT P t = true := by rw [hasT, h]; rfl
theorem sizeT_of {P : Program} {t : TypeId} {i : TypeInfo} (h : P.info? t = some i) {n : Nat} (hn : i.size = n) : sizeT P t = n := by rw [sizeT, h]; exact hn
theorem zeroA_of {P : Program} {t : TypeId} {i : TypeInfo} (h : P.info? t = some i) {zs : List AV} (hz : (match i.zero with | some z => (match ofV 4 z with | .unk => none | v => some v.cells) | none => none) = some zs) : zeroA P t = some zs := by
  rw [zeroA, h]; exact hz

section
variable {P : Program} {n0 : N0} {ts ts' : List AV} {H H' : Heap} {Q : Ex → List AV → Heap → Prop}

theorem Le.temps (h : WeakL ts ts') : Le n0 ts H ts' H := fun _ _ _ _ _ φ s => ⟨φ, s.rel, h.ok s.tr, s.ext, s.le, s.dom0, s.domZ⟩

/-- The blocks from n on are given up. -/
theorem Le.lower (n k : Nat) (hn : n0.n ≤ n) (hl : n ≤ H.length) : Le n0 ts H (ts.map (cv n H k)) (lower n k H) := fun base w0 φ0 a w φ s =>
  ⟨lowPhi φ H w n, s.rel.lower n k, VRs.map_to _ (cv_ok s.rel n k) s.tr, s.ext.lower s.rel (fun b v X e => (s.dom0 b v X e).1) s.domZ hn, by simp [Go.Ab.lower]; omega, s.dom0, s.domZ⟩

/-! ### rules -/
def itemsT (ops : Array Oper) : List Item := ops.toList.map fun o => ⟨o, kindOf o.op, o.guard.bind fun g => (ops[g.1]?).bind (·.dst)⟩
theorem itemsT_eq (ops : Array Oper) : items ops (List.range ops.size) (ops.toList.map fun o => kindOf o.op) = itemsT ops := by
  refine List.ext_getElem? fun i => ?_
  unfold items itemsT
  rw [List.getElem?_map, List.getElem?_map]
  rcases Nat.lt_or_ge i ops.size with hi | hi
  · have hz : ((List.range ops.size).zip (ops.toList.map fun o => kindOf o.op))[i]? = some (i, kindOf ops[i].op) := List.getElem?_zip_eq_some.2 ⟨List.getElem?_range hi, by simp [hi]⟩
    rw [hz, Array.getElem?_toList, Array.getElem?_eq_getElem hi]
    simp [hi]
  · rw [List.getElem?_eq_none (by simp; omega), List.getElem?_eq_none (by simp; omega)]
    rfl
/-- A region in the order of its text, and on. -/
theorem W.text {id : Nat} {ops : Array Oper} (h : WD P (itemsT ops) [] ts H fun _ te He => Q .normal te He) : W P n0 (.region id ops false) ts H Q :=
  W.plain (ops.toList.map fun o => kindOf o.op) (by simp) (by rw [itemsT_eq]; exact h)
theorem W.then {id : Nat} {ops : Array Oper} {y : Code} (h : WD P (itemsT ops) [] ts H fun _ te He => te = ts' ∧ He = H') (hy : W P n0 y ts' H' Q) : W P n0 (.seq (.region id ops false) y) ts H Q :=
  .seq ((W.text (Q := fun e te He => e = .normal ∧ te = ts' ∧ He = H') (h := by simpa using h)).weaken fun e te He ⟨e1, e2, e3⟩ => by subst e1; subst e2; subst e3; exact hy)
theorem W.last {id : Nat} {ops : Array Oper} (h : WD P (itemsT ops) [] ts H fun _ te He => te = ts' ∧ He = H') (hq : Q .normal ts' H') : W P n0 (.region id ops false) ts H Q :=
  ((W.text (Q := fun e te He => e = .normal ∧ te = ts' ∧ He = H') (h := by simpa using h)).weaken fun e te He ⟨e1, e2, e3⟩ => by subst e1; subst e2; subst e3; exact hq)
theorem W.drawThen {id : Nat} {ops : Array Oper} {y : Code} (ord : List Nat) (kds : List Kd) (bs : List (List Nat)) (hm : P.follows .mixedOrders = true) (hs : schedOk ops ord kds bs [] = true)
    (h : WD P (items ops ord kds) [] ts H fun _ te He => te = ts' ∧ He = H') (hy : W P n0 y ts' H' Q) : W P n0 (.seq (.region id ops true) y) ts H Q :=
  .seq ((W.draw ord kds bs [] (Q := fun e te He => e = .normal ∧ te = ts' ∧ He = H') hm hs (by simpa using h)).weaken fun e te He ⟨e1, e2, e3⟩ => by subst e1; subst e2; subst e3; exact hy)
theorem W.drawLast {id : Nat} {ops : Array Oper} (ord : List Nat) (kds : List Kd) (bs : List (List Nat)) (hm : P.follows .mixedOrders = true) (hs : schedOk ops ord kds bs [] = true)
    (h : WD P (items ops ord kds) [] ts H fun _ te He => te = ts' ∧ He = H') (hq : Q .normal ts' H') : W P n0 (.region id ops true) ts H Q :=
  ((W.draw ord kds bs [] (Q := fun e te He => e = .normal ∧ te = ts' ∧ He = H') hm hs (by simpa using h)).weaken fun e te He ⟨e1, e2, e3⟩ => by subst e1; subst e2; subst e3; exact hq)
theorem W.skipThen {y : Code} (hy : W P n0 y ts H Q) : W P n0 (.seq .skip y) ts H Q := .seq (.skip hy)
theorem W.ifB {c : Operand} {x y : Code} {b : Bool} (hc : look ts c = .bool b) (h1 : b = true → W P n0 x ts H Q) (h2 : b = false → W P n0 y ts H Q) : W P n0 (.cond c x y) ts H Q := by
  refine W.cond hc ?_
  cases b
  · exact h2 rfl
  · exact h1 rfl
theorem W.condT {c : Operand} {x y : Code} (hc : look ts c = .bool true) (h : W P n0 x ts H Q) : W P n0 (.cond c x y) ts H Q := W.cond hc h
theorem W.condF {c : Operand} {x y : Code} (hc : look ts c = .bool false) (h : W P n0 y ts H Q) : W P n0 (.cond c x y) ts H Q := W.cond hc h
theorem W.ifP {c : Operand} {x y : Code} {p : Prop} [Decidable p] (hc : look ts c = .bool (decide p)) (h1 : p → W P n0 x ts H Q) (h2 : ¬ p → W P n0 y ts H Q) : W P n0 (.cond c x y) ts H Q :=
  .ifB hc (fun h => h1 (of_decide_eq_true h)) fun h => h2 (of_decide_eq_false h)

theorem W.ifN {c : Operand} {x y : Code} {p : Prop} [Decidable p] (hc : look ts c = .bool (!decide p)) (h1 : ¬ p → W P n0 x ts H Q) (h2 : p → W P n0 y ts H Q) : W P n0 (.cond c x y) ts H Q :=
  .ifB hc (fun h => h1 (of_decide_eq_false (by simpa using h))) fun h => h2 (of_decide_eq_true (by simpa using h))

/-- The temporaries that are kept; the others are forgotten. -/
def havocFrom (keep : List Nat) : Nat → List AV → List AV
  | _, [] => []
  | i, x :: xs => (if keep.contains i then x else .unk) :: havocFrom keep (i + 1) xs
def havoc (keep : List Nat) (ts : List AV) : List AV := havocFrom keep 0 ts
theorem weakL_havoc (keep : List Nat) : ∀ (ts : List AV) (i : Nat), WeakL ts (havocFrom keep i ts)
  | [], _ => .nil
  | x :: xs, i => by
    unfold havocFrom
    refine .cons ?_ (weakL_havoc keep xs (i + 1))
    split
    · exact Weak.refl x
    · exact Weak.unk x
theorem Le.havoc (keep : List Nat) : Le n0 ts H (havoc keep ts) H := Le.temps (weakL_havoc keep ts 0)
/-- Temporaries: those that are told; the others aren't known. -/
def frame (n : Nat) (l : List (Nat × AV)) : List AV := l.foldl (fun ts p => ts.set p.1 p.2) (List.replicate n .unk)

theorem W.loopK {c : Code} (keep : List Nat) (I : Nat → List AV → Heap → Prop) (h0 : ∃ n, I n (havoc keep ts) H)
    (round : ∀ n ts H, I n ts H → W P n0 c ts H (thenA (fun ts' H' => ∃ m, m < n ∧ I m (havoc keep ts') H') Q)) : W P n0 (.loop c) ts H Q :=
  W.loop I (let ⟨n, h⟩ := h0; ⟨n, _, _, Le.havoc keep, h⟩) fun n ts H h => (round n ts H h).weaken fun e ts' H' q => by
    cases e with
    | normal => obtain ⟨m, h1, h2⟩ := q; exact ⟨m, _, _, h1, Le.havoc keep, h2⟩
    | exit id => exact q
    | ret => exact q

theorem pure_of_W {f : FuncId} {fn : Func} {c : Code} {args : List AV} {r : AV} (hf : P.funcs[f]? = some fn) (hb : fn.body = some c)
    (h : W P 0 c (args ++ List.replicate (fn.ntmps - args.length) undefA) [] fun e ts H1 => (e = .normal ∨ e = .ret) ∧ ∃ r0, aResults P fn ts H1 = some r0 ∧ Weak (cv 0 H1 8 r0) r) : PureCall P f args r :=
  sound_of_W hf hb (h.weaken fun e ts H1 ⟨h1, r0, h2, h3⟩ => ⟨h1, r0, 0, 8, Nat.zero_le _, h2, h3, by simp [Go.Ab.lower], Nat.le_refl _⟩)
end

attribute [simp] havoc havocFrom frame WD wantG isCall keeps kindOf items itemsT putA look ofV aOp bOp withH aParts aBuiltin concreteT isC aBin aInt aIsNil aEqNe aUn aConv aLoad aStore isAggD splice aField aFieldV aPart aIndexAddr aIndexV aLo aHi aSlice aLen aCellsOf aLenS isIntD aNewRow aAppendTo aAppend aCopy aLenOf aMax2 aMin2 bNew bBox bAlloc bBuildSlice bMake aBuild aFill aZeros AV.cells AV.known AV.one aResults aResultL aResult aTarget pv cv lower cvO thenA inBlockA
end Go.Ab

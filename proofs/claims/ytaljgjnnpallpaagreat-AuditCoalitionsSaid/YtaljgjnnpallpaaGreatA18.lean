/- Going through an iterator's text by simp. -/
import Derived.Test.YtaljgjnnpallpaaGreatA17
set_option linter.unusedVariables false
set_option linter.unusedSimpArgs false
namespace Go.Ab
open Go.RowKit

def GPL (P : Program) (y : Nat) (xs : List (List AV)) : List Oper → List AV → Nat → (List AV → Nat → Prop) → Prop
  | [], ts, k, K => K ts k
  | o :: rest, ts, k, K => o.guard = none ∧ (match o.op with
    | .call ⟨.value x, args, tys⟩ => look ts x = .yld y ∧ xs[k]? = some (args.toList.map (look ts)) ∧ GPL P y xs rest (putA ts o.dst (.bool true)) (k + 1) K
    | op => simpleOp op = true ∧ bindO (aOp P op ts []) (fun r _ => GPL P y xs rest (putA ts o.dst r) k K) .mk)
theorem GPL_ok {P : Program} {y : Nat} {xs : List (List AV)} {ops : Array Oper} {K : List AV → Nat → Prop} : ∀ (d p : Nat) (ts : List AV) (k : Nat), p + d = ops.size → GPL P y xs (ops.toList.drop p) ts k K → GP P y xs ops ((List.range ops.size).drop p) ts k K
  | 0, p, ts, k, hp, h => by
    rw [List.drop_eq_nil_of_le (by simp; omega)] at h ⊢
    exact h
  | d + 1, p, ts, k, hp, h => by
    have hlt : p < ops.size := by omega
    rw [List.drop_eq_getElem_cons (by simpa using hlt)] at h ⊢
    simp only [List.getElem_range, Array.getElem_toList] at h ⊢
    have ih : ∀ ts k, GPL P y xs (ops.toList.drop (p + 1)) ts k K → GP P y xs ops ((List.range ops.size).drop (p + 1)) ts k K := fun ts k h => GPL_ok d (p + 1) ts k (by omega) h
    generalize ho : ops[p] = o at h
    obtain ⟨hg, h⟩ := h
    refine ⟨o, by rw [← ho]; exact Array.getElem?_eq_getElem hlt, hg, ?_⟩
    split at h
    · rename_i x args tys hop
      obtain ⟨h1, h2, h3⟩ := h
      exact .inr ⟨x, args, tys, hop, h1, h2, ih _ _ h3⟩
    · obtain ⟨h1, h2⟩ := h
      unfold bindO at h2
      split at h2
      · rename_i q hq
        exact .inl ⟨q.1, q.2, h1, hq, ih _ _ h2⟩
      · exact h2.elim

section
variable {P : Program} {y : Nat} {xs : List (List AV)} {rest : List Oper} {n : Nat} {l : List (Nat × AV)} {k : Nat} {K : List AV → Nat → Prop} {dst : Option Tmp} {ty : TypeId} {pos : String} {after : Array Edge} {x z c : Operand} {t : TypeId} {Q : Ex → List AV → Nat → Prop}
@[go_sem] theorem GPL_nil (ts : List AV) : GPL P y xs [] ts k K = K ts k := propext ⟨fun h => h, fun h => h⟩
@[go_sem] theorem GPL_move : GPL P y xs (⟨dst, .move x, ty, pos, after, none⟩ :: rest) (E n l) k K = GPL P y xs rest (putA (E n l) dst (look (E n l) x)) k K := propext ⟨fun h => h.2.2, fun h => ⟨rfl, rfl, h⟩⟩
@[go_sem] theorem GPL_assign : GPL P y xs (⟨dst, .assign x, ty, pos, after, none⟩ :: rest) (E n l) k K = GPL P y xs rest (putA (E n l) dst (look (E n l) x)) k K := propext ⟨fun h => h.2.2, fun h => ⟨rfl, rfl, h⟩⟩
@[go_sem] theorem GPL_load : GPL P y xs (⟨dst, .load t x, ty, pos, after, none⟩ :: rest) (E n l) k K = bindO (withH [] (aLoad P t (look (E n l) x) [])) (fun r _ => GPL P y xs rest (putA (E n l) dst r) k K) .mk := propext ⟨fun h => h.2.2, fun h => ⟨rfl, rfl, h⟩⟩
@[go_sem] theorem GPL_binOp {op : BinOp} {yt : TypeId} : GPL P y xs (⟨dst, .binOp op t x z yt, ty, pos, after, none⟩ :: rest) (E n l) k K = bindO (withH [] (aBin P op t (isC x || isC z) (look (E n l) x) (look (E n l) z))) (fun r _ => GPL P y xs rest (putA (E n l) dst r) k K) .mk := propext ⟨fun h => h.2.2, fun h => ⟨rfl, rfl, h⟩⟩
@[go_sem] theorem GPL_unOp {op : UnOp} : GPL P y xs (⟨dst, .unOp op t x, ty, pos, after, none⟩ :: rest) (E n l) k K = bindO (withH [] (aUn op (look (E n l) x))) (fun r _ => GPL P y xs rest (putA (E n l) dst r) k K) .mk := propext ⟨fun h => h.2.2, fun h => ⟨rfl, rfl, h⟩⟩
@[go_sem] theorem GPL_convert {s e : TypeId} : GPL P y xs (⟨dst, .convert s e x, ty, pos, after, none⟩ :: rest) (E n l) k K = bindO (withH [] (aConv P s e (look (E n l) x))) (fun r _ => GPL P y xs rest (putA (E n l) dst r) k K) .mk := propext ⟨fun h => h.2.2, fun h => ⟨rfl, rfl, h⟩⟩
@[go_sem] theorem GPL_fieldAddr {i : Nat} : GPL P y xs (⟨dst, .fieldAddr t x i, ty, pos, after, none⟩ :: rest) (E n l) k K = bindO (withH [] (aField P t (look (E n l) x) i)) (fun r _ => GPL P y xs rest (putA (E n l) dst r) k K) .mk := propext ⟨fun h => h.2.2, fun h => ⟨rfl, rfl, h⟩⟩
@[go_sem] theorem GPL_indexAddr : GPL P y xs (⟨dst, .indexAddr t x z, ty, pos, after, none⟩ :: rest) (E n l) k K = bindO (withH [] (aIndexAddr P t (look (E n l) x) (look (E n l) z))) (fun r _ => GPL P y xs rest (putA (E n l) dst r) k K) .mk := propext ⟨fun h => h.2.2, fun h => ⟨rfl, rfl, h⟩⟩
@[go_sem] theorem GPL_index : GPL P y xs (⟨dst, .index t x z, ty, pos, after, none⟩ :: rest) (E n l) k K = bindO (withH [] (aIndexV P t (look (E n l) x) (look (E n l) z))) (fun r _ => GPL P y xs rest (putA (E n l) dst r) k K) .mk := propext ⟨fun h => h.2.2, fun h => ⟨rfl, rfl, h⟩⟩
@[go_sem] theorem GPL_field {i : Nat} : GPL P y xs (⟨dst, .field t x i, ty, pos, after, none⟩ :: rest) (E n l) k K = bindO (withH [] (aFieldV P t (look (E n l) x) i)) (fun r _ => GPL P y xs rest (putA (E n l) dst r) k K) .mk := propext ⟨fun h => h.2.2, fun h => ⟨rfl, rfl, h⟩⟩
@[go_sem] theorem GPL_len {t : TypeId} : GPL P y xs (⟨dst, .call ⟨.builtin .len, #[x], #[t]⟩, ty, pos, after, none⟩ :: rest) (E n l) k K = bindO (withH [] (aLenOf P t (look (E n l) x))) (fun r _ => GPL P y xs rest (putA (E n l) dst r) k K) .mk := propext ⟨fun h => h.2.2, fun h => ⟨rfl, rfl, h⟩⟩
@[go_sem] theorem GPL_yield {args : Array Operand} {tys : Array TypeId} : GPL P y xs (⟨dst, .call ⟨.value x, args, tys⟩, ty, pos, after, none⟩ :: rest) (E n l) k K = (look (E n l) x = .yld y ∧ xs[k]? = some (args.toList.map (look (E n l))) ∧ GPL P y xs rest (putA (E n l) dst (.bool true)) (k + 1) K) := propext ⟨fun h => h.2, fun h => ⟨rfl, h⟩⟩

theorem GP_mono {ops : Array Oper} {K K' : List AV → Nat → Prop} (hk : ∀ te ke, K te ke → K' te ke) : ∀ (is : List Nat) (ts : List AV) (k : Nat), GP P y xs ops is ts k K → GP P y xs ops is ts k K'
  | [], ts, k, h => hk _ _ h
  | i :: rest, ts, k, ⟨o, h1, h2, h⟩ => ⟨o, h1, h2, h.imp (fun ⟨r, H', a, b, c⟩ => ⟨r, H', a, b, GP_mono hk rest _ _ c⟩) fun ⟨x, args, tys, a, b, c, d⟩ => ⟨x, args, tys, a, b, c, GP_mono hk rest _ _ d⟩⟩
theorem WJ.reg {id : Nat} {ops : Array Oper} (h : GPL P y xs ops.toList (E n l) k fun te ke => Q .normal te ke) : WJ P y xs (.region id ops false) (E n l) k Q :=
  .region (by simpa using GPL_ok (K := fun te ke => Q .normal te ke) ops.size 0 (E n l) k (by omega) (by simpa using h))
theorem WJ.thn {id : Nat} {ops : Array Oper} {z : Code} {ts' : List AV} {k' : Nat} (h : GPL P y xs ops.toList (E n l) k fun te ke => te = ts' ∧ ke = k') (hz : WJ P y xs z ts' k' Q) : WJ P y xs (.seq (.region id ops false) z) (E n l) k Q :=
  .seq ((WJ.reg (Q := fun e te ke => e = .normal ∧ te = ts' ∧ ke = k') (by simpa using h)).weaken fun e te ke ⟨e1, e2, e3⟩ => by subst e1; subst e2; subst e3; exact hz)
theorem WJ.lst {id : Nat} {ops : Array Oper} {ts' : List AV} {k' : Nat} (h : GPL P y xs ops.toList (E n l) k fun te ke => te = ts' ∧ ke = k') (hq : Q .normal ts' k') : WJ P y xs (.region id ops false) (E n l) k Q :=
  (WJ.reg (Q := fun e te ke => e = .normal ∧ te = ts' ∧ ke = k') (by simpa using h)).weaken fun e te ke ⟨e1, e2, e3⟩ => by subst e1; subst e2; subst e3; exact hq
theorem WJ.ifB {c : Operand} {ts : List AV} {a b : Code} {v : Bool} (hc : look ts c = .bool v) (h1 : v = true → WJ P y xs a ts k Q) (h2 : v = false → WJ P y xs b ts k Q) : WJ P y xs (.cond c a b) ts k Q := by
  refine WJ.cond hc ?_
  cases v
  · exact h2 rfl
  · exact h1 rfl
theorem WJ.condF {c : Operand} {ts : List AV} {a b : Code} (hc : look ts c = .bool false) (h : WJ P y xs b ts k Q) : WJ P y xs (.cond c a b) ts k Q := WJ.cond hc h
theorem WJ.loopE {c : Code} (keep : List Nat) (I : Nat → List (Nat × AV) → Nat → Prop) (h0 : ∃ m, I m (keepE keep l) k)
    (round : ∀ m l k, I m l k → WJ P y xs c (E n l) k (thenJ (fun ts' k' => ∃ l' m', ts' = E n l' ∧ m' < m ∧ I m' (keepE keep l') k') Q)) : WJ P y xs (.loop c) (E n l) k Q :=
  WJ.loop (fun m ts k => ∃ l, ts = E n l ∧ I m l k) (let ⟨m, h⟩ := h0; ⟨m, _, (weakL_E fun i => by
    rcases keepE_look keep l i with h | h
    · rw [h]; exact Weak.refl _
    · rw [h]; exact Weak.unk _), _, rfl, h⟩) fun m ts k ⟨l, hl, h⟩ => by
    subst hl
    refine (round m l k h).weaken fun e ts' k' q => ?_
    cases e with
    | normal =>
      obtain ⟨l', m', h1, h2, h3⟩ := q
      subst h1
      exact ⟨m', _, h2, (weakL_E fun i => by
        rcases keepE_look keep l' i with h | h
        · rw [h]; exact Weak.refl _
        · rw [h]; exact Weak.unk _), _, rfl, h3⟩
    | exit id => exact q
    | ret => exact q
attribute [go_sem] thenJ inBlockJ
theorem setAll_E : ∀ (ps : List Tmp) (as : List AV) (n : Nat) (l : List (Nat × AV)), setAll ps as (E n l) = E n ((ps.zip as).reverse ++ l)
  | [], as, n, l => by simp [setAll]
  | p :: ps, [], n, l => by simp [setAll]
  | p :: ps, a :: as, n, l => by
    simp only [setAll, E_set, setAll_E ps as]
    simp
end
end Go.Ab

/- Going through a text by simp: temporaries as a list of what was written, newest first; operations one by one, each by a law of its own. The laws lie in the simp set go_sem. -/
import Derived.Test.YtaljgjnnpallpaaGreatA13
set_option linter.unusedVariables false
set_option linter.unusedSimpArgs false
namespace Go.Ab
open Go.RowKit

/-! ### temporaries -/
def lookE : List (Nat × AV) → Nat → AV
  | [], _ => .unk
  | (d, v) :: l, i => if d = i then v else lookE l i
/-- n temporaries: what was written, newest first; the others aren't known. -/
def E (n : Nat) (l : List (Nat × AV)) : List AV := (List.range n).map (lookE l)
theorem E_length (n : Nat) (l : List (Nat × AV)) : (E n l).length = n := by simp [E]
theorem E_get (n : Nat) (l : List (Nat × AV)) (t : Nat) : (E n l)[t]? = if t < n then some (lookE l t) else none := by
  unfold E
  rw [List.getElem?_map]
  split
  · rename_i h; rw [List.getElem?_range h]; rfl
  · rename_i h; rw [List.getElem?_eq_none (by simp; omega)]; rfl
theorem E_set (n : Nat) (l : List (Nat × AV)) (d : Nat) (v : AV) : (E n l).set d v = E n ((d, v) :: l) := by
  apply List.ext_getElem?
  intro i
  rw [E_get, List.getElem?_set, E_length, E_get]
  by_cases h : d = i
  · subst h
    simp [lookE]
  · simp [h, lookE]
theorem E_getD (n : Nat) (l : List (Nat × AV)) (t : Nat) : (E n l).getD t undefA = if t < n then lookE l t else undefA := by
  rw [List.getD_eq_getElem?_getD, E_get]
  split <;> rfl
@[go_sem] theorem look_E (n : Nat) (l : List (Nat × AV)) (t : Nat) : look (E n l) (.tmp t) = if t < n then lookE l t else undefA := E_getD n l t
@[go_sem] theorem look_func (ts : List AV) (f : FuncId) : look ts (.func f) = .func f [] [] := rfl
@[go_sem] theorem look_int (ts : List AV) (k : IntKind) (n : Int) : look ts (.const (.int k n)) = .int k n := rfl
@[go_sem] theorem look_bool (ts : List AV) (b : Bool) : look ts (.const (.bool b)) = .bool b := rfl
@[go_sem] theorem look_str (ts : List AV) (b : ByteArray) : look ts (.const (.string b)) = .str b := rfl
@[go_sem] theorem look_nilS (ts : List AV) : look ts (.const (.slice none 0 0)) = .nilSlice := rfl
@[go_sem] theorem look_nilP (ts : List AV) : look ts (.const (.pointer none)) = .nilPtr := rfl
@[go_sem] theorem look_nilF (ts : List AV) : look ts (.const .nilFunc) = .nilFunc := rfl
@[go_sem] theorem look_nilI (ts : List AV) : look ts (.const .nilIface) = .nilIface := rfl
@[go_sem] theorem look_agg (ts : List AV) (xs : Array Value) : look ts (.const (.agg xs)) = .agg (xs.toList.map (ofV 3)) := rfl
@[go_sem] theorem ofV_int (n : Nat) (k : IntKind) (x : Int) : ofV (n + 1) (.int k x) = .int k x := rfl
@[go_sem] theorem ofV_bool (n : Nat) (x : Bool) : ofV (n + 1) (.bool x) = .bool x := rfl
@[go_sem] theorem ofV_str (n : Nat) (x : ByteArray) : ofV (n + 1) (.string x) = .str x := rfl
@[go_sem] theorem ofV_nilS (n : Nat) : ofV (n + 1) (.slice none 0 0) = .nilSlice := rfl
@[go_sem] theorem ofV_nilP (n : Nat) : ofV (n + 1) (.pointer none) = .nilPtr := rfl
@[go_sem] theorem ofV_nilF (n : Nat) : ofV (n + 1) .nilFunc = .nilFunc := rfl
@[go_sem] theorem ofV_nilI (n : Nat) : ofV (n + 1) .nilIface = .nilIface := rfl
@[go_sem] theorem ofV_agg (n : Nat) (xs : Array Value) : ofV (n + 1) (.agg xs) = .agg (xs.toList.map (ofV n)) := rfl
@[go_sem] theorem lookE_cons (d : Nat) (v : AV) (l : List (Nat × AV)) (i : Nat) : lookE ((d, v) :: l) i = if d = i then v else lookE l i := rfl
@[go_sem] theorem lookE_nil (i : Nat) : lookE [] i = .unk := rfl

def keepE (keep : List Nat) (l : List (Nat × AV)) : List (Nat × AV) := keep.map fun i => (i, lookE l i)
theorem keepE_look (keep : List Nat) (l : List (Nat × AV)) (i : Nat) : lookE (keepE keep l) i = lookE l i ∨ lookE (keepE keep l) i = .unk := by
  unfold keepE
  induction keep with
  | nil => exact .inr rfl
  | cons k keep ih =>
    simp only [List.map_cons, lookE_cons]
    split
    · rename_i h; rw [h]; exact .inl rfl
    · exact ih
theorem weakL_of_get : ∀ (xs ys : List AV), xs.length = ys.length → (∀ (i : Nat) (x y : AV), xs[i]? = some x → ys[i]? = some y → Weak x y) → WeakL xs ys
  | [], [], _, _ => .nil
  | x :: xs, y :: ys, h, k => .cons (k 0 x y rfl rfl) (weakL_of_get xs ys (by simpa using h) fun i a b e1 e2 => k (i + 1) a b (by simpa using e1) (by simpa using e2))
  | [], _ :: _, h, _ => by simp at h
  | _ :: _, [], h, _ => by simp at h
theorem weakL_E {n : Nat} {l l' : List (Nat × AV)} (h : ∀ i, Weak (lookE l i) (lookE l' i)) : WeakL (E n l) (E n l') :=
  weakL_of_get _ _ (by rw [E_length, E_length]) fun i x y e1 e2 => by
    rw [E_get] at e1 e2
    split at e1
    · rename_i hi
      rw [if_pos hi] at e2
      injection e1 with e1; injection e2 with e2
      rw [← e1, ← e2]; exact h i
    · cases e1
theorem Le.keep {n0 : N0} {n : Nat} {l : List (Nat × AV)} {H : Heap} (keep : List Nat) : Le n0 (E n l) H (E n (keepE keep l)) H := Le.temps (weakL_E fun i => by
  rcases keepE_look keep l i with h | h
  · rw [h]; exact Weak.refl _
  · rw [h]; exact Weak.unk _)
/-- One temporary is told less. -/
theorem Le.one {n0 : N0} {n : Nat} {l : List (Nat × AV)} {H : Heap} {d : Nat} {v : AV} (h : Weak (lookE l d) v) : Le n0 (E n l) H (E n ((d, v) :: l)) H := Le.temps (weakL_E fun i => by
  rw [lookE_cons]
  split
  · rename_i e; rw [← e]; exact h
  · exact Weak.refl _)

def argsE : Nat → List AV → List (Nat × AV)
  | _, [] => []
  | i, x :: xs => (i, x) :: argsE (i + 1) xs
theorem lookE_args : ∀ (xs : List AV) (i j : Nat), lookE (argsE i xs) j = if i ≤ j then (xs[j - i]?).getD .unk else .unk
  | [], i, j => by simp [argsE, lookE]
  | x :: xs, i, j => by
    simp only [argsE, lookE_cons, lookE_args xs (i + 1) j]
    by_cases h : i = j
    · subst h; simp
    · simp only [h, if_false]
      by_cases h2 : i ≤ j
      · rw [if_pos (by omega), if_pos h2, show j - i = (j - (i + 1)) + 1 by omega]
        simp
      · rw [if_neg (by omega), if_neg h2]
theorem weakL_args (args : List AV) (n : Nat) (h : args.length ≤ n) : WeakL (args ++ List.replicate (n - args.length) undefA) (E n (argsE 0 args)) :=
  weakL_of_get _ _ (by rw [E_length]; simp; omega) fun i x y e1 e2 => by
    rw [E_get] at e2
    split at e2
    · rename_i hi
      injection e2 with e2
      rw [← e2, lookE_args, if_pos (Nat.zero_le _)]
      rcases Nat.lt_or_ge i args.length with h' | h'
      · rw [List.getElem?_append_left h'] at e1
        rw [show i - 0 = i by omega, e1]
        exact Weak.refl _
      · rw [show i - 0 = i by omega, List.getElem?_eq_none h']
        exact Weak.unk _
    · cases e2

/-! ### going on -/
/-- What hangs on p is not gone into while it waits. -/
structure Tk {α : Sort _} (p : α) : Type where
def bindO (x : Option (AV × Heap)) (k : AV → Heap → Prop) (t : Tk k) : Prop := match x with | some p => k p.1 p.2 | none => False
@[go_sem] theorem bindO_some (r : AV) (H : Heap) (k : AV → Heap → Prop) (t : Tk k) : bindO (some (r, H)) k t = k r H := propext ⟨fun h => h, fun h => h⟩
def bindB (x : Option Birth) (k : Birth → Prop) (t : Tk k) : Prop := match x with | some p => k p | none => False
@[go_sem] theorem bindB_some (r : Birth) (k : Birth → Prop) (t : Tk k) : bindB (some r) k t = k r := propext ⟨fun h => h, fun h => h⟩
def guardW (x : AV) (want : Bool) (go skip : Prop) (t : Tk go) (u : Tk skip) : Prop := match x with
  | .bool b => if b = want then go else skip
  | .tuple [] => skip
  | _ => False
section
variable (go skip : Prop) (t : Tk go) (u : Tk skip)
@[go_sem] theorem guardW_tt : guardW (.bool true) true go skip t u = go := propext ⟨fun h => h, fun h => h⟩
@[go_sem] theorem guardW_ff : guardW (.bool false) false go skip t u = go := propext ⟨fun h => h, fun h => h⟩
@[go_sem] theorem guardW_tf : guardW (.bool true) false go skip t u = skip := propext ⟨fun h => h, fun h => h⟩
@[go_sem] theorem guardW_ft : guardW (.bool false) true go skip t u = skip := propext ⟨fun h => h, fun h => h⟩
@[go_sem] theorem guardW_u (w : Bool) : guardW (.tuple []) w go skip t u = skip := propext ⟨fun h => h, fun h => h⟩
@[go_sem] theorem guardW_un (w : Bool) : guardW undefA w go skip t u = skip := propext ⟨fun h => h, fun h => h⟩
end

/-- The operations, one by one (WD without its record). -/
def WP (P : Program) : List Item → List AV → Heap → (List AV → Heap → Prop) → Prop
  | [], ts, H, K => K ts H
  | it :: rest, ts, H, K =>
    let go : Prop := if isCall it.o.op = true then
        match it.k with
        | .n => ∃ r, (∀ H2, Step P it.o ts H2 r H2) ∧ WP P rest (putA ts it.o.dst r) H K
        | .s => ∃ r H', Step P it.o ts H r H' ∧ H.length ≤ H'.length ∧ WP P rest (putA ts it.o.dst r) H' K
        | .a => False
      else
        match it.k with
        | .a => bindB (bOp P it.o.op ts) (fun b => WP P rest (putA ts it.o.dst (b.2 H.length)) (H ++ [.blk b.1 b.1.length false]) K) .mk
        | .n => keeps it.o.op = true ∧ bindO (aOp P it.o.op ts H) (fun r _ => WP P rest (putA ts it.o.dst r) H K) .mk
        | .s => bindO (aOp P it.o.op ts H) (fun r H' => H.length ≤ H'.length ∧ WP P rest (putA ts it.o.dst r) H' K) .mk
    match it.o.guard with
    | none => go
    | some (_, want) => match it.g with
      | none => False
      | some d => guardW (ts.getD d undefA) want go (it.k ≠ .a ∧ WP P rest (putA ts it.o.dst undefA) H K) .mk .mk

theorem WP_WD {P : Program} : ∀ (l : List Item) (acc : List Ent) (ts : List AV) (H : Heap) (K : List AV → Heap → Prop), WP P l ts H K → WD P l acc ts H fun _ te He => K te He
  | [], acc, ts, H, K, h => by simpa only [WD, WP] using h
  | it :: rest, acc, ts, H, K, h => by
    have go : (if isCall it.o.op = true then
        match it.k with
        | .n => ∃ r, (∀ H2, Step P it.o ts H2 r H2) ∧ WP P rest (putA ts it.o.dst r) H K
        | .s => ∃ r H', Step P it.o ts H r H' ∧ H.length ≤ H'.length ∧ WP P rest (putA ts it.o.dst r) H' K
        | .a => False
      else
        match it.k with
        | .a => bindB (bOp P it.o.op ts) (fun b => WP P rest (putA ts it.o.dst (b.2 H.length)) (H ++ [.blk b.1 b.1.length false]) K) .mk
        | .n => keeps it.o.op = true ∧ bindO (aOp P it.o.op ts H) (fun r _ => WP P rest (putA ts it.o.dst r) H K) .mk
        | .s => bindO (aOp P it.o.op ts H) (fun r H' => H.length ≤ H'.length ∧ WP P rest (putA ts it.o.dst r) H' K) .mk) → wantG it ts = some true → WD P (it :: rest) acc ts H fun _ te He => K te He := by
      intro h hw
      unfold WD
      rw [hw]
      simp only []
      split
      · rename_i hc
        rw [if_pos hc] at h
        cases hk : it.k <;> simp only [hk] at h ⊢
        · obtain ⟨r, h1, h2⟩ := h; exact ⟨r, h1, WP_WD rest _ _ _ _ h2⟩
        · obtain ⟨r, H', h1, h2, h3⟩ := h; exact ⟨r, H', h1, h2, WP_WD rest _ _ _ _ h3⟩
      · rename_i hc
        rw [if_neg hc] at h
        cases hk : it.k <;> simp only [hk] at h ⊢
        · obtain ⟨h1, h2⟩ := h
          refine ⟨h1, ?_⟩
          unfold bindO at h2
          split at h2
          · rename_i p hp
            obtain ⟨r, H'⟩ := p
            rw [hp]; exact WP_WD rest _ _ _ _ h2
          · exact h2.elim
        · unfold bindO at h
          split at h
          · rename_i p hp
            obtain ⟨r, H'⟩ := p
            rw [hp]; exact ⟨h.1, WP_WD rest _ _ _ _ h.2⟩
          · exact h.elim
        · unfold bindB at h
          split at h
          · rename_i p hp
            rw [hp]; exact WP_WD rest _ _ _ _ h
          · exact h.elim
    unfold WP at h
    simp only [] at h
    cases hg : it.o.guard with
    | none =>
      simp only [hg] at h
      exact go h (by simp only [wantG, hg])
    | some g =>
      obtain ⟨j, want⟩ := g
      simp only [hg] at h
      cases hd : it.g with
      | none => simp only [hd] at h
      | some d =>
        simp only [hd] at h
        unfold guardW at h
        have skip : it.k ≠ .a ∧ WP P rest (putA ts it.o.dst undefA) H K → wantG it ts = some false → WD P (it :: rest) acc ts H fun _ te He => K te He := fun hk hw => by
          unfold WD
          rw [hw]
          exact ⟨hk.1, WP_WD rest _ _ _ _ hk.2⟩
        split at h
        · rename_i b hb
          split at h
          · rename_i e
            refine go h ?_
            simp only [wantG, hg, hd, hb]; rw [e]; simp
          · rename_i e
            refine skip h ?_
            simp only [wantG, hg, hd, hb]
            simp [e]
        · rename_i hb
          refine skip h ?_
          simp only [wantG, hg, hd, hb]
        · exact h.elim

section
variable {P : Program} {rest : List Item} {n : Nat} {l : List (Nat × AV)} {H : Heap} {K : List AV → Heap → Prop} {dst : Option Tmp} {ty : TypeId} {pos : String} {after : Array Edge} {g : Option Tmp} {d : Nat} {x y c : Operand} {t : TypeId}

@[go_sem] theorem putE (v : AV) : putA (E n l) (some d) v = E n ((d, v) :: l) := E_set n l d v
@[go_sem] theorem putN (ts : List AV) (v : AV) : putA ts none v = ts := rfl
@[go_sem] theorem WP_nil (ts : List AV) : WP P [] ts H K = K ts H := propext ⟨fun h => h, fun h => h⟩
@[go_sem] theorem WP_guard {op : Op} {k : Kd} {j : Nat} {want : Bool} : WP P (⟨⟨dst, op, ty, pos, after, some (j, want)⟩, k, some d⟩ :: rest) (E n l) H K = guardW (look (E n l) (.tmp d)) want (WP P (⟨⟨dst, op, ty, pos, after, none⟩, k, none⟩ :: rest) (E n l) H K) (k ≠ .a ∧ WP P rest (putA (E n l) dst undefA) H K) .mk .mk := propext ⟨fun h => h, fun h => h⟩
@[go_sem] theorem WP_move : WP P (⟨⟨dst, .move x, ty, pos, after, none⟩, .n, g⟩ :: rest) (E n l) H K = WP P rest (putA (E n l) dst (look (E n l) x)) H K := propext ⟨fun h => h.2, fun h => ⟨rfl, h⟩⟩
@[go_sem] theorem WP_assign : WP P (⟨⟨dst, .assign x, ty, pos, after, none⟩, .n, g⟩ :: rest) (E n l) H K = WP P rest (putA (E n l) dst (look (E n l) x)) H K := propext ⟨fun h => h.2, fun h => ⟨rfl, h⟩⟩
@[go_sem] theorem WP_pick : WP P (⟨⟨dst, .pick c x y, ty, pos, after, none⟩, .n, g⟩ :: rest) (E n l) H K = bindO (match look (E n l) c with | .bool true => some (look (E n l) x, H) | .bool false => some (look (E n l) y, H) | _ => none) (fun r _ => WP P rest (putA (E n l) dst r) H K) .mk := propext ⟨fun h => h.2, fun h => ⟨rfl, h⟩⟩
@[go_sem] theorem WP_load : WP P (⟨⟨dst, .load t x, ty, pos, after, none⟩, .n, g⟩ :: rest) (E n l) H K = bindO (withH H (aLoad P t (look (E n l) x) H)) (fun r _ => WP P rest (putA (E n l) dst r) H K) .mk := propext ⟨fun h => h.2, fun h => ⟨rfl, h⟩⟩
@[go_sem] theorem WP_binOp {op : BinOp} {yt : TypeId} : WP P (⟨⟨dst, .binOp op t x y yt, ty, pos, after, none⟩, .n, g⟩ :: rest) (E n l) H K = bindO (withH H (aBin P op t (isC x || isC y) (look (E n l) x) (look (E n l) y))) (fun r _ => WP P rest (putA (E n l) dst r) H K) .mk := propext ⟨fun h => h.2, fun h => ⟨rfl, h⟩⟩
@[go_sem] theorem WP_unOp {op : UnOp} : WP P (⟨⟨dst, .unOp op t x, ty, pos, after, none⟩, .n, g⟩ :: rest) (E n l) H K = bindO (withH H (aUn op (look (E n l) x))) (fun r _ => WP P rest (putA (E n l) dst r) H K) .mk := propext ⟨fun h => h.2, fun h => ⟨rfl, h⟩⟩
@[go_sem] theorem WP_convert {s e : TypeId} : WP P (⟨⟨dst, .convert s e x, ty, pos, after, none⟩, .n, g⟩ :: rest) (E n l) H K = bindO (withH H (aConv P s e (look (E n l) x))) (fun r _ => WP P rest (putA (E n l) dst r) H K) .mk := propext ⟨fun h => h.2, fun h => ⟨rfl, h⟩⟩
@[go_sem] theorem WP_field {i : Nat} : WP P (⟨⟨dst, .field t x i, ty, pos, after, none⟩, .n, g⟩ :: rest) (E n l) H K = bindO (withH H (aFieldV P t (look (E n l) x) i)) (fun r _ => WP P rest (putA (E n l) dst r) H K) .mk := propext ⟨fun h => h.2, fun h => ⟨rfl, h⟩⟩
@[go_sem] theorem WP_fieldAddr {i : Nat} : WP P (⟨⟨dst, .fieldAddr t x i, ty, pos, after, none⟩, .n, g⟩ :: rest) (E n l) H K = bindO (withH H (aField P t (look (E n l) x) i)) (fun r _ => WP P rest (putA (E n l) dst r) H K) .mk := propext ⟨fun h => h.2, fun h => ⟨rfl, h⟩⟩
@[go_sem] theorem WP_indexAddr : WP P (⟨⟨dst, .indexAddr t x y, ty, pos, after, none⟩, .n, g⟩ :: rest) (E n l) H K = bindO (withH H (aIndexAddr P t (look (E n l) x) (look (E n l) y))) (fun r _ => WP P rest (putA (E n l) dst r) H K) .mk := propext ⟨fun h => h.2, fun h => ⟨rfl, h⟩⟩
@[go_sem] theorem WP_index : WP P (⟨⟨dst, .index t x y, ty, pos, after, none⟩, .n, g⟩ :: rest) (E n l) H K = bindO (withH H (aIndexV P t (look (E n l) x) (look (E n l) y))) (fun r _ => WP P rest (putA (E n l) dst r) H K) .mk := propext ⟨fun h => h.2, fun h => ⟨rfl, h⟩⟩
@[go_sem] theorem WP_slice {lo hi mx : Option Operand} : WP P (⟨⟨dst, .slice t x lo hi mx, ty, pos, after, none⟩, .n, g⟩ :: rest) (E n l) H K = bindO (withH H (aSlice P t (look (E n l) x) (lo.map (look (E n l))) (hi.map (look (E n l))) (mx.map (look (E n l))))) (fun r _ => WP P rest (putA (E n l) dst r) H K) .mk := propext ⟨fun h => h.2, fun h => ⟨rfl, h⟩⟩
@[go_sem] theorem WP_extract {i : Nat} : WP P (⟨⟨dst, .extract x i, ty, pos, after, none⟩, .n, g⟩ :: rest) (E n l) H K = bindO (match look (E n l) x with | .tuple vs => withH H vs[i]? | _ => none) (fun r _ => WP P rest (putA (E n l) dst r) H K) .mk := propext ⟨fun h => h.2, fun h => ⟨rfl, h⟩⟩
@[go_sem] theorem WP_nilCheck : WP P (⟨⟨dst, .nilCheck x, ty, pos, after, none⟩, .n, g⟩ :: rest) (E n l) H K = bindO (match look (E n l) x with | .ptr b o v => some (.ptr b o v, H) | .func f a b => some (.func f a b, H) | .cptr xs => some (.cptr xs, H) | _ => none) (fun r _ => WP P rest (putA (E n l) dst r) H K) .mk := propext ⟨fun h => h.2, fun h => ⟨rfl, h⟩⟩
@[go_sem] theorem WP_build {parts : Array (Nat × Operand)} : WP P (⟨⟨dst, .build t parts, ty, pos, after, none⟩, .n, g⟩ :: rest) (E n l) H K = bindO (withH H (aBuild P t (aParts (E n l) parts))) (fun r _ => WP P rest (putA (E n l) dst r) H K) .mk := propext ⟨fun h => h.2, fun h => ⟨rfl, h⟩⟩
@[go_sem] theorem WP_iface : WP P (⟨⟨dst, .makeInterface t x, ty, pos, after, none⟩, .n, g⟩ :: rest) (E n l) H K = bindO (if concreteT P t then some (.iface t (look (E n l) x), H) else none) (fun r _ => WP P rest (putA (E n l) dst r) H K) .mk := propext ⟨fun h => h.2, fun h => ⟨rfl, h⟩⟩
@[go_sem] theorem WP_makeFunc {f : FuncId} {a b : Array Operand} : WP P (⟨⟨dst, .makeFunc (.func f) a b, ty, pos, after, none⟩, .n, g⟩ :: rest) (E n l) H K = WP P rest (putA (E n l) dst (.func f (a.toList.map (look (E n l))) (b.toList.map (look (E n l))))) H K := propext ⟨fun h => h.2, fun h => ⟨rfl, h⟩⟩
@[go_sem] theorem WP_len {args : Array Operand} {tys : Array TypeId} : WP P (⟨⟨dst, .call ⟨.builtin .len, args, tys⟩, ty, pos, after, none⟩, .n, g⟩ :: rest) (E n l) H K = bindO (aBuiltin P .len (args.toList.map (look (E n l))) tys.toList H) (fun r _ => WP P rest (putA (E n l) dst r) H K) .mk := propext ⟨fun h => h.2, fun h => ⟨rfl, h⟩⟩
@[go_sem] theorem WP_max {args : Array Operand} {tys : Array TypeId} : WP P (⟨⟨dst, .call ⟨.builtin .max, args, tys⟩, ty, pos, after, none⟩, .n, g⟩ :: rest) (E n l) H K = bindO (aBuiltin P .max (args.toList.map (look (E n l))) tys.toList H) (fun r _ => WP P rest (putA (E n l) dst r) H K) .mk := propext ⟨fun h => h.2, fun h => ⟨rfl, h⟩⟩
@[go_sem] theorem WP_min {args : Array Operand} {tys : Array TypeId} : WP P (⟨⟨dst, .call ⟨.builtin .min, args, tys⟩, ty, pos, after, none⟩, .n, g⟩ :: rest) (E n l) H K = bindO (aBuiltin P .min (args.toList.map (look (E n l))) tys.toList H) (fun r _ => WP P rest (putA (E n l) dst r) H K) .mk := propext ⟨fun h => h.2, fun h => ⟨rfl, h⟩⟩
@[go_sem] theorem WP_append {args : Array Operand} {tys : Array TypeId} : WP P (⟨⟨dst, .call ⟨.builtin .append, args, tys⟩, ty, pos, after, none⟩, .s, g⟩ :: rest) (E n l) H K = bindO (aBuiltin P .append (args.toList.map (look (E n l))) tys.toList H) (fun r H' => H.length ≤ H'.length ∧ WP P rest (putA (E n l) dst r) H' K) .mk := propext ⟨fun h => h, fun h => h⟩
@[go_sem] theorem WP_copy {args : Array Operand} {tys : Array TypeId} : WP P (⟨⟨dst, .call ⟨.builtin .copy, args, tys⟩, ty, pos, after, none⟩, .s, g⟩ :: rest) (E n l) H K = bindO (aBuiltin P .copy (args.toList.map (look (E n l))) tys.toList H) (fun r H' => H.length ≤ H'.length ∧ WP P rest (putA (E n l) dst r) H' K) .mk := propext ⟨fun h => h, fun h => h⟩
@[go_sem] theorem WP_store : WP P (⟨⟨dst, .store t x y, ty, pos, after, none⟩, .s, g⟩ :: rest) (E n l) H K = bindO (match aStore P t (look (E n l) x) (look (E n l) y) H with | some H' => some (undefA, H') | none => none) (fun r H' => H.length ≤ H'.length ∧ WP P rest (putA (E n l) dst r) H' K) .mk := propext ⟨fun h => h, fun h => h⟩
@[go_sem] theorem WP_alloc : WP P (⟨⟨dst, .alloc t, ty, pos, after, none⟩, .a, g⟩ :: rest) (E n l) H K = bindB (bAlloc P t) (fun b => WP P rest (putA (E n l) dst (b.2 H.length)) (H ++ [.blk b.1 b.1.length false]) K) .mk := propext ⟨fun h => h, fun h => h⟩
@[go_sem] theorem WP_box : WP P (⟨⟨dst, .box t x, ty, pos, after, none⟩, .a, g⟩ :: rest) (E n l) H K = bindB (bBox (look (E n l) x)) (fun b => WP P rest (putA (E n l) dst (b.2 H.length)) (H ++ [.blk b.1 b.1.length false]) K) .mk := propext ⟨fun h => h, fun h => h⟩
@[go_sem] theorem WP_buildSlice {len : Nat} {parts : Array (Nat × Operand)} : WP P (⟨⟨dst, .buildSlice t len parts, ty, pos, after, none⟩, .a, g⟩ :: rest) (E n l) H K = bindB (bBuildSlice P t len (aParts (E n l) parts)) (fun b => WP P rest (putA (E n l) dst (b.2 H.length)) (H ++ [.blk b.1 b.1.length false]) K) .mk := propext ⟨fun h => h, fun h => h⟩
@[go_sem] theorem WP_makeSlice : WP P (⟨⟨dst, .makeSlice t x y, ty, pos, after, none⟩, .a, g⟩ :: rest) (E n l) H K = bindB (bMake P t (look (E n l) x) (look (E n l) y)) (fun b => WP P rest (putA (E n l) dst (b.2 H.length)) (H ++ [.blk b.1 b.1.length false]) K) .mk := propext ⟨fun h => h, fun h => h⟩
theorem WP_call_s {f : Operand} {args : Array Operand} {tys : Array TypeId} {r : AV} {H' : Heap} {fi : FuncId} {as : List AV} (ht : aTarget (E n l) ⟨.value f, args, tys⟩ = some (fi, as)) (hf : enters P fi = true) (hc : SoundCall P fi as H r H') (hl : H.length ≤ H'.length) (h : WP P rest (putA (E n l) dst r) H' K) :
    WP P (⟨⟨dst, .call ⟨.value f, args, tys⟩, ty, pos, after, none⟩, .s, g⟩ :: rest) (E n l) H K := ⟨r, H', .of_call rfl ht hf hc, hl, h⟩
theorem WP_call_n {f : Operand} {args : Array Operand} {tys : Array TypeId} {r : AV} {fi : FuncId} {as : List AV} (ht : aTarget (E n l) ⟨.value f, args, tys⟩ = some (fi, as)) (hf : enters P fi = true) (hc : PureCall P fi as r) (hp : pureBs as = true) (hr : r.pureB = true) (h : WP P rest (putA (E n l) dst r) H K) :
    WP P (⟨⟨dst, .call ⟨.value f, args, tys⟩, ty, pos, after, none⟩, .n, g⟩ :: rest) (E n l) H K := ⟨r, fun H2 => .of_call rfl ht hf (hc.sound hp hr H2), h⟩
theorem WP_call {f : Operand} {args : Array Operand} {tys : Array TypeId} {r : AV} {fi : FuncId} {as : List AV} (ht : aTarget (E n l) ⟨.value f, args, tys⟩ = some (fi, as)) (hf : enters P fi = true) (hc : PureCall P fi as r) (hp : pureBs as = true) (hr : r.pureB = true) (h : WP P rest (putA (E n l) dst r) H K) :
    WP P (⟨⟨dst, .call ⟨.value f, args, tys⟩, ty, pos, after, none⟩, .s, g⟩ :: rest) (E n l) H K := ⟨r, H, .of_call rfl ht hf (hc.sound hp hr H), Nat.le_refl _, h⟩
theorem WP_pc {f : Operand} {args : Array Operand} {tys : Array TypeId} {r : AV} {fi : FuncId} {as : List AV} (hc : PureCall P fi as r) (hf : enters P fi = true) (ht : aTarget (E n l) ⟨.value f, args, tys⟩ = some (fi, as)) (hp : pureBs as = true) (hr : r.pureB = true) (h : WP P rest (putA (E n l) dst r) H K) :
    WP P (⟨⟨dst, .call ⟨.value f, args, tys⟩, ty, pos, after, none⟩, .s, g⟩ :: rest) (E n l) H K := ⟨r, H, .of_call rfl ht hf (hc.sound hp hr H), Nat.le_refl _, h⟩
end

/-! ### the operations' laws -/
section
variable {P : Program} {H : Heap} {t : TypeId} {c : Bool} {k : IntKind} {a b : Int}
@[go_sem] theorem withH_s (v : AV) : withH H (some v) = some (v, H) := rfl
@[go_sem] theorem isC_const (v : Value) : isC (.const v) = true := rfl
@[go_sem] theorem isC_tmp (i : Nat) : isC (.tmp i) = false := rfl
@[go_sem] theorem aBin_add : aBin P .add t c (.int k a) (.int k b) = some (.int k (k.wrap (a + b))) := by simp only [aBin, aInt, if_true]
@[go_sem] theorem aBin_sub : aBin P .sub t c (.int k a) (.int k b) = some (.int k (k.wrap (a - b))) := by simp only [aBin, aInt, if_true]
@[go_sem] theorem aBin_mul : aBin P .mul t c (.int k a) (.int k b) = some (.int k (k.wrap (a * b))) := by simp only [aBin, aInt, if_true]
@[go_sem] theorem aBin_quo : aBin P .quo t c (.int k a) (.int k b) = if b = 0 then none else some (.int k (k.wrap (a.tdiv b))) := by simp only [aBin, aInt, if_true]
@[go_sem] theorem aBin_rem : aBin P .rem t c (.int k a) (.int k b) = if b = 0 then none else some (.int k (a.tmod b)) := by simp only [aBin, aInt, if_true]
@[go_sem] theorem aBin_and : aBin P .and t c (.int k a) (.int k b) = some (.int k (bits2 k (· &&& ·) a b)) := by simp only [aBin, aInt, if_true]
@[go_sem] theorem aBin_or : aBin P .or t c (.int k a) (.int k b) = some (.int k (bits2 k (· ||| ·) a b)) := by simp only [aBin, aInt, if_true]
@[go_sem] theorem aBin_xor : aBin P .xor t c (.int k a) (.int k b) = some (.int k (bits2 k (· ^^^ ·) a b)) := by simp only [aBin, aInt, if_true]
@[go_sem] theorem aBin_eql : aBin P .eql t c (.int k a) (.int k b) = some (.bool (decide (a = b))) := by simp only [aBin, aInt, if_true]; rfl
@[go_sem] theorem aBin_neq : aBin P .neq t c (.int k a) (.int k b) = some (.bool (!decide (a = b))) := by simp only [aBin, aInt, if_true]; rfl
@[go_sem] theorem aBin_lss : aBin P .lss t c (.int k a) (.int k b) = some (.bool (decide (a < b))) := by simp only [aBin, aInt, if_true]
@[go_sem] theorem aBin_leq : aBin P .leq t c (.int k a) (.int k b) = some (.bool (decide (a ≤ b))) := by simp only [aBin, aInt, if_true]
@[go_sem] theorem aBin_gtr : aBin P .gtr t c (.int k a) (.int k b) = some (.bool (decide (b < a))) := by simp only [aBin, aInt, if_true, GT.gt]
@[go_sem] theorem aBin_geq : aBin P .geq t c (.int k a) (.int k b) = some (.bool (decide (b ≤ a))) := by simp only [aBin, aInt, if_true, GE.ge]
@[go_sem] theorem aBin_shl {k' : IntKind} : aBin P .shl t c (.int k a) (.int k' b) = if 0 ≤ b then some (.int k (k.wrap (a * 2 ^ (min b.toNat k.bits)))) else none := rfl
@[go_sem] theorem aBin_shr {k' : IntKind} : aBin P .shr t c (.int k a) (.int k' b) = if 0 ≤ b then some (.int k (a.fdiv (2 ^ (min b.toNat k.bits)))) else none := rfl
@[go_sem] theorem aBin_eqlS {x : AV} : aBin P .eql t c x .nilSlice = match P.underlying t with | some d => (match aIsNil c d x .nilSlice with | some b => aEqNe .eql b | none => none) | none => none := by cases x <;> rfl
@[go_sem] theorem aBin_eqlI {x : AV} : aBin P .eql t c x .nilIface = match P.underlying t with | some d => (match aIsNil c d x .nilIface with | some b => aEqNe .eql b | none => none) | none => none := by cases x <;> rfl
@[go_sem] theorem aBin_eqlP {x : AV} : aBin P .eql t c x .nilPtr = match P.underlying t with | some d => (match aIsNil c d x .nilPtr with | some b => aEqNe .eql b | none => none) | none => none := by cases x <;> rfl
@[go_sem] theorem aBin_eqlF {x : AV} : aBin P .eql t c x .nilFunc = match P.underlying t with | some d => (match aIsNil c d x .nilFunc with | some b => aEqNe .eql b | none => none) | none => none := by cases x <;> rfl
@[go_sem] theorem aBin_neqS {x : AV} : aBin P .neq t c x .nilSlice = match P.underlying t with | some d => (match aIsNil c d x .nilSlice with | some b => aEqNe .neq b | none => none) | none => none := by cases x <;> rfl
@[go_sem] theorem aBin_neqI {x : AV} : aBin P .neq t c x .nilIface = match P.underlying t with | some d => (match aIsNil c d x .nilIface with | some b => aEqNe .neq b | none => none) | none => none := by cases x <;> rfl
@[go_sem] theorem aBin_neqP {x : AV} : aBin P .neq t c x .nilPtr = match P.underlying t with | some d => (match aIsNil c d x .nilPtr with | some b => aEqNe .neq b | none => none) | none => none := by cases x <;> rfl
@[go_sem] theorem aBin_neqF {x : AV} : aBin P .neq t c x .nilFunc = match P.underlying t with | some d => (match aIsNil c d x .nilFunc with | some b => aEqNe .neq b | none => none) | none => none := by cases x <;> rfl
@[go_sem] theorem aUn_neg : aUn .neg (.int k a) = some (.int k (k.wrap (0 - a))) := rfl
@[go_sem] theorem aUn_not {p : Bool} : aUn .not (.bool p) = some (.bool !p) := rfl
@[go_sem] theorem aLoad_cptr1 {x : AV} {xs : List AV} {d : TypeDesc} {i : TypeInfo} (hd : P.underlying t = some d) (hi : P.info? t = some i) (hg : isAggD d = false) : aLoad P t (.cptr (x :: xs)) H = some x := by
  simp only [aLoad, hd, hi, hg]
  rfl
end

/-! ### the items -/
def dsts : List Oper → List (Option Tmp)
  | [] => []
  | o :: l => o.dst :: dsts l
def nth (ds : List (Option Tmp)) (j : Nat) : Option Tmp := match ds, j with
  | [], _ => none
  | d :: _, 0 => d
  | _ :: ds, j + 1 => nth ds j
def gOf (ds : List (Option Tmp)) : Option (Nat × Bool) → Option Tmp
  | none => none
  | some (j, _) => nth ds j
def itemsG (ds : List (Option Tmp)) : List Oper → List Item
  | [] => []
  | o :: l => ⟨o, kindOf o.op, gOf ds o.guard⟩ :: itemsG ds l
/-- In another order, each with what it is. -/
def itemsO (ds : List (Option Tmp)) (ops : List Oper) : List Nat → List Kd → List Item
  | j :: ord, k :: kds => ⟨ops.getD j default, k, gOf ds (ops.getD j default).guard⟩ :: itemsO ds ops ord kds
  | _, _ => []
theorem dsts_get : ∀ (l : List Oper) (j : Nat), nth (dsts l) j = (l[j]?).bind (·.dst)
  | [], j => by simp [dsts, nth]
  | o :: l, 0 => rfl
  | o :: l, j + 1 => by simpa [dsts, nth] using dsts_get l j
theorem gOf_eq (ops : Array Oper) (g : Option (Nat × Bool)) : gOf (dsts ops.toList) g = g.bind fun g => (ops[g.1]?).bind (·.dst) := by
  cases g with
  | none => rfl
  | some g =>
    obtain ⟨j, w⟩ := g
    simp only [gOf, dsts_get, Option.bind_some]
    rw [Array.getElem?_toList]
theorem itemsG_eq (ops : Array Oper) : itemsG (dsts ops.toList) ops.toList = itemsT ops := by
  have key : ∀ l : List Oper, itemsG (dsts ops.toList) l = l.map fun o => ⟨o, kindOf o.op, o.guard.bind fun g => (ops[g.1]?).bind (·.dst)⟩ := fun l => by
    induction l with
    | nil => rfl
    | cons o l ih => simp only [itemsG, List.map_cons, ih, gOf_eq]
  exact key _
theorem itemsO_eq (ops : Array Oper) : ∀ (ord : List Nat) (kds : List Kd), itemsO (dsts ops.toList) ops.toList ord kds = items ops ord kds
  | [], _ => by simp [itemsO, items]
  | _ :: _, [] => by simp [itemsO, items]
  | j :: ord, k :: kds => by
    have := itemsO_eq ops ord kds
    unfold items at this ⊢
    simp only [itemsO, List.zip_cons_cons, List.map_cons, this, gOf_eq]
    simp

attribute [go_sem] pureBs AV.pureB Nat.reducePow Nat.reduceLeDiff Nat.reduceMul Nat.reduceSub Nat.reduceDiv Nat.reduceMod Nat.reduceGT Nat.reduceBEq Nat.reduceBNe Int.reduceAdd Int.reduceSub Int.reduceMul Int.reduceNeg Int.reduceToNat Int.reduceGT Int.reduceGE Int.reduceNe dsts nth gOf itemsG itemsO aField aFieldV aPart aIndexAddr aIndexV aSlice aLo aHi aLoad aStore splice bBuildSlice bMake aBuild aFill aZeros aLen aCellsOf aLenS isIntD aNewRow aAppendTo aAppend aCopy aLenOf aMax2 aMin2 aBuiltin concreteT isAggD aParts aIsNil aEqNe aConv List.drop_zero List.drop_succ_cons List.take_zero List.take_succ_cons List.take_nil List.drop_nil List.set_cons_zero List.set_cons_succ List.all_cons List.all_nil Bool.and_true Bool.true_and Bool.and_false Bool.false_and Nat.zero_add Nat.add_zero Nat.le_refl Nat.zero_le and_self Nat.zero_lt_one Int.reduceLE Int.reduceLT Int.reduceEq Nat.mul_one Nat.one_mul Nat.zero_mul Nat.mul_zero Nat.lt_irrefl List.replicate List.getElem?_toArray List.getElem?_cons_succ List.getElem?_cons_zero List.getD_cons_zero List.getD_cons_succ argsE keepE kindOf List.map_cons List.map_nil List.toList_toArray Option.bind_none Option.bind_some Option.map_some Option.map_none bBox bNew AV.cells AV.one AV.known Nat.reduceLT Nat.reduceEqDiff ite_true ite_false decide_true decide_false List.length_cons List.length_nil List.nil_append List.cons_append Bool.not_true Bool.not_false Bool.false_eq_true ne_eq not_false_eq_true true_and and_true reduceCtorEq Bool.or_false Bool.false_or Bool.or_true Bool.true_or Nat.reduceAdd thenA inBlockA

@[go_sem] theorem bAlloc_eq {P : Program} {t : TypeId} : bAlloc P t = (zeroA P t).map bNew := by
  unfold bAlloc zeroA
  cases (P.info? t).bind (·.zero) with
  | none => rfl
  | some z =>
    simp only
    cases ofV 4 z <;> rfl

/-! ### what is handed back -/
section
variable {n k : Nat} {H : Heap}
@[go_sem] theorem cv_int (kd : IntKind) (x : Int) : cv n H (k + 1) (.int kd x) = .int kd x := rfl
@[go_sem] theorem cv_bool (x : Bool) : cv n H (k + 1) (.bool x) = .bool x := rfl
@[go_sem] theorem cv_str (x : ByteArray) : cv n H (k + 1) (.str x) = .str x := rfl
@[go_sem] theorem cv_vals (sz : Nat) (xs : List AV) (b : Bool) : cv n H (k + 1) (.vals sz xs b) = .vals sz xs b := rfl
@[go_sem] theorem cv_cptr (xs : List AV) : cv n H (k + 1) (.cptr xs) = .cptr xs := rfl
@[go_sem] theorem cv_nilS : cv n H (k + 1) .nilSlice = .nilSlice := rfl
@[go_sem] theorem cv_nilP : cv n H (k + 1) .nilPtr = .nilPtr := rfl
@[go_sem] theorem cv_nilI : cv n H (k + 1) .nilIface = .nilIface := rfl
@[go_sem] theorem cv_nilF : cv n H (k + 1) .nilFunc = .nilFunc := rfl
@[go_sem] theorem cv_unk : cv n H (k + 1) .unk = .unk := rfl
@[go_sem] theorem cv_agg (xs : List AV) : cv n H (k + 1) (.agg xs) = .agg (xs.map (cv n H k)) := rfl
@[go_sem] theorem cv_tuple (xs : List AV) : cv n H (k + 1) (.tuple xs) = .tuple (xs.map (cv n H k)) := rfl
@[go_sem] theorem cv_iface (t : TypeId) (v : AV) : cv n H (k + 1) (.iface t v) = .iface t (cv n H k v) := rfl
@[go_sem] theorem cv_func (f : FuncId) (a b : List AV) : cv n H (k + 1) (.func f a b) = if (pureBs a && pureBs b) = true then .func f a b else .func f (a.map (cv n H k)) (b.map (cv n H k)) := (rfl)
@[go_sem] theorem pv_int (kd : IntKind) (x : Int) : pv n H (k + 1) (.int kd x) = .int kd x := rfl
@[go_sem] theorem pv_bool (x : Bool) : pv n H (k + 1) (.bool x) = .bool x := rfl
@[go_sem] theorem pv_str (x : ByteArray) : pv n H (k + 1) (.str x) = .str x := rfl
@[go_sem] theorem pv_vals (sz : Nat) (xs : List AV) (b : Bool) : pv n H (k + 1) (.vals sz xs b) = .vals sz xs b := rfl
@[go_sem] theorem pv_cptr (xs : List AV) : pv n H (k + 1) (.cptr xs) = .cptr xs := rfl
@[go_sem] theorem pv_nilS : pv n H (k + 1) .nilSlice = .nilSlice := rfl
@[go_sem] theorem pv_nilP : pv n H (k + 1) .nilPtr = .nilPtr := rfl
@[go_sem] theorem pv_nilI : pv n H (k + 1) .nilIface = .nilIface := rfl
@[go_sem] theorem pv_nilF : pv n H (k + 1) .nilFunc = .nilFunc := rfl
@[go_sem] theorem pv_agg (xs : List AV) : pv n H (k + 1) (.agg xs) = .agg (xs.map (pv n H k)) := rfl
@[go_sem] theorem pv_tuple (xs : List AV) : pv n H (k + 1) (.tuple xs) = .tuple (xs.map (pv n H k)) := rfl
@[go_sem] theorem pv_iface (t : TypeId) (v : AV) : pv n H (k + 1) (.iface t v) = .iface t (pv n H k v) := rfl
@[go_sem] theorem pv_func (f : FuncId) (a b : List AV) : pv n H (k + 1) (.func f a b) = if (pureBs a && pureBs b) = true then .func f a b else .func f (a.map (pv n H k)) (b.map (pv n H k)) := (rfl)
theorem pv_map_int (kd : IntKind) (xs : List Int) : (xs.map (AV.int kd)).map (pv n H (k + 1)) = xs.map (AV.int kd) := by rw [List.map_map]; rfl
end
theorem res0 {P : Program} {fn : Func} {ts : List AV} {H : Heap} (h : fn.results = #[]) : aResults P fn ts H = some (.tuple []) := by simp only [aResults, h]; rfl
theorem res1 {P : Program} {fn : Func} {ts : List AV} {H : Heap} {a : Nat} (h : fn.results = #[.tmp a]) : aResults P fn ts H = some (look ts (.tmp a)) := by simp only [aResults, h]; rfl
theorem res2 {P : Program} {fn : Func} {ts : List AV} {H : Heap} {a b : Nat} (h : fn.results = #[.tmp a, .tmp b]) : aResults P fn ts H = some (.tuple [look ts (.tmp a), look ts (.tmp b)]) := by simp only [aResults, h]; rfl
theorem res3 {P : Program} {fn : Func} {ts : List AV} {H : Heap} {a b c : Nat} (h : fn.results = #[.tmp a, .tmp b, .tmp c]) : aResults P fn ts H = some (.tuple [look ts (.tmp a), look ts (.tmp b), look ts (.tmp c)]) := by simp only [aResults, h]; rfl

section
variable {P : Program} {n0 : N0} {n : Nat} {l : List (Nat × AV)} {H H' : Heap} {ts' : List AV} {Q : Ex → List AV → Heap → Prop}
theorem W.thn {id : Nat} {ops : Array Oper} {y : Code} (h : WP P (itemsG (dsts ops.toList) ops.toList) (E n l) H fun te He => te = ts' ∧ He = H') (hy : W P n0 y ts' H' Q) : W P n0 (.seq (.region id ops false) y) (E n l) H Q := .then (by rw [itemsG_eq] at h; exact WP_WD _ _ _ _ _ h) hy
theorem W.lst {id : Nat} {ops : Array Oper} (h : WP P (itemsG (dsts ops.toList) ops.toList) (E n l) H fun te He => te = ts' ∧ He = H') (hq : Q .normal ts' H') : W P n0 (.region id ops false) (E n l) H Q := .last (by rw [itemsG_eq] at h; exact WP_WD _ _ _ _ _ h) hq
theorem W.drawThn {id : Nat} {ops : Array Oper} {y : Code} (ord : List Nat) (kds : List Kd) (bs : List (List Nat)) (hm : P.follows .mixedOrders = true) (hs : schedOk ops ord kds bs [] = true)
    (h : WP P (itemsO (dsts ops.toList) ops.toList ord kds) (E n l) H fun te He => te = ts' ∧ He = H') (hy : W P n0 y ts' H' Q) : W P n0 (.seq (.region id ops true) y) (E n l) H Q := .drawThen ord kds bs hm hs (by rw [itemsO_eq] at h; exact WP_WD _ _ _ _ _ h) hy
theorem W.drawLst {id : Nat} {ops : Array Oper} (ord : List Nat) (kds : List Kd) (bs : List (List Nat)) (hm : P.follows .mixedOrders = true) (hs : schedOk ops ord kds bs [] = true)
    (h : WP P (itemsO (dsts ops.toList) ops.toList ord kds) (E n l) H fun te He => te = ts' ∧ He = H') (hq : Q .normal ts' H') : W P n0 (.region id ops true) (E n l) H Q := .drawLast ord kds bs hm hs (by rw [itemsO_eq] at h; exact WP_WD _ _ _ _ _ h) hq
theorem W.loopE {c : Code} (keep : List Nat) (I : Nat → List (Nat × AV) → Heap → Prop) (h0 : ∃ m, I m (keepE keep l) H)
    (round : ∀ m l H, I m l H → W P n0 c (E n l) H (thenA (fun ts' H' => ∃ l' m', ts' = E n l' ∧ m' < m ∧ I m' (keepE keep l') H') Q)) : W P n0 (.loop c) (E n l) H Q :=
  W.loop (fun m ts H => ∃ l, ts = E n l ∧ I m l H) (let ⟨m, h⟩ := h0; ⟨m, _, _, Le.keep keep, _, rfl, h⟩) fun m ts H ⟨l, hl, h⟩ => by
    subst hl
    refine (round m l H h).weaken fun e ts' H' q => ?_
    cases e with
    | normal => obtain ⟨l', m', h1, h2, h3⟩ := q; subst h1; exact ⟨m', _, _, h2, Le.keep keep, _, rfl, h3⟩
    | exit id => exact q
    | ret => exact q

theorem W.thnK {id : Nat} {ops : Array Oper} {y : Code} (h : ∀ K : List AV → Heap → Prop, (∀ te He, W P n0 y te He Q → K te He) → WP P (itemsG (dsts ops.toList) ops.toList) (E n l) H K) : W P n0 (.seq (.region id ops false) y) (E n l) H Q :=
  .seq (.text (by have h := h _ fun _ _ h => h; rw [itemsG_eq] at h; exact WP_WD _ _ _ _ _ h))
theorem W.lstK {id : Nat} {ops : Array Oper} (h : ∀ K : List AV → Heap → Prop, (∀ te He, Q .normal te He → K te He) → WP P (itemsG (dsts ops.toList) ops.toList) (E n l) H K) : W P n0 (.region id ops false) (E n l) H Q :=
  .text (by have h := h _ fun _ _ h => h; rw [itemsG_eq] at h; exact WP_WD _ _ _ _ _ h)
theorem W.drawThnK {id : Nat} {ops : Array Oper} {y : Code} (ord : List Nat) (kds : List Kd) (bs : List (List Nat)) (hm : P.follows .mixedOrders = true) (hs : schedOk ops ord kds bs [] = true)
    (h : ∀ K : List AV → Heap → Prop, (∀ te He, W P n0 y te He Q → K te He) → WP P (itemsO (dsts ops.toList) ops.toList ord kds) (E n l) H K) : W P n0 (.seq (.region id ops true) y) (E n l) H Q :=
  .seq (W.draw ord kds bs [] hm hs (by have h := h _ fun _ _ h => h; rw [itemsO_eq] at h; simpa using WP_WD _ _ _ _ _ h))
theorem W.drawLstK {id : Nat} {ops : Array Oper} (ord : List Nat) (kds : List Kd) (bs : List (List Nat)) (hm : P.follows .mixedOrders = true) (hs : schedOk ops ord kds bs [] = true)
    (h : ∀ K : List AV → Heap → Prop, (∀ te He, Q .normal te He → K te He) → WP P (itemsO (dsts ops.toList) ops.toList ord kds) (E n l) H K) : W P n0 (.region id ops true) (E n l) H Q :=
  W.draw ord kds bs [] hm hs (by have h := h _ fun _ _ h => h; rw [itemsO_eq] at h; simpa using WP_WD _ _ _ _ _ h)
theorem guardW_t {b : Bool} {go skip : Prop} {t : Tk go} {u : Tk skip} (h1 : b = true → go) (h2 : b = false → skip) : guardW (.bool b) true go skip t u := by
  cases b
  · exact h2 rfl
  · exact h1 rfl
theorem guardW_f {b : Bool} {go skip : Prop} {t : Tk go} {u : Tk skip} (h1 : b = false → go) (h2 : b = true → skip) : guardW (.bool b) false go skip t u := by
  cases b
  · exact h1 rfl
  · exact h2 rfl
theorem guardW_nt {b : Bool} {go skip : Prop} {t : Tk go} {u : Tk skip} (h1 : b = false → go) (h2 : b = true → skip) : guardW (.bool (!b)) true go skip t u := by
  cases b
  · exact h1 rfl
  · exact h2 rfl
theorem guardW_nf {b : Bool} {go skip : Prop} {t : Tk go} {u : Tk skip} (h1 : b = true → go) (h2 : b = false → skip) : guardW (.bool (!b)) false go skip t u := by
  cases b
  · exact h2 rfl
  · exact h1 rfl
theorem WP_pickB {P : Program} {rest : List Item} {K : List AV → Heap → Prop} {x y : AV} {b : Bool} {H : Heap} {f : AV → Heap → Prop} {t : Tk f} (h1 : b = true → f x H) (h2 : b = false → f y H) : bindO (match AV.bool b with | .bool true => some (x, H) | .bool false => some (y, H) | _ => none) f t := by
  cases b
  · exact h2 rfl
  · exact h1 rfl
theorem W.ifNB {c : Operand} {ts : List AV} {x y : Code} {b : Bool} (hc : look ts c = .bool (!b)) (h1 : b = false → W P n0 x ts H Q) (h2 : b = true → W P n0 y ts H Q) : W P n0 (.cond c x y) ts H Q := by
  refine W.cond hc ?_
  cases b
  · exact h1 rfl
  · exact h2 rfl
theorem W.retE {P : Program} {fn : Func} {ts : List AV} {H : Heap} {r r0 : AV} (h : aResults P fn ts H = some r0) (hw : Weak (cv 0 H 8 r0) r) : W P 0 .ret ts H fun e ts H1 => (e = .normal ∨ e = .ret) ∧ ∃ r0, aResults P fn ts H1 = some r0 ∧ Weak (cv 0 H1 8 r0) r := .ret ⟨.inr rfl, r0, h, hw⟩
theorem pureCall {f : FuncId} {fn : Func} {c : Code} {args : List AV} {r : AV} (hf : P.funcs[f]? = some fn) (hb : fn.body = some c) (hn : fn.ntmps = n) (hl : decide (args.length ≤ n) = true)
    (h : W P 0 c (E n (argsE 0 args)) [] fun e ts H1 => (e = .normal ∨ e = .ret) ∧ ∃ r0, aResults P fn ts H1 = some r0 ∧ Weak (cv 0 H1 8 r0) r) : PureCall P f args r :=
  pure_of_W hf hb (by subst hn; exact .le (Le.temps (weakL_args args _ (of_decide_eq_true hl))) h)
end
end Go.Ab

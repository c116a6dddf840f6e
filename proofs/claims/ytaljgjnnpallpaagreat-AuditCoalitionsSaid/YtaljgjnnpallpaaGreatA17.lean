/- Loops over functions: what an iterator hands out, one after the other, and a function whose text holds such a loop. -/
import Derived.Test.YtaljgjnnpallpaaGreatA16
set_option linter.unusedVariables false
set_option linter.unusedSimpArgs false
namespace Go.Ab
open Go.RowKit

/-! ### the iterator -/
def KN (φ : Phi) (w : World) : Prop := ∀ B i v, φ.K B i = some v → w.cell? ⟨B, i, none⟩ = some v
theorem KN.rel {φ : Phi} {w : World} (h : KN φ w) : Rel w.heap.size w φ.pure [] w := ⟨.refl _ _, Nat.le_refl _, fun _ _ _ e => (by cases e), fun _ _ _ _ _ e => (by cases e), fun _ _ _ _ e => (by simp at e), h, fun _ _ _ => rfl, fun _ e => (by cases e), fun _ _ _ e => (by simp at e)⟩
theorem phi_pure_pure (φ : Phi) : φ.pure.pure = φ.pure := rfl

/-- One operation that only looks. -/
def Looks (P : Program) (o : Oper) (ts : List AV) (r : AV) : Prop := (∀ c, o.op ≠ .defer c) ∧
  ∀ (φ : Phi) (a : Act) (w : World), KN φ w → (∀ x, x ∈ o.op.operands → VR φ.pure (look ts x) (a.eval x)) → ∃ v, (execOp a.eval o).run P w = .ok (.value v) w ∧ VR φ.pure r v
def simpleOp : Op → Bool
  | .move _ | .assign _ | .load _ _ | .binOp _ _ _ _ _ | .unOp _ _ _ | .fieldAddr _ _ _ | .indexAddr _ _ _ | .convert _ _ _ | .index _ _ _ | .field _ _ _ => true
  | .call { callee := .builtin .len, args := args, argTypes := tys } => args.size == 1 && tys.size == 1
  | _ => false
theorem looks_of_aOp {P : Program} {o : Oper} {ts : List AV} {r : AV} {H' : Heap} (hs : simpleOp o.op = true) (h : aOp P o.op ts [] = some (r, H')) : Looks P o ts r := by
  have val : ∀ (φ : Phi) (w : World) (s : Sem Value), (∃ v, s.run P w = .ok v w ∧ VR φ.pure r v) → ∃ v, (do pure (Next.value (← s)) : Sem Next).run P w = .ok (.value v) w ∧ VR φ.pure r v := fun φ w s ⟨v, h1, h2⟩ => ⟨v, by simp [h1], h2⟩
  obtain ⟨dst, op, ty, pos, after, guard⟩ := o
  simp only at hs h
  refine ⟨fun c hc => by simp only at hc; rw [hc] at hs; simp [simpleOp] at hs, fun φ a w hkn hl => ?_⟩
  have hrel := hkn.rel
  cases op <;> first
    | (simp [simpleOp] at hs; done)
    | skip
  case move x =>
    simp only [aOp, Option.some.injEq, Prod.mk.injEq] at h
    obtain ⟨rfl, _⟩ := h
    exact ⟨_, by simp [execOp], hl x (by simp [Op.operands])⟩
  case assign x =>
    simp only [aOp, Option.some.injEq, Prod.mk.injEq] at h
    obtain ⟨rfl, _⟩ := h
    exact ⟨_, by simp [execOp], hl x (by simp [Op.operands])⟩
  case load t x =>
    simp only [aOp] at h
    exact val φ w _ (aLoad_ok hrel (hl x (by simp [Op.operands])) (withH_some h).1)
  case binOp op t x y yt =>
    simp only [aOp] at h
    exact val φ w _ (aBin_ok (hl x (by simp [Op.operands])) (hl y (by simp [Op.operands])) (withH_some h).1)
  case unOp op t x =>
    simp only [aOp] at h
    exact val φ w _ (aUn_ok (hl x (by simp [Op.operands])) (withH_some h).1)
  case fieldAddr s x f =>
    simp only [aOp] at h
    exact val φ w _ (aField_ok (hl x (by simp [Op.operands])) (withH_some h).1)
  case field s x f =>
    simp only [aOp] at h
    exact val φ w _ (aFieldV_ok (hl x (by simp [Op.operands])) (withH_some h).1)
  case indexAddr t x i =>
    simp only [aOp] at h
    exact val φ w _ (aIndexAddr_ok (hl x (by simp [Op.operands])) (hl i (by simp [Op.operands])) (withH_some h).1)
  case index t x i =>
    simp only [aOp] at h
    exact val φ w _ (aIndexV_ok (hl x (by simp [Op.operands])) (hl i (by simp [Op.operands])) (withH_some h).1)
  case convert s d x =>
    simp only [aOp] at h
    exact val φ w _ (aConv_ok (hl x (by simp [Op.operands])) (withH_some h).1)
  case call c =>
    obtain ⟨callee, args, tys⟩ := c
    cases callee <;> first
      | (simp [simpleOp] at hs; done)
      | skip
    rename_i b
    cases b <;> first
      | (simp [simpleOp] at hs; done)
      | skip
    simp only [simpleOp, Bool.and_eq_true, beq_iff_eq] at hs
    obtain ⟨x, rfl⟩ := Array.size_eq_one_iff.1 hs.1
    obtain ⟨t, rfl⟩ := Array.size_eq_one_iff.1 hs.2
    simp only [aOp, aBuiltin, List.map_cons, List.map_nil] at h
    obtain ⟨v, h1, h2⟩ := aLenOf_ok (P := P) (w := w) ty (hl x (by simp [Op.operands, Call.operands])) (withH_some h).1
    exact ⟨v, by simp [execOp, resolve, invoke, builtin, h1], h2⟩

/-- The rounds of the loop l: at the k-th, xs[k] is handed to it. -/
def Yields (P : Program) (φ : Phi) (l : Nat) (J : Nat → World → Prop) (xs : List (List AV)) : Prop :=
  ∀ k as W (args : Array Value) ro, xs[k]? = some as → VRs φ.pure as args.toList → KN φ W → J k W → YieldAt (Fw ro) 0 P l args W fun e W' => e = .returned (.bool true) ∧ J (k + 1) W' ∧ KN φ W'

def WJPost (φ : Phi) (J : Nat → World → Prop) (ds : List Deferred) (Q : Ex → List AV → Nat → Prop) : Exit → Act → World → Prop := fun e a w =>
  ∃ x ts k, e = x.toExit ∧ Q x ts k ∧ KN φ w ∧ TR φ.pure ts a.tmps ∧ J k w ∧ a.defers = ds
/-- The iterator's code: k rounds are over. -/
def WJ (P : Program) (l : Nat) (xs : List (List AV)) (c : Code) (ts : List AV) (k : Nat) (Q : Ex → List AV → Nat → Prop) : Prop :=
  ∀ φ J, Yields P φ l J xs → ∀ ro (a : Act) w, KN φ w → TR φ.pure ts a.tmps → J k w → c.wpIn (Fw ro) 0 P (WJPost φ J a.defers Q) a w

section
variable {P : Program} {l : Nat} {xs : List (List AV)} {ts : List AV} {k : Nat} {Q Q' : Ex → List AV → Nat → Prop}

theorem WJ.weaken {c : Code} (h : WJ P l xs c ts k Q) (hq : ∀ e ts' k', Q e ts' k' → Q' e ts' k') : WJ P l xs c ts k Q' := fun φ J hy ro a w h1 h2 h3 =>
  wpIn_mono (h φ J hy ro a w h1 h2 h3) fun e a' w' ⟨x, ts', k', e1, q, r⟩ => ⟨x, ts', k', e1, hq _ _ _ q, r⟩
theorem WJ.temps {c : Code} {ts' : List AV} (hl : WeakL ts ts') (h : WJ P l xs c ts' k Q) : WJ P l xs c ts k Q := fun φ J hy ro a w h1 h2 h3 => h φ J hy ro a w h1 (hl.ok h2) h3

def thenJ (K : List AV → Nat → Prop) (Q : Ex → List AV → Nat → Prop) : Ex → List AV → Nat → Prop
  | .normal, ts, k => K ts k
  | e, ts, k => Q e ts k
def inBlockJ (id : Nat) (Q : Ex → List AV → Nat → Prop) : Ex → List AV → Nat → Prop
  | .exit id', ts, k => if id' = id then Q .normal ts k else Q (.exit id') ts k
  | e, ts, k => Q e ts k
theorem WJ.skip (h : Q .normal ts k) : WJ P l xs .skip ts k Q := fun φ J hy ro a w h1 h2 h3 => wpIn_skip ⟨.normal, ts, k, rfl, h, h1, h2, h3, rfl⟩
theorem WJ.exit {id : Nat} (h : Q (.exit id) ts k) : WJ P l xs (.exit id) ts k Q := fun φ J hy ro a w h1 h2 h3 => wpIn_exit ⟨.exit id, ts, k, rfl, h, h1, h2, h3, rfl⟩
theorem WJ.ret (h : Q .ret ts k) : WJ P l xs .ret ts k Q := fun φ J hy ro a w h1 h2 h3 => wpIn_ret ⟨.ret, ts, k, rfl, h, h1, h2, h3, rfl⟩
theorem WJ.seq {x y : Code} (h : WJ P l xs x ts k (thenJ (fun ts' k' => WJ P l xs y ts' k' Q) Q)) : WJ P l xs (.seq x y) ts k Q := fun φ J hy ro a w h1 h2 h3 =>
  wpIn_seq (wpIn_mono (h φ J hy ro a w h1 h2 h3) fun e a' w' hp => by
    obtain ⟨x, ts', k', rfl, q, g1, g2, g3, hd⟩ := hp
    cases x with
    | normal =>
      have := q φ J hy ro a' w' g1 g2 g3
      rw [hd] at this
      exact this
    | exit id => exact ⟨.exit id, ts', k', rfl, q, g1, g2, g3, hd⟩
    | ret => exact ⟨.ret, ts', k', rfl, q, g1, g2, g3, hd⟩)
theorem WJ.cond {c : Operand} {x y : Code} {b : Bool} (hc : look ts c = .bool b) (h : WJ P l xs (if b then x else y) ts k Q) : WJ P l xs (.cond c x y) ts k Q := fun φ J hy ro a w h1 h2 h3 => by
  have hv := TR.look h2 c
  rw [hc] at hv
  refine wpIn_cond (t := b) ?_ (h φ J hy ro a w h1 h2 h3)
  generalize a.eval c = y at hv
  cases hv; rfl
theorem WJ.block {id : Nat} {c : Code} (h : WJ P l xs c ts k (inBlockJ id Q)) : WJ P l xs (.block id c) ts k Q := fun φ J hy ro a w h1 h2 h3 =>
  wpIn_block (wpIn_mono (h φ J hy ro a w h1 h2 h3) fun e a' w' hp => by
    obtain ⟨x, ts', k', rfl, q, g1, g2, g3, hd⟩ := hp
    cases x with
    | normal => exact ⟨.normal, ts', k', rfl, q, g1, g2, g3, hd⟩
    | exit id' =>
      simp only [inBlockJ] at q
      simp only [Exit.inBlock, Ex.toExit]
      split
      · rename_i he
        rw [if_pos he] at q
        exact ⟨.normal, ts', k', rfl, q, g1, g2, g3, hd⟩
      · rename_i he
        rw [if_neg he] at q
        exact ⟨.exit id', ts', k', rfl, q, g1, g2, g3, hd⟩
    | ret => exact ⟨.ret, ts', k', rfl, q, g1, g2, g3, hd⟩)

open Classical in
theorem WJ.loop {c : Code} (I : Nat → List AV → Nat → Prop) (h0 : ∃ n ts', WeakL ts ts' ∧ I n ts' k)
    (round : ∀ n ts k, I n ts k → WJ P l xs c ts k (thenJ (fun ts' k' => ∃ m ts'', m < n ∧ WeakL ts' ts'' ∧ I m ts'' k') Q)) : WJ P l xs (.loop c) ts k Q := fun φ J hy ro a w h1 h2 h3 => by
  let R : Act → World → Nat → Prop := fun a' w' n => a'.defers = a.defers ∧ ∃ ts' k', I n ts' k' ∧ KN φ w' ∧ TR φ.pure ts' a'.tmps ∧ J k' w'
  refine wpIn_loop (fun a' w' => ∃ n, R a' w' n) (fun a' w' => if h : ∃ n, R a' w' n then (exists_least h.choose h.choose_spec).choose else 0) ?_ fun a' w' hI => ?_
  · obtain ⟨n, ts', hl, hi⟩ := h0
    exact ⟨n, rfl, ts', k, hi, h1, hl.ok h2, h3⟩
  · obtain ⟨hm, _⟩ := (exists_least hI.choose hI.choose_spec).choose_spec
    have hμ : (if h : ∃ n, R a' w' n then (exists_least h.choose h.choose_spec).choose else 0) = (exists_least hI.choose hI.choose_spec).choose := dif_pos hI
    generalize (exists_least hI.choose hI.choose_spec).choose = m at hm hμ
    obtain ⟨hd, ts', k', hi, g1, g2, g3⟩ := hm
    refine wpIn_mono (round m ts' k' hi φ J hy ro a' w' g1 g2 g3) fun e a2 w2 hp => ?_
    obtain ⟨x, ts2, k2, rfl, q, p1, p2, p3, hd2⟩ := hp
    cases x with
    | normal =>
      obtain ⟨m', ts3, hlt, hl, hi3⟩ := q
      have hR : R a2 w2 m' := ⟨hd2.trans hd, ts3, k2, hi3, p1, hl.ok p2, p3⟩
      refine ⟨⟨m', hR⟩, ?_⟩
      rw [hμ]
      have hex : ∃ n, R a2 w2 n := ⟨m', hR⟩
      show (if h : ∃ n, R a2 w2 n then (exists_least h.choose h.choose_spec).choose else 0) < m
      rw [dif_pos hex]
      exact Nat.lt_of_le_of_lt ((exists_least hex.choose hex.choose_spec).choose_spec.2 m' hR) hlt
    | exit id => exact ⟨.exit id, ts2, k2, rfl, q, p1, p2, p3, hd2.trans hd⟩
    | ret => exact ⟨.ret, ts2, k2, rfl, q, p1, p2, p3, hd2.trans hd⟩

/-- The operations of a region in the order of its text. -/
def GP (P : Program) (l : Nat) (xs : List (List AV)) (ops : Array Oper) : List Nat → List AV → Nat → (List AV → Nat → Prop) → Prop
  | [], ts, k, K => K ts k
  | i :: rest, ts, k, K => ∃ o, ops[i]? = some o ∧ o.guard = none ∧
    ((∃ r H', simpleOp o.op = true ∧ aOp P o.op ts [] = some (r, H') ∧ GP P l xs ops rest (putA ts o.dst r) k K) ∨
     (∃ x args tys, o.op = .call ⟨.value x, args, tys⟩ ∧ look ts x = .yld l ∧ xs[k]? = some (args.toList.map (look ts)) ∧ GP P l xs ops rest (putA ts o.dst (.bool true)) (k + 1) K))
theorem GP_ok {ops : Array Oper} {φ : Phi} {J : Nat → World → Prop} (hy : Yields P φ l J xs) : ∀ (is : List Nat) (ts : List AV) (k : Nat) (K : List AV → Nat → Prop) (ro : Option Nat) (a : Act) (w : World), GP P l xs ops is ts k K → KN φ w → TR φ.pure ts a.tmps → J k w →
    wpOpsIn (Fw ro) 0 P ops (WJPost φ J a.defers fun e ts' k' => e = .normal ∧ K ts' k') is a w
  | [], ts, k, K, ro, a, w, h, h1, h2, h3 => ⟨.normal, ts, k, rfl, ⟨rfl, h⟩, h1, h2, h3, rfl⟩
  | i :: rest, ts, k, K, ro, a, w, h, h1, h2, h3 => by
    obtain ⟨o, ho, hg, h⟩ := h
    simp only [wpOpsIn, ho]
    rw [if_pos (by simp [Region.wanted, hg])]
    refine ⟨fun _ _ => trivial, ?_⟩
    rcases h with ⟨r, H', hs, ha, h⟩ | ⟨x, args, tys, hop, hx, hxs, h⟩
    · obtain ⟨hd, hlk⟩ := looks_of_aOp hs ha
      rw [Oper.semAt_eq _ _ _ hd]
      obtain ⟨v, e1, e2⟩ := hlk φ a w h1 fun x _ => TR.look h2 x
      rw [e1]
      have := GP_ok hy rest _ k K ro (a.put o.dst v) w h h1 (TR.put h2 o.dst e2) h3
      rw [put_defers] at this
      exact this
    · rw [Oper.semAt_eq _ _ _ (by intro c hc; rw [hop] at hc; cases hc)]
      have hv := TR.look h2 x
      rw [hx] at hv
      generalize hyv : a.eval x = y at hv
      cases hv
      obtain ⟨fn, tmps, assign, body, hyl, hround⟩ := hy k _ w (args.map a.eval) ro hxs (by rw [Array.toList_map]; exact looks _ fun z _ => TR.look h2 z) h1 h3
      have hrun : (execOp a.eval o).run P w = .ok (.round l fn tmps assign body) w := by
        obtain ⟨dst, op, ty, pos, after, guard⟩ := o
        simp only at hop
        subst hop
        simp [execOp, resolve, hyv, Deferred.ofValue, invoke, hyl]
      rw [hrun]
      refine ⟨fun e => by simp [Fw, Fence.wide] at e, ?_⟩
      refine RoundIn.mono hround fun e w' ⟨he, hj, hk⟩ => ?_
      subst he
      have := GP_ok hy rest _ (k + 1) K ro (a.put o.dst (.bool true)) w' h hk (TR.put h2 o.dst (.bool true)) hj
      rw [put_defers] at this
      exact this
theorem WJ.region {id : Nat} {ops : Array Oper} (h : GP P l xs ops (List.range ops.size) ts k fun ts' k' => Q .normal ts' k') : WJ P l xs (.region id ops false) ts k Q := fun φ J hy ro a w h1 h2 h3 =>
  wpIn_mono (wpIn_region (GP_ok hy _ ts k _ ro a w h h1 h2 h3)) fun e a' w' ⟨x, ts', k', e1, ⟨e2, q⟩, r⟩ => by
    subst e2
    exact ⟨.normal, ts', k', e1, q, r⟩
end

/-- A function value that hands out xs to whoever ranges over it. -/
def Gen (P : Program) (f : FuncId) (cap : List AV) (xs : List (List AV)) : Prop := enters P f = true ∧ pureBs cap = true ∧
  ∀ φ l J, Yields P φ l J xs → ∀ w (cap' : Array Value), KN φ w → VRs φ.pure cap cap'.toList → J 0 w →
    CallsIn (Fw none) 0 P f (#[.func (.yield l) #[] #[]] ++ cap') w fun e w' => (∃ v, e = .returned v) ∧ J xs.length w' ∧ KN φ w'
theorem Gen.of_WJ {P : Program} {f : FuncId} {fn : Func} {c : Code} {cap : List AV} {xs : List (List AV)} (he : enters P f = true) (hp : pureBs cap = true) (hf : P.funcs[f]? = some fn) (hb : fn.body = some c) (hr : fn.results = #[]) {n : Nat} (hn : fn.ntmps = n) (hl : decide (1 + cap.length ≤ n) = true)
    (h : ∀ l, WJ P l xs c (E n (argsE 0 (.yld l :: cap))) 0 fun e ts k => (e = .normal ∨ e = .ret) ∧ k = xs.length) : Gen P f cap xs := by
  refine ⟨he, hp, fun φ l J hy w cap' h1 h2 h3 => callsIn_of_wp hf hb trivial ?_⟩
  have hlen := h2.length
  have hl' := of_decide_eq_true hl
  have ht : TR φ.pure (E n (argsE 0 (.yld l :: cap))) ((#[Value.func (.yield l) #[] #[]] ++ cap') ++ Array.replicate (fn.ntmps - (#[Value.func (.yield l) #[] #[]] ++ cap').size) undef) := by
    show VRs φ.pure _ (Array.toList _)
    have hw := weakL_args (.yld l :: cap) n (by simp; omega)
    refine hw.ok ?_
    rw [Array.toList_append, Array.toList_replicate, hn, show (#[Value.func (.yield l) #[] #[]] ++ cap').size = (AV.yld l :: cap).length by simp at hlen ⊢; omega]
    refine VRs.append ?_ (VRs.replicate (.tuple .nil) _)
    rw [Array.toList_append]
    exact .cons (.yld l) h2
  refine wpIn_mono (h l φ J hy none _ w h1 ht h3) fun e a' w' hp => ?_
  obtain ⟨x, ts, k, rfl, ⟨hx, rfl⟩, g1, g2, g3, hd⟩ := hp
  have hres : ∃ v, (results fn a'.tmps).run P w' = .ok v w' := ⟨.tuple #[], by simp [results, hr]⟩
  obtain ⟨v, hv⟩ := hres
  rcases hx with rfl | rfl
  · exact ⟨hd, v, hv, ⟨v, rfl⟩, g3, g1⟩
  · exact ⟨hd, v, hv, ⟨v, rfl⟩, g3, g1⟩

/-! ### the function that ranges over it -/
theorem Bel.trans {base : Nat} {a b c : World} (h : Bel base a b) (k : Bel base b c) : Bel base a c := ⟨h.bel.trans k.bel, h.objs.trans k.objs⟩
theorem Rel.rebase {base : Nat} {w0 w1 w : World} {φ : Phi} {H : Heap} (hb : Bel base w0 w1) (h : Rel base w1 φ H w) : Rel base w0 φ H w := ⟨hb.trans h.below, h.size, h.dom, h.lt, h.blk, h.know, h.zz, h.zdom, h.inj⟩
theorem Rel.self {base : Nat} {w0 w : World} {φ : Phi} {H : Heap} (h : Rel base w0 φ H w) : Rel base w φ H w := ⟨.refl _ _, h.size, h.dom, h.lt, h.blk, h.know, h.zz, h.zdom, h.inj⟩
/-- Whatever leaves cells as they are. -/
theorem Rel.cellsStay {base : Nat} {w0 : World} {φ : Phi} {H : Heap} {w w' : World} (h : Rel base w0 φ H w) (hb : Bel base w0 w') (hs : w.heap.size ≤ w'.heap.size) (hc : ∀ (B : Nat) (c : Array Value) (e : TypeId) (fz : Nat × Nat), w.heap[B]? = some (Obj.cells c e fz) → w'.heap[B]? = some (Obj.cells c e fz)) : Rel base w0 φ H w' := by
  have cell : ∀ B i v, w.cell? ⟨B, i, none⟩ = some v → w'.cell? ⟨B, i, none⟩ = some v := fun B i v e => by
    unfold World.cell? at e ⊢
    cases ho : w.heap[B]? with
    | none => simp [ho] at e
    | some o =>
      cases o with
      | cells c t fz => simp only [ho] at e; simp only [hc B c t fz ho]; exact e
      | _ => simp [ho] at e
  refine ⟨hb, Nat.le_trans h.size hs, h.dom, fun b v B o S hx => Nat.lt_of_lt_of_le (h.lt b v B o S hx) hs, fun b cells mv ro hb v B o S hφ => ?_, fun B i v hv => cell _ _ _ (h.know B i v hv), h.zz, h.zdom, h.inj⟩
  have k := h.blk b cells mv ro hb v B o S hφ
  obtain ⟨c, e, fz, h1, h2⟩ := k.lies
  refine ⟨k.ver, k.min, k.room, ⟨c, e, fz, hc _ _ _ _ h1, h2⟩, fun hm i x hi hx => let ⟨y, g1, g2⟩ := k.reads hm i x hi hx; ⟨y, cell _ _ _ g1, g2⟩, fun hr => ⟨(k.own hr).1, (k.own hr).2.1, fun i hi => ?_⟩, k.free⟩
  have := (k.own hr).2.2 i hi
  simp only [World.frozen?, h1, hc _ _ _ _ h1] at this ⊢
  exact this
theorem Rel.putObj {base : Nat} {w0 : World} {φ : Phi} {H : Heap} {w : World} (h : Rel base w0 φ H w) {r : Nat} {o : Obj} (o' : Obj) (hr : w.heap[r]? = some o) (ho : o.isCells = false) (h1 : base ≤ r) (h2 : w0.heap.size ≤ r) : Rel base w0 φ H (w.putObj r o') := by
  refine h.cellsStay ⟨⟨h.below.bel.os, h.below.bel.tape, h.below.bel.output, by simpa using h.below.bel.size, fun k hk => ?_⟩, ⟨by simpa using h.below.objs.size, fun k o1 hk hc => ?_⟩⟩ (by simp) fun B c e fz hB => ?_
  · rw [World.putObj_heap_other (by omega)]; exact h.below.bel.block k hk
  · have : k < w0.heap.size := (Array.getElem?_eq_some_iff.1 hk).1
    rw [World.putObj_heap_other (by omega)]; exact h.below.objs.same k o1 hk hc
  · rw [World.putObj_heap_other (fun e => by subst e; rw [hr] at hB; injection hB with hB; subst hB; simp [Obj.isCells] at ho)]; exact hB

/-- What is said of what a call hands back: of the machine's blocks from base on, of the places, of the value. -/
abbrev Res := Nat → Phi → Value → Prop
abbrev isA (r : AV) : Res := fun _ φ v => VR φ r v
def PostR (R : Res) (base : Nat) (w0 : World) (φ : Phi) : Ending → World → Prop := fun e w' => ∃ v φ', e = .returned v ∧ Ext base 0 φ φ' ∧ Rel base w0 φ' [] w' ∧ R base φ' v
def RCall (P : Program) (f : FuncId) (args : List AV) (R : Res) : Prop :=
  ∀ base w0 φ w (args' : Array Value), Rel base w0 φ [] w → VRs φ args args'.toList → Calls P f args' w (PostR R base w0 φ)
theorem RCall.pure {P : Program} {f : FuncId} {args : List AV} {r : AV} (h : RCall P f args (isA r)) : PureCall P f args r := fun base w0 φ w args' hrel hargs =>
  Calls.mono (h base w0 φ w args' hrel hargs) fun e w' ⟨v, φ', e1, e2, e3, e4⟩ => ⟨v, φ', e1, e2, Nat.le_refl _, e3, e4⟩
/-- What of the result r0 the caller is told. -/
def Fin (R : Res) (h : Heap) (r0 : AV) : Prop := ∀ base w0 φ w v, Rel base w0 φ h w → VR φ r0 v → R base (lowPhi φ h w 0) v
theorem Fin.of_weak {h : Heap} {r0 r : AV} (hw : Weak (cv 0 h 8 r0) r) : Fin (isA r) h r0 := fun base w0 φ w v hr hv => hw _ _ (cv_ok hr 0 8 _ _ hv)

/-- The code of a function, some way on, with a loop over a function still to come. -/
def WMR (P : Program) (fn : Func) (R : Res) (c : Code) (ts : List AV) (H : Heap) : Prop :=
  ∀ base w0 φ0 (a : Act) w φ, St base w0 φ0 0 ts H a w φ → a.defers = [] → c.wpIn (Fw none) 0 P (bodyPostM (Fw none) 0 P fn (PostR R base w0 φ0)) a w
abbrev WM (P : Program) (fn : Func) (r : AV) (c : Code) (ts : List AV) (H : Heap) : Prop := WMR P fn (isA r) c ts H
def setAll : List Tmp → List AV → List AV → List AV
  | t :: ps, x :: xs, ts => setAll ps xs (ts.set t x)
  | _, _, ts => ts
theorem setAll_ok {φ : Phi} : ∀ (ps : List Tmp) (xs : List AV) (vs : List Value) (ts : List AV) (tmps : Array Value), VRs φ xs vs → TR φ ts tmps → TR φ (setAll ps xs ts) ((ps.zip vs).foldl (fun t p => t.setIfInBounds p.1 p.2) tmps)
  | [], _, _, ts, tmps, _, h => by simpa [setAll] using h
  | _ :: _, _, _, ts, tmps, .nil, h => by simpa [setAll] using h
  | t :: ps, x :: xs, v :: vs, ts, tmps, .cons hx hxs, h => by
    simp only [setAll, List.zip_cons_cons, List.foldl_cons]
    refine setAll_ok ps xs vs _ _ hxs ?_
    show VRs φ (ts.set t x) (tmps.setIfInBounds t v).toList
    rw [Array.toList_setIfInBounds]
    exact VRs.set t h hx

section
variable {P : Program} {fn : Func} {r : AV} {R : Res} {ts ts' : List AV} {H H' : Heap}
theorem WMR.of_W {c : Code} (h : W P 0 c ts H fun e ts H1 => (e = .normal ∨ e = .ret) ∧ ∃ r0, aResults P fn ts H1 = some r0 ∧ Fin R H1 r0) : WMR P fn R c ts H := by
  intro base w0 φ0 a w φ s hd0
  refine wpIn_mono (h base w0 φ0 none a w φ s) fun e a' w' hp => ?_
  obtain ⟨x, ts1, H1, φ1, rfl, ⟨hx, r0, hr, hw⟩, s1, hd⟩ := hp
  obtain ⟨v, hv1, hv2⟩ := aResults_ok s1.rel s1.tr hr
  have hl := s1.rel.lower 0 8
  have hpost : PostR R base w0 φ0 (.returned v) w' := ⟨v, lowPhi φ1 H1 w' 0, rfl, s1.ext.lower s1.rel (fun b v X e => (s1.dom0 b v X e).1) s1.domZ (Nat.le_refl _), by simpa [Go.Ab.lower] using hl, hw _ _ _ _ _ s1.rel hv2⟩
  rw [hd0] at hd
  rcases hx with rfl | rfl
  · show LeavesInM _ _ _ _ _ _ _ _ _
    rw [hd]; exact ⟨v, hv1, hpost⟩
  · show LeavesInM _ _ _ _ _ _ _ _ _
    rw [hd]; exact ⟨v, hv1, hpost⟩
theorem WMR.seq {x y : Code} (h : W P 0 x ts H fun e t h => e = .normal ∧ WMR P fn R y t h) : WMR P fn R (.seq x y) ts H := fun base w0 φ0 a w φ s hd0 =>
  wpIn_seq (wpIn_mono (h base w0 φ0 none a w φ s) fun e a' w' hp => by
    obtain ⟨x, ts1, H1, φ1, rfl, ⟨rfl, q⟩, s1, hd⟩ := hp
    exact q base w0 φ0 a' w' φ1 s1 (hd.trans hd0))

/-- What is asked where the loop over a function begins: the iterator, what holds between two rounds, one round, and what comes behind the loop. -/
def RGR (P : Program) (fn : Func) (R : Res) (g : Operand) (ps : Array Tmp) (assign body rest : Code) (ts' : List AV) (H' : Heap) : Prop :=
  ∃ (gf : FuncId) (cap : List AV) (xs : List (List AV)) (I : Nat → Heap → Prop), look ts' g = .func gf [] cap ∧ Gen P gf cap xs ∧ (∀ a, a ∈ xs → a.length = ps.size) ∧ I 0 H' ∧
    (∀ k a Hk, xs[k]? = some a → I k Hk → H'.length ≤ Hk.length → W P H'.length assign (setAll ps.toList a ts') Hk fun e t h => e = .normal ∧ W P H'.length body t h fun e t h => e = .normal ∧ ∃ t2 h2, Le H'.length t h t2 h2 ∧ I (k + 1) h2) ∧
    (∀ HN, I xs.length HN → H'.length ≤ HN.length → W P H'.length rest ts' HN fun e t h => (e = .normal ∨ e = .ret) ∧ ∃ r0, aResults P fn t h = some r0 ∧ Fin R h r0)
theorem WMR.range {x rest assign body : Code} {id : Nat} {g : Operand} {ps : Array Tmp}
    (hx : W P 0 x ts H fun e t h => e = .normal ∧ RGR P fn R g ps assign body rest t h) :
    WMR P fn R (.seq (.seq x (.block id (.rangeFunc g ps assign body))) rest) ts H := fun base w0 φ0 a₀ w₀ φ₀ s₀ hd0 => by
  refine wpIn_seq (wpIn_seq (wpIn_mono (hx base w0 φ0 none a₀ w₀ φ₀ s₀) fun e a w hp => ?_))
  obtain ⟨_, ts', H', φ, rfl, ⟨rfl, gf, cap, xs, I, hg, hgen, hps, h0, hround, hrest⟩, s, hd⟩ := hp
  have hda : a.defers = [] := hd.trans hd0
  show (Code.block id (.rangeFunc g ps assign body)).wpIn _ _ _ _ a w
  refine wpIn_block ?_
  obtain ⟨hge, hgp, hgen⟩ := hgen
  have hgv := s.tr.look g
  rw [hg] at hgv
  obtain ⟨cap', heg, hcap⟩ : ∃ cap', a.eval g = .func (.func gf) #[] cap' ∧ VRs φ cap cap'.toList := by
    generalize a.eval g = y at hgv
    cases hgv with
    | func k1 k2 =>
      rename_i fst cp
      refine ⟨cp, ?_, k2⟩
      have : fst.toList = [] := by cases hh : fst.toList with
        | nil => rfl
        | cons => rw [hh] at k1; cases k1
      rw [show fst = #[] by rw [← Array.toList_inj]; simpa using this]
  refine wpIn_rangeFunc ?_
  intro fnid _
  obtain ⟨rec, hrec⟩ : ∃ rec : LoopState → Option Code → Loop, rec = fun st pe => { state := st, pending := pe, fn := fnid, tmps := a.tmps, params := ps, assign, body, defers := w.heap.size } := ⟨_, rfl⟩
  obtain ⟨W1, hW1⟩ : ∃ W1, (w.alloc (.deferred (some []))).alloc (.loop (rec .ready none)) = W1 := ⟨_, rfl⟩
  have hL1 : W1.heap[w.heap.size + 1]? = some (.loop (rec .ready none)) := by
    rw [← hW1]; have := World.alloc_heap_new (w.alloc (.deferred (some []))) (.loop (rec .ready none)); rwa [World.size_alloc] at this
  have hK1 : W1.heap[w.heap.size]? = some (.deferred (some [])) := by
    rw [← hW1]; exact (Below.heap_alloc _ _ _ (by simp)).trans (World.alloc_heap_new w _)
  have hb1 : Below w.heap.size w W1 := by
    rw [← hW1]; exact (((Below.refl _ w).alloc (Nat.le_refl _) _).alloc (by simp) _)
  have hbase : base ≤ w.heap.size := s.rel.size
  have hw0 : w0.heap.size ≤ w.heap.size := s.rel.below.bel.size
  have hcapP : VRs φ.pure cap cap'.toList := hcap.toPure hgp
  let J : Nat → World → Prop := fun k W => (∃ Hk φk, I k Hk ∧ Rel base w0 φk Hk W ∧ Ext base H'.length φ φk ∧ H'.length ≤ Hk.length) ∧ W.heap[w.heap.size + 1]? = some (.loop (rec .ready none)) ∧ W.heap[w.heap.size]? = some (.deferred (some []))
  have hJK : ∀ k W, J k W → KN φ W := fun k W hj => by
    obtain ⟨⟨Hk, φk, _, hr, he, _⟩, _⟩ := hj
    exact fun B i v hv => hr.know B i v (he.sub.K _ _ _ hv)
  have hJ0 : J 0 W1 := ⟨⟨H', φ, h0, s.rel.later hb1, Ext.refl _ _ _, Nat.le_refl _⟩, hL1, hK1⟩
  have hY : Yields P φ (w.heap.size + 1) J xs := by
    intro k as W args ro hxs has hkn hj
    obtain ⟨⟨Hk, φk, hi, hr, he, hle⟩, hl, hdef⟩ := hj
    have hsz : args.size = (rec .ready none).params.size := by
      have := has.length
      rw [hrec]
      have h2 := hps as (List.mem_of_getElem? hxs)
      simp at this ⊢; omega
    have hy := run_yield (P := P) (args := args) hl hsz
    rw [hrec] at hy
    refine ⟨fnid, _, assign, body, hy, roundIn_of_wpIn trivial ?_⟩
    have hst : St base W φ H'.length (setAll ps.toList as ts') Hk { tmps := (ps.zip args).foldl (fun t (p, v) => t.setIfInBounds p v) a.tmps, defers := [] } W φk := by
      refine ⟨hr.self, ?_, he, hle, fun b v X e => ⟨s.rel.dom b v X e, fun _ h => (by cases h)⟩, s.rel.zdom⟩
      have := setAll_ok ps.toList as args.toList ts' a.tmps ((has.mono (Phi.pure_sub φ)).mono he.sub) (s.tr.mono he.sub)
      have e : (ps.zip args).foldl (fun t (p, v) => t.setIfInBounds p v) a.tmps = (ps.toList.zip args.toList).foldl (fun t p => t.setIfInBounds p.1 p.2) a.tmps := by
        rw [← Array.foldl_toList, Array.toList_zip]
      rw [e]; exact this
    refine wpIn_mono (hround k as Hk hxs hi hle base W φ (some (w.heap.size + 1)) _ W φk hst) fun e a2 W2 hp => ?_
    obtain ⟨_, t2, H2, φ2, rfl, ⟨rfl, hbody⟩, s2, hd2⟩ := hp
    have hl2 := s2.rel.below.objs.same _ _ hl rfl
    have hdef2 := s2.rel.below.objs.same _ _ hdef rfl
    refine ⟨_, run_beginRound hl2 (by rw [hrec]), ?_⟩
    have hr2 : Rel base w0 φ2 H2 (W2.putObj (w.heap.size + 1) (.loop { rec .ready none with state := .busy })) := (s2.rel.rebase hr.below).putObj _ hl2 rfl (by omega) (by omega)
    have hl2' : (W2.putObj (w.heap.size + 1) (.loop { rec .ready none with state := .busy })).heap[w.heap.size + 1]? = some (.loop { rec .ready none with state := .busy }) := World.putObj_heap_same (Array.getElem?_eq_some_iff.1 hl2).1
    have hdef2' : (W2.putObj (w.heap.size + 1) (.loop { rec .ready none with state := .busy })).heap[w.heap.size]? = some (.deferred (some [])) := (World.putObj_heap_other (by omega)).trans hdef2
    have hst2 : St base (W2.putObj (w.heap.size + 1) (.loop { rec .ready none with state := .busy })) φ H'.length t2 H2 a2 (W2.putObj (w.heap.size + 1) (.loop { rec .ready none with state := .busy })) φ2 := ⟨hr2.self, s2.tr, s2.ext, s2.le, s2.dom0, s2.domZ⟩
    refine wpIn_mono (hbody base _ φ (some (w.heap.size + 1)) a2 _ φ2 hst2) fun e a3 W3 hp => ?_
    obtain ⟨_, t3, H3, φ3, rfl, ⟨rfl, t4, H4, hle4, hi4⟩, s3, hd3⟩ := hp
    have hl3 := s3.rel.below.objs.same _ _ hl2' rfl
    have hdef3 := s3.rel.below.objs.same _ _ hdef2' rfl
    obtain ⟨φ4, s4⟩ := hle4 _ _ _ _ _ _ s3
    have hend := run_endRound (P := P) none hl3
    refine ⟨_, _, hend, rfl, ?_⟩
    have hj4 : J (k + 1) (W3.putObj (w.heap.size + 1) (.loop { ({ rec .ready none with state := .busy } : Loop) with state := if (none : Option Code).isNone then .ready else .done, pending := none })) := by
      refine ⟨⟨H4, φ4, hi4, (s4.rel.rebase hr2.below).putObj _ hl3 rfl (by omega) (by omega), s4.ext, s4.le⟩, ?_, (World.putObj_heap_other (by omega)).trans hdef3⟩
      rw [World.putObj_heap_same (Array.getElem?_eq_some_iff.1 hl3).1, hrec]
      rfl
    exact ⟨hj4, hJK _ _ hj4⟩
  refine ⟨w.heap.size + 1, [{ target := .collected w.heap.size, args := #[] }], W1, { target := .fn (.func gf) cap', args := #[.func (.yield (w.heap.size + 1)) #[] #[]] }, W1, gf,
    #[.func (.yield (w.heap.size + 1)) #[] #[]] ++ cap', W1, ?_, ?_, ?_, ?_, fun e => by simp [Fw, Fence.wide] at e, ?_⟩
  · rw [← hW1, hrec]; exact run_enterLoop_outer _ _ _ _ _
  · simp only [resolve, heg]
    simp [go_sem]
  · intro f' hf'; trivial
  · simp only [invoke]
    exact run_callFunc hge _ _
  refine CallsIn.mono (hgen φ (w.heap.size + 1) J hY W1 cap' (hJK 0 W1 hJ0) hcapP hJ0) fun e W5 hp => ?_
  obtain ⟨⟨v, rfl⟩, ⟨⟨HN, φN, hiN, hrN, heN, hleN⟩, hlN, hdefN⟩, _⟩ := hp
  have hend := run_endLoop (P := P) hlN (by rw [hrec]; simp)
  refine ⟨_, _, hend, ?_⟩
  rw [hrec]
  show rest.wpIn _ _ _ _ _ _
  rw [← hrec]
  have hr6 := hrN.putObj (.loop { rec .ready none with state := .exhausted }) hlN rfl (by omega) (by omega)
  have hdef6 : (W5.putObj (w.heap.size + 1) (.loop { rec .ready none with state := .exhausted })).heap[w.heap.size]? = some (.deferred (some [])) := (World.putObj_heap_other (by omega)).trans hdefN
  generalize W5.putObj (w.heap.size + 1) (.loop { rec .ready none with state := .exhausted }) = W6 at hr6 hdef6
  have hst6 : St base W6 φ H'.length ts' HN { a with defers := [{ target := .collected w.heap.size, args := #[] }] ++ a.defers } W6 φN := ⟨hr6.self, s.tr.mono heN.sub, heN, hleN, fun b v X e => ⟨s.rel.dom b v X e, fun _ h => (by cases h)⟩, s.rel.zdom⟩
  refine wpIn_mono (hrest HN hiN hleN base W6 φ none _ W6 φN hst6) fun e a7 W7 hp => ?_
  obtain ⟨x7, t7, H7, φ7, rfl, ⟨hx7, r0, hr0, hw⟩, s7, hd7⟩ := hp
  have hdef7 := s7.rel.below.objs.same _ _ hdef6 rfl
  have hr8 : Rel base w0 φ7 H7 (W7.putObj w.heap.size (.deferred none)) := (s7.rel.rebase hr6.below).putObj _ hdef7 rfl (by omega) (by omega)
  obtain ⟨v, hv1, hv2⟩ := aResults_ok hr8 s7.tr hr0
  have hext : Ext base 0 φ0 φ7 := s.ext.trans s7.ext (Nat.zero_le _)
  have hl := hr8.lower 0 8
  have hpost : PostR R base w0 φ0 (.returned v) (W7.putObj w.heap.size (.deferred none)) := ⟨v, lowPhi φ7 H7 _ 0, rfl, hext.lower hr8 (fun b v X e => (s.dom0 b v X e).1) s.domZ (Nat.le_refl _), by simpa [Go.Ab.lower] using hl, hw _ _ _ _ _ hr8 hv2⟩
  have hleave : LeavesInM (Fw none) 0 P fn a7.tmps (PostR R base w0 φ0) a7.defers .returning W7 := by
    rw [hd7, hda]
    exact ⟨by simp, .inl ⟨w.heap.size, _, rfl, run_takeDeferred hdef7, v, hv1, hpost⟩⟩
  rcases hx7 with rfl | rfl
  · exact hleave
  · exact hleave

theorem rcall_of_WMR {f : FuncId} {c : Code} {args : List AV} {n : Nat} (hf : P.funcs[f]? = some fn) (hb : fn.body = some c) (hn : fn.ntmps = n) (hl : decide (args.length ≤ n) = true)
    (h : WMR P fn R c (E n (argsE 0 args)) []) : RCall P f args R := by
  intro base w0 φ w args' hrel hargs
  refine callsIn_wide (n := 0).1 (callsIn_of_wp_marks hf hb trivial ?_)
  have hl' := of_decide_eq_true hl
  have hlen := hargs.length
  have s : St base w0 φ 0 (E n (argsE 0 args)) [] { tmps := args' ++ Array.replicate (fn.ntmps - args'.size) undef, defers := [] } w φ := by
    refine ⟨hrel, ?_, Ext.refl _ _ _, Nat.le_refl _, fun b v X e => ⟨hrel.dom b v X e, fun _ h => (by cases h)⟩, hrel.zdom⟩
    show VRs φ _ (args' ++ Array.replicate (fn.ntmps - args'.size) undef).toList
    refine (weakL_args args n hl').ok ?_
    rw [Array.toList_append, Array.toList_replicate, hn, show args'.size = args.length by simp at hlen; omega]
    exact hargs.append (VRs.replicate (.tuple .nil) _)
  exact h base w0 φ _ w φ s rfl
/-- What is asked where the loop over a function begins: the iterator, what holds between two rounds, one round, and what comes behind the loop. -/
def RG (P : Program) (fn : Func) (r : AV) (g : Operand) (ps : Array Tmp) (assign body rest : Code) (ts' : List AV) (H' : Heap) : Prop :=
  ∃ (gf : FuncId) (cap : List AV) (xs : List (List AV)) (I : Nat → Heap → Prop), look ts' g = .func gf [] cap ∧ Gen P gf cap xs ∧ (∀ a, a ∈ xs → a.length = ps.size) ∧ I 0 H' ∧
    (∀ k a Hk, xs[k]? = some a → I k Hk → H'.length ≤ Hk.length → W P H'.length assign (setAll ps.toList a ts') Hk fun e t h => e = .normal ∧ W P H'.length body t h fun e t h => e = .normal ∧ ∃ t2 h2, Le H'.length t h t2 h2 ∧ I (k + 1) h2) ∧
    (∀ HN, I xs.length HN → H'.length ≤ HN.length → W P H'.length rest ts' HN fun e t h => (e = .normal ∨ e = .ret) ∧ ∃ r0, aResults P fn t h = some r0 ∧ Weak (cv 0 h 8 r0) r)
theorem WM.seq {x y : Code} (h : W P 0 x ts H fun e t h => e = .normal ∧ WM P fn r y t h) : WM P fn r (.seq x y) ts H := WMR.seq h
theorem WM.range {x rest assign body : Code} {id : Nat} {g : Operand} {ps : Array Tmp} (hx : W P 0 x ts H fun e t h => e = .normal ∧ RG P fn r g ps assign body rest t h) :
    WM P fn r (.seq (.seq x (.block id (.rangeFunc g ps assign body))) rest) ts H := WMR.range (hx.weaken fun e t h ⟨e1, gf, cap, xs, I, a, b, c, d, e, k⟩ =>
  ⟨e1, gf, cap, xs, I, a, b, c, d, e, fun HN h1 h2 => (k HN h1 h2).weaken fun e t h ⟨g1, r0, g2, g3⟩ => ⟨g1, r0, g2, .of_weak g3⟩⟩)
theorem pure_of_WM {f : FuncId} {c : Code} {args : List AV} {n : Nat} (hf : P.funcs[f]? = some fn) (hb : fn.body = some c) (hn : fn.ntmps = n) (hl : decide (args.length ≤ n) = true)
    (h : WM P fn r c (E n (argsE 0 args)) []) : PureCall P f args r := (rcall_of_WMR hf hb hn hl h).pure

/-! ### results in new memory -/
/-- Only the machine's blocks from n on are known. -/
def newPhi (n : Nat) (φ : Phi) : Phi := ⟨fun _ _ => none, fun B i => if n ≤ B then φ.K B i else none, fun _ => true⟩
/-- r, and whatever it leads to is new. -/
abbrev isNew (r : AV) : Res := fun base φ v => VR (newPhi base φ) r v
theorem newPhi_sub (n : Nat) (φ : Phi) : Sub (newPhi n φ) φ := by
  refine ⟨fun _ _ _ e => (by cases e), fun B i v e => ?_, fun _ e => (by cases e)⟩
  have e' : (if n ≤ B then φ.K B i else none) = some v := e
  split at e'
  · exact e'
  · cases e'
theorem RCall.mono {f : FuncId} {args : List AV} {R R' : Res} (h : RCall P f args R) (hr : ∀ base φ v, R base φ v → R' base φ v) : RCall P f args R' := fun base w0 φ w args' hrel hargs =>
  Calls.mono (h base w0 φ w args' hrel hargs) fun e w' ⟨v, φ', e1, e2, e3, e4⟩ => ⟨v, φ', e1, e2, e3, hr _ _ _ e4⟩
theorem RCall.args {f : FuncId} {xs ys : List AV} (h : RCall P f ys R) (hw : WeakL xs ys) : RCall P f xs R := fun base w0 φ w args' hrel hargs => h base w0 φ w args' hrel (hw.ok hargs)
theorem RCall.old {f : FuncId} {args : List AV} {r : AV} (h : RCall P f args (isNew r)) : PureCall P f args r := (h.mono fun base φ v e => e.mono (newPhi_sub base φ)).pure
/-- The blocks are lent for the call; what comes back is new. -/
theorem RCall.borrow {f : FuncId} {xs ys : List AV} {r : AV} {H : Heap} {k : Nat} (h : RCall P f ys (isNew r)) (hy : xs.map (pv 0 H k) = ys) : SoundCall P f xs H r H := by
  subst hy
  intro base w0 φ w args' hrel hargs
  have hp : VRs (lowPhi φ H w 0).pure (xs.map (pv 0 H k)) args'.toList := hargs.map_to _ (pv_ok hrel 0 k)
  have h0 : Rel w.heap.size w (lowPhi φ H w 0).pure [] w := ⟨.refl _ _, Nat.le_refl _, fun _ _ _ e => (by cases e), fun _ _ _ _ _ e => (by cases e), fun _ _ _ _ e => (by simp at e), (hrel.lower 0 k).know, fun _ _ _ => rfl, fun _ e => (by cases e), fun _ _ _ e => (by simp at e)⟩
  refine Calls.mono (h w.heap.size w _ w args' h0 hp) fun e w' ⟨v, φ1, e1, hext, hrel1, hv⟩ => ?_
  have hl := hrel.later hrel1.below.bel
  let φ2 : Phi := ⟨φ.m, fun B i => if w.heap.size ≤ B then φ1.K B i else φ.K B i, φ.Z⟩
  have hlt : ∀ B i u, φ.K B i = some u → B < w.heap.size := fun B i u e => by
    have := hrel.know B i u e
    unfold World.cell? at this
    rcases Nat.lt_or_ge B w.heap.size with h' | h'
    · exact h'
    · simp [Array.getElem?_eq_none h'] at this
  have hsub : Sub φ φ2 := ⟨fun _ _ _ e => e, fun B i u e => by
    show (if w.heap.size ≤ B then φ1.K B i else φ.K B i) = some u
    rw [if_neg (by have := hlt B i u e; omega)]; exact e, fun _ e => e⟩
  refine ⟨v, φ2, e1, ⟨hsub, fun _ _ e => e, fun B i u hB e => ?_⟩, Nat.le_refl _, ?_, hv.mono ⟨fun _ _ _ e => (by cases e), fun B i u e => ?_, fun _ e => (by cases e)⟩⟩
  · have e' : (if w.heap.size ≤ B then φ1.K B i else φ.K B i) = some u := e
    rw [if_neg (by have := hrel.size; omega)] at e'
    exact e'
  · refine ⟨hl.below, hl.size, hl.dom, hl.lt, fun b cells mv ro hb v B o S hφ => ?_, fun B i u e => ?_, hl.zz, hl.zdom, hl.inj⟩
    · have k := hl.blk b cells mv ro hb v B o S hφ
      refine ⟨k.ver, k.min, k.room, k.lies, fun hm i x hi hx => let ⟨y, h1, h2⟩ := k.reads hm i x hi hx; ⟨y, h1, h2.mono hsub⟩, k.own, fun hr i => ?_⟩
      have hB := hrel.lt _ _ _ _ _ hφ
      show (if w.heap.size ≤ B then φ1.K B i else φ.K B i) = none
      rw [if_neg (by omega)]
      exact k.free hr i
    · have e' : (if w.heap.size ≤ B then φ1.K B i else φ.K B i) = some u := e
      split at e'
      · exact hrel1.know B i u e'
      · exact hl.know B i u e'
  · have e' : (if w.heap.size ≤ B then φ1.K B i else none) = some u := e
    show (if w.heap.size ≤ B then φ1.K B i else φ.K B i) = some u
    split at e'
    · rename_i hB; rw [if_pos hB]; exact e'
    · cases e'
/-- A block of one's own, whose cells lead nowhere, is handed back. -/
theorem Fin.ofSlice {h : Heap} {sz b off len ver : Nat} {cap : Option Nat} {cells : List AV} {mv : Nat} (hb : h[b]? = some (.blk cells mv false)) (hm : mv ≤ ver) (ho : off + len * sz ≤ ver) (hl : 0 < len) (hf : flatBs ((cells.drop off).take (len * sz)) = true) :
    Fin (isNew (.vals sz ((cells.drop off).take (len * sz)) true)) h (.slice sz b off len ver cap) := fun base w0 φ w v hr hv => by
  cases hv with
  | slice hφ hlen hc hS ha =>
    rename_i B o S C A
    obtain ⟨ys, h1, h2⟩ := hr.cellList hb hφ hm ver (Nat.le_refl _)
    have hys := h1.length
    have hver := (hr.blk b cells mv false hb ver B o S hφ).ver
    have hB := ((hr.blk b cells mv false hb ver B o S hφ).own rfl).1
    have e1 : (cells.drop off).take (len * sz) = ((cells.take ver).drop off).take (len * sz) := by
      rw [List.drop_take, List.take_take, Nat.min_eq_left (by omega)]
    rw [e1] at hf ⊢
    refine .vals (B := B) (o := o + off) (ys := (ys.drop off).take (len * sz)) (fun i y e => ?_) (VRs.flat ((h1.drop off).take _) hf) (by simp at hys ⊢; omega) hlen ?_
    · have hi : i < len * sz := by
        have := (List.getElem?_eq_some_iff.1 e).1
        simp at this; omega
      rw [List.getElem?_take_of_lt hi, List.getElem?_drop] at e
      show (if base ≤ B then lowK φ h w 0 B (o + off + i) else none) = some y
      rw [if_pos hB]
      unfold lowK
      rw [if_pos ⟨b, ver, o, S, cells, mv, Nat.zero_le _, hφ, hb⟩, Nat.add_assoc]
      exact h2 _ _ e
    · rcases ha with rfl | ⟨hC, a, rfl⟩
      · exact .inl rfl
      · omega
  | slice0 hz => omega
theorem Fin.flat {h : Heap} {r : AV} (hf : r.flatB = true) : Fin (isNew r) h r := fun base w0 φ w v hr hv => hv.flat hf
theorem Fin.weak {h : Heap} {r0 r r' : AV} (hh : Fin (isNew r) h r0) (hw : Weak r r') : Fin (isNew r') h r0 := fun base w0 φ w v hr hv => hw _ _ (hh base w0 φ w v hr hv)
theorem rcall_of_W {f : FuncId} {c : Code} {args : List AV} {n : Nat} (hf : P.funcs[f]? = some fn) (hb : fn.body = some c) (hn : fn.ntmps = n) (hl : decide (args.length ≤ n) = true)
    (h : W P 0 c (E n (argsE 0 args)) [] fun e ts H1 => (e = .normal ∨ e = .ret) ∧ ∃ r0, aResults P fn ts H1 = some r0 ∧ Fin R H1 r0) : RCall P f args R := rcall_of_WMR hf hb hn hl (WMR.of_W h)
end
end Go.Ab

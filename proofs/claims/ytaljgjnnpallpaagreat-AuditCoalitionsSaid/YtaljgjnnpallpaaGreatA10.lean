/- The code on the abstract memory: what a piece of code does from temporaries and blocks on, rule by rule. -/
import Derived.Test.YtaljgjnnpallpaaGreatA9
set_option linter.unusedVariables false
set_option linter.unusedSimpArgs false
namespace Go.Ab
open Go.RowKit

def Fw (ro : Option Nat) : Fence := { Fence.wide with round := ro }

/-- One operation, a call or none. -/
def Step (P : Program) (o : Oper) (ts : List AV) (H : Heap) (r : AV) (H' : Heap) : Prop :=
  ∀ base w0 φ ro (a : Act) w (Q : Exit → Act → World → Prop) (K : Act → World → Prop), Rel base w0 φ H w → (∀ x, x ∈ o.op.operands → VR φ (look ts x) (a.eval x)) →
    (∀ v w' φ', Ext base H.length φ φ' → H.length ≤ H'.length → Rel base w0 φ' H' w' → VR φ' r v → K (a.put o.dst v) w') → o.wpIn (Fw ro) 0 P a w K Q

theorem Step.of_op {P : Program} {o : Oper} {ts : List AV} {H : Heap} {r : AV} {H' : Heap} (h : aOp P o.op ts H = some (r, H')) : Step P o ts H r H' := by
  intro base w0 φ ro a w Q K hrel hl hk
  refine ⟨fun _ _ => trivial, ?_⟩
  rw [Oper.semAt_eq]
  · obtain ⟨n, v, w', φ', e1, e2, e3, e4, e5, e6⟩ := aOp_ok hrel o hl h
    rw [e1]
    cases n <;> simp only [nextVal, Option.some.injEq] at e2
    all_goals first
      | (subst e2; exact hk _ _ _ e3 e4 e5 e6)
      | cases e2
  · intro c hc
    rw [hc] at h
    simp [aOp] at h

def enters (P : Program) (f : FuncId) : Bool := match P.funcs[f]? with | some fn => !(fn.name == "runtime.NumGoroutine") && fn.body.isSome | none => false
theorem run_callFunc {P : Program} {f : FuncId} (h : enters P f = true) (args : Array Value) (w : World) : (callFunc f args).run P w = .ok (.enter f args) w := by
  unfold enters at h
  cases hf : P.funcs[f]? with
  | none => rw [hf] at h; cases h
  | some fn =>
    rw [hf] at h
    simp only [Bool.and_eq_true, Bool.not_eq_true'] at h
    unfold callFunc
    simp only [Sem.run_bind, run_program, Result.andThen_ok, hf]
    rw [if_neg (by rw [h.1]; simp)]
    have : fn.body.isNone = false := by cases hb : fn.body <;> simp [hb] at h ⊢
    rw [this]
    rfl

theorem Step.enter {P : Program} {o : Oper} {ts : List AV} {H : Heap} {f : FuncId} {args : List AV} {r : AV} {H' : Heap} (hf : enters P f = true) (hc : SoundCall P f args H r H') (hd : ∀ c, o.op ≠ .defer c)
    (hrun : ∀ (φ : Phi) (a : Act) (w : World), (∀ x, x ∈ o.op.operands → VR φ (look ts x) (a.eval x)) → ∃ args' : Array Value, VRs φ args args'.toList ∧ (execOp a.eval o).run P w = (callFunc f args').run P w) : Step P o ts H r H' := by
  intro base w0 φ ro a w Q K hrel hl hk
  refine ⟨fun _ _ => trivial, ?_⟩
  rw [Oper.semAt_eq _ _ _ hd]
  obtain ⟨args', ha, he⟩ := hrun φ a w hl
  rw [he, run_callFunc hf, Oper.uponIn_enter]
  refine ⟨fun e => by simp [Fw, Fence.wide] at e, ?_⟩
  have h1 := callsIn_wide (n := 0 - 1).2 (hc base w0 φ w args' hrel ha)
  refine CallsIn.mono (F := Fw ro) (h := h1) fun e w' hp => ?_
  obtain ⟨v, φ', rfl, e1, e2, e3, e4⟩ := hp
  exact hk v w' φ' e1 e2 e3 e4

def aTarget (ts : List AV) (c : Call) : Option (FuncId × List AV) :=
  match c.callee with
  | .value x => match look ts x with
    | .func f first cap => some (f, first ++ c.args.toList.map (look ts) ++ cap)
    | _ => none
  | _ => none

theorem Step.of_call {P : Program} {o : Oper} {c : Call} {ts : List AV} {H : Heap} {f : FuncId} {args : List AV} {r : AV} {H' : Heap} (ho : o.op = .call c) (ht : aTarget ts c = some (f, args)) (hf : enters P f = true) (hc : SoundCall P f args H r H') : Step P o ts H r H' := by
  refine .enter hf hc (fun d hd => by rw [ho] at hd; cases hd) fun φ a w hl => ?_
  unfold aTarget at ht
  rw [ho] at hl
  split at ht
  · rename_i x hx
    split at ht
    · rename_i g first cap hlk
      injection ht with ht; injection ht with e1 e2; subst e1; subst e2
      have hv := hl x (by simp [Op.operands, Call.operands, hx])
      rw [hlk] at hv
      generalize hy : a.eval x = y at hv
      cases hv with
      | func h1 h2 =>
        rename_i first' cap'
        refine ⟨first' ++ c.args.map a.eval ++ cap', ?_, ?_⟩
        · rw [Array.toList_append, Array.toList_append, Array.toList_map]
          exact (h1.append (looks _ fun z hz => hl z (by simp [Op.operands, Call.operands]; right; simpa using hz))).append h2
        · obtain ⟨dst, op, ty, pos, after, guard⟩ := o
          simp only at ho
          subst ho
          simp [execOp, resolve, hx, hy, Deferred.ofValue, invoke]
    · cases ht
  · cases ht

/-- A method of an interface's value. -/
def MethodTo (P : Program) (t : TypeId) (v : AV) (name : String) (f : FuncId) (recv : AV) : Prop :=
  ∀ (φ : Phi) (w : World) (v' : Value), VR φ v v' → ∃ recv', VR φ recv recv' ∧ (method (P.types.size + Made.depth) t v' name).run P w = .ok (f, recv') w

theorem Step.of_invoke {P : Program} {o : Oper} {c : Call} {x : Operand} {name : String} {ts : List AV} {H : Heap} {t : TypeId} {v recv : AV} {f : FuncId} {r : AV} {H' : Heap} (ho : o.op = .call c) (hx : c.callee = .invoke x name) (ht : look ts x = .iface t v)
    (hm : MethodTo P t v name f recv) (hf : enters P f = true) (hc : SoundCall P f (recv :: c.args.toList.map (look ts)) H r H') : Step P o ts H r H' := by
  refine .enter hf hc (fun d hd => by rw [ho] at hd; cases hd) fun φ a w hl => ?_
  rw [ho] at hl
  have hv := hl x (by simp [Op.operands, Call.operands, hx])
  rw [ht] at hv
  generalize hy : a.eval x = y at hv
  cases hv with
  | iface h1 =>
    rename_i v'
    obtain ⟨recv', hr, hrun⟩ := hm φ w v' h1
    refine ⟨#[recv'] ++ c.args.map a.eval, ?_, ?_⟩
    · rw [Array.toList_append, Array.toList_map]
      exact .cons hr (looks _ fun z hz => hl z (by simp [Op.operands, Call.operands]; right; simpa using hz))
    · obtain ⟨dst, op, ty, pos, after, guard⟩ := o
      simp only at ho
      subst ho
      have hex : (#[Value.iface t v'] ++ Array.map a.eval c.args).extract 1 (#[Value.iface t v'] ++ Array.map a.eval c.args).size = Array.map a.eval c.args := by
        rw [← Array.toList_inj]; simp [List.take_of_length_le]
      simp only [execOp, resolve, hx, hy, invoke, Sem.run_bind, Sem.run_pure, Result.andThen_ok]
      have h0 : (#[Value.iface t v'] ++ Array.map a.eval c.args)[0]? = some (.iface t v') := by rw [Array.getElem?_append_left (by simp)]; rfl
      simp only [h0, hex, callMethod, Sem.run_bind, run_program, Result.andThen_ok, hrun]

/-! ### A state -/
/-- How many blocks there were at the beginning; len b = some k: of block b no version above k was known. -/
structure N0 where
  n : Nat
  len : Nat → Option Nat
instance : Coe Nat N0 := ⟨fun n => ⟨n, fun _ => none⟩⟩
instance (n : Nat) : OfNat N0 n := ⟨⟨n, fun _ => none⟩⟩
structure St (base : Nat) (w0 : World) (φ0 : Phi) (n0 : N0) (ts : List AV) (H : Heap) (a : Act) (w : World) (φ : Phi) : Prop where
  rel : Rel base w0 φ H w
  tr : TR φ ts a.tmps
  ext : Ext base n0.n φ0 φ
  le : n0.n ≤ H.length
  dom0 : ∀ b v X, φ0 b v = some X → b < n0.n ∧ ∀ k, n0.len b = some k → v ≤ k
  domZ : ∀ b, φ0.Z b = false → b < n0.n

inductive Ex where
  | normal
  | exit (id : Nat)
  | ret
def Ex.toExit : Ex → Exit
  | .normal => .normal
  | .exit id => .exit id
  | .ret => .ret

def Post (base : Nat) (w0 : World) (φ0 : Phi) (n0 : N0) (ds : List Deferred) (Q : Ex → List AV → Heap → Prop) : Exit → Act → World → Prop := fun e a w =>
  ∃ x ts H φ, e = x.toExit ∧ Q x ts H ∧ St base w0 φ0 n0 ts H a w φ ∧ a.defers = ds

def W (P : Program) (n0 : N0) (c : Code) (ts : List AV) (H : Heap) (Q : Ex → List AV → Heap → Prop) : Prop :=
  ∀ base w0 φ0 ro (a : Act) w φ, St base w0 φ0 n0 ts H a w φ → c.wpIn (Fw ro) 0 P (Post base w0 φ0 n0 a.defers Q) a w

/-- What is known may be forgotten. -/
def Le (n0 : N0) (ts : List AV) (H : Heap) (ts' : List AV) (H' : Heap) : Prop :=
  ∀ base w0 φ0 (a : Act) w φ, St base w0 φ0 n0 ts H a w φ → ∃ φ', St base w0 φ0 n0 ts' H' a w φ'

section
variable {P : Program} {n0 : N0} {ts : List AV} {H : Heap} {Q Q' : Ex → List AV → Heap → Prop}

theorem Le.refl (n0 : N0) (ts : List AV) (H : Heap) : Le n0 ts H ts H := fun _ _ _ _ _ φ h => ⟨φ, h⟩
theorem Le.trans {ts1 ts2 ts3 : List AV} {H1 H2 H3 : Heap} (h : Le n0 ts1 H1 ts2 H2) (k : Le n0 ts2 H2 ts3 H3) : Le n0 ts1 H1 ts3 H3 := fun _ _ _ _ _ _ s =>
  let ⟨_, s'⟩ := h _ _ _ _ _ _ s; k _ _ _ _ _ _ s'

theorem W.le {c : Code} {ts' : List AV} {H' : Heap} (hl : Le n0 ts H ts' H') (h : W P n0 c ts' H' Q) : W P n0 c ts H Q := fun _ _ _ _ _ _ _ s =>
  let ⟨_, s'⟩ := hl _ _ _ _ _ _ s; h _ _ _ _ _ _ _ s'

theorem W.mono {c : Code} (h : W P n0 c ts H Q) (hq : ∀ e ts' H', Q e ts' H' → ∃ ts'' H'', Le n0 ts' H' ts'' H'' ∧ Q' e ts'' H'') : W P n0 c ts H Q' := fun _ _ _ _ a w φ s =>
  wpIn_mono (h _ _ _ _ a w φ s) fun e a' w' hp => by
    obtain ⟨x, ts', H', φ', rfl, q, s', hd⟩ := hp
    obtain ⟨ts'', H'', hl, q'⟩ := hq _ _ _ q
    obtain ⟨φ'', s''⟩ := hl _ _ _ _ _ _ s'
    exact ⟨x, ts'', H'', φ'', rfl, q', s'', hd⟩

theorem W.weaken {c : Code} (h : W P n0 c ts H Q) (hq : ∀ e ts' H', Q e ts' H' → Q' e ts' H') : W P n0 c ts H Q' := h.mono fun e ts' H' q => ⟨ts', H', Le.refl _ _ _, hq _ _ _ q⟩

def thenA (K : List AV → Heap → Prop) (Q : Ex → List AV → Heap → Prop) : Ex → List AV → Heap → Prop
  | .normal, ts, H => K ts H
  | e, ts, H => Q e ts H
def inBlockA (id : Nat) (Q : Ex → List AV → Heap → Prop) : Ex → List AV → Heap → Prop
  | .exit id', ts, H => if id' = id then Q .normal ts H else Q (.exit id') ts H
  | e, ts, H => Q e ts H

theorem W.skip (h : Q .normal ts H) : W P n0 .skip ts H Q := fun _ _ _ _ _ _ φ s => wpIn_skip ⟨.normal, ts, H, φ, rfl, h, s, rfl⟩
theorem W.exit {id : Nat} (h : Q (.exit id) ts H) : W P n0 (.exit id) ts H Q := fun _ _ _ _ _ _ φ s => wpIn_exit ⟨.exit id, ts, H, φ, rfl, h, s, rfl⟩
theorem W.ret (h : Q .ret ts H) : W P n0 .ret ts H Q := fun _ _ _ _ _ _ φ s => wpIn_ret ⟨.ret, ts, H, φ, rfl, h, s, rfl⟩

theorem W.seq {x y : Code} (h : W P n0 x ts H (thenA (fun ts' H' => W P n0 y ts' H' Q) Q)) : W P n0 (.seq x y) ts H Q := fun base w0 φ0 ro a w φ s =>
  wpIn_seq (wpIn_mono (h base w0 φ0 ro a w φ s) fun e a' w' hp => by
    obtain ⟨x, ts', H', φ', rfl, q, s', hd⟩ := hp
    cases x with
    | normal =>
      have := q base w0 φ0 ro a' w' φ' s'
      rw [hd] at this
      exact this
    | exit id => exact ⟨.exit id, ts', H', φ', rfl, q, s', hd⟩
    | ret => exact ⟨.ret, ts', H', φ', rfl, q, s', hd⟩)

theorem W.cond {c : Operand} {x y : Code} {b : Bool} (hc : look ts c = .bool b) (h : W P n0 (if b then x else y) ts H Q) : W P n0 (.cond c x y) ts H Q := fun base w0 φ0 ro a w φ s => by
  have hv := s.tr.look c
  rw [hc] at hv
  refine wpIn_cond (t := b) ?_ (h base w0 φ0 ro a w φ s)
  generalize a.eval c = y at hv
  cases hv; rfl

theorem W.block {id : Nat} {c : Code} (h : W P n0 c ts H (inBlockA id Q)) : W P n0 (.block id c) ts H Q := fun base w0 φ0 ro a w φ s =>
  wpIn_block (wpIn_mono (h base w0 φ0 ro a w φ s) fun e a' w' hp => by
    obtain ⟨x, ts', H', φ', rfl, q, s', hd⟩ := hp
    cases x with
    | normal => exact ⟨.normal, ts', H', φ', rfl, q, s', hd⟩
    | exit id' =>
      simp only [inBlockA] at q
      simp only [Exit.inBlock, Ex.toExit]
      split
      · rename_i he
        rw [if_pos he] at q
        exact ⟨.normal, ts', H', φ', rfl, q, s', hd⟩
      · rename_i he
        rw [if_neg he] at q
        exact ⟨.exit id', ts', H', φ', rfl, q, s', hd⟩
    | ret => exact ⟨.ret, ts', H', φ', rfl, q, s', hd⟩)

theorem exists_least {p : Nat → Prop} : ∀ n, p n → ∃ m, p m ∧ ∀ k, p k → m ≤ k := by
  intro n
  induction n using Nat.strongRecOn with
  | _ n ih =>
    intro hn
    by_cases h : ∃ k, k < n ∧ p k
    · obtain ⟨k, hk, pk⟩ := h
      exact ih k hk pk
    · exact ⟨n, hn, fun k pk => Nat.le_of_not_lt fun hlt => h ⟨k, hlt, pk⟩⟩

open Classical in
/-- A loop: what holds ahead of a round, with the rounds that are left at most. -/
theorem W.loop {c : Code} (I : Nat → List AV → Heap → Prop) (h0 : ∃ n ts' H', Le n0 ts H ts' H' ∧ I n ts' H')
    (round : ∀ n ts H, I n ts H → W P n0 c ts H (thenA (fun ts' H' => ∃ m ts'' H'', m < n ∧ Le n0 ts' H' ts'' H'' ∧ I m ts'' H'') Q)) : W P n0 (.loop c) ts H Q := fun base w0 φ0 ro a w φ s => by
  let R : Act → World → Nat → Prop := fun a' w' n => a'.defers = a.defers ∧ ∃ ts' H' φ', I n ts' H' ∧ St base w0 φ0 n0 ts' H' a' w' φ'
  refine wpIn_loop (fun a' w' => ∃ n, R a' w' n) (fun a' w' => if h : ∃ n, R a' w' n then (exists_least h.choose h.choose_spec).choose else 0) ?_ fun a' w' hI => ?_
  · obtain ⟨n, ts', H', hl, hi⟩ := h0
    obtain ⟨φ', s'⟩ := hl _ _ _ _ _ _ s
    exact ⟨n, rfl, ts', H', φ', hi, s'⟩
  · obtain ⟨hm, _⟩ := (exists_least hI.choose hI.choose_spec).choose_spec
    have hμ : (if h : ∃ n, R a' w' n then (exists_least h.choose h.choose_spec).choose else 0) = (exists_least hI.choose hI.choose_spec).choose := dif_pos hI
    generalize (exists_least hI.choose hI.choose_spec).choose = m at hm hμ
    obtain ⟨hd, ts', H', φ', hi, s'⟩ := hm
    refine wpIn_mono (round m ts' H' hi base w0 φ0 ro a' w' φ' s') fun e a2 w2 hp => ?_
    obtain ⟨x, ts2, H2, φ2, rfl, q, s2, hd2⟩ := hp
    cases x with
    | normal =>
      obtain ⟨m', ts3, H3, hlt, hl, hi3⟩ := q
      obtain ⟨φ3, s3⟩ := hl _ _ _ _ _ _ s2
      have hR : R a2 w2 m' := ⟨hd2.trans hd, ts3, H3, φ3, hi3, s3⟩
      refine ⟨⟨m', hR⟩, ?_⟩
      rw [hμ]
      have hex : ∃ n, R a2 w2 n := ⟨m', hR⟩
      show (if h : ∃ n, R a2 w2 n then (exists_least h.choose h.choose_spec).choose else 0) < m
      rw [dif_pos hex]
      exact Nat.lt_of_le_of_lt ((exists_least hex.choose hex.choose_spec).choose_spec.2 m' hR) hlt
    | exit id => exact ⟨.exit id, ts2, H2, φ2, rfl, q, s2, hd2.trans hd⟩
    | ret => exact ⟨.ret, ts2, H2, φ2, rfl, q, s2, hd2.trans hd⟩

/-! ### A region in the order of its text -/
def wantedA (ops : Array Oper) (o : Oper) (ts : List AV) : Option Bool :=
  match o.guard with
  | none => some true
  | some (j, want) => match (ops[j]?).bind (·.dst) with
    | none => none
    | some d => match ts.getD d undefA with
      | .bool b => some (b == want)
      | .tuple [] => some false
      | _ => none
theorem wantedA_ok {φ : Phi} {ops : Array Oper} {o : Oper} {tmps : Array Value} {b : Bool} (ht : ∀ j want d, o.guard = some (j, want) → (ops[j]?).bind (·.dst) = some d → VR φ (ts.getD d undefA) (tmps.getD d undef)) (h : wantedA ops o ts = some b) : Region.wanted o (yielded ops tmps) = b := by
  unfold wantedA at h
  unfold Region.wanted
  split at h
  · rename_i hg
    rw [hg]; injection h
  · rename_i j want hg
    rw [hg]
    split at h
    · cases h
    · rename_i d hd
      have hv := ht j want d hg hd
      simp only [yielded, hd, Option.bind_some]
      split at h
      · rename_i b' hb
        injection h with h; subst h
        rw [hb] at hv
        generalize hy : tmps.getD d undef = y at hv
        cases hv
        have : tmps[d]? = some (.bool b') := by
          rw [Array.getD_eq_getD_getElem?] at hy
          cases hx : tmps[d]? with
          | none => rw [hx] at hy; simp [undef] at hy
          | some z => rw [hx] at hy; simp at hy; rw [hy]
        rw [this]
        cases b' <;> cases want <;> rfl
      · rename_i hb
        injection h with h; subst h
        rw [hb] at hv
        generalize hy : tmps.getD d undef = y at hv
        cases hv with
        | tuple hx =>
          rename_i xs
          cases hx' : tmps[d]? with
          | none => rfl
          | some z =>
            rw [Array.getD_eq_getD_getElem?, hx'] at hy
            simp at hy; subst hy
            rfl
      · cases h

def WL (P : Program) (n0 : N0) (ops : Array Oper) (l : List Nat) (ts : List AV) (H : Heap) (Q : Ex → List AV → Heap → Prop) : Prop :=
  ∀ base w0 φ0 ro (a : Act) w φ, St base w0 φ0 n0 ts H a w φ → wpOpsIn (Fw ro) 0 P ops (Post base w0 φ0 n0 a.defers Q) l a w

theorem W.region {id : Nat} {ops : Array Oper} (h : WL P n0 ops (List.range ops.size) ts H Q) : W P n0 (.region id ops false) ts H Q := fun base w0 φ0 ro a w φ s => wpIn_region (h base w0 φ0 ro a w φ s)

theorem WL.nil {ops : Array Oper} (h : Q .normal ts H) : WL P n0 ops [] ts H Q := fun base w0 φ0 ro a w φ s => ⟨.normal, ts, H, φ, rfl, h, s, rfl⟩

theorem St.put {base : Nat} {w0 : World} {φ0 φ φ' : Phi} {a : Act} {w w' : World} {r : AV} {H' : Heap} {v : Value} (s : St base w0 φ0 n0 ts H a w φ) (d : Option Tmp) (e1 : Ext base H.length φ φ') (e2 : H.length ≤ H'.length) (e3 : Rel base w0 φ' H' w') (e4 : VR φ' r v) :
    St base w0 φ0 n0 (putA ts d r) H' (a.put d v) w' φ' := ⟨e3, (TR.mono s.tr e1.sub).put d e4, s.ext.trans e1 s.le, Nat.le_trans s.le e2, s.dom0, s.domZ⟩

theorem WL.cons {ops : Array Oper} {i : Nat} {rest : List Nat} {o : Oper} {r : AV} {H' : Heap} (ho : ops[i]? = some o) (hw : wantedA ops o ts = some true) (hs : Step P o ts H r H') (h : WL P n0 ops rest (putA ts o.dst r) H' Q) : WL P n0 ops (i :: rest) ts H Q := fun base w0 φ0 ro a w φ s => by
  simp only [wpOpsIn, ho]
  rw [if_pos (wantedA_ok (ts := ts) (fun j want d _ _ => s.tr.get d) hw)]
  refine hs base w0 φ ro a w _ _ s.rel (fun x _ => s.tr.look x) fun v w' φ' e1 e2 e3 e4 => ?_
  have := h base w0 φ0 ro (a.put o.dst v) w' φ' (s.put o.dst e1 e2 e3 e4)
  rw [put_defers] at this
  exact this

theorem WL.pass {ops : Array Oper} {i : Nat} {rest : List Nat} {o : Oper} (ho : ops[i]? = some o) (hw : wantedA ops o ts = some false) (h : WL P n0 ops rest (putA ts o.dst undefA) H Q) : WL P n0 ops (i :: rest) ts H Q := fun base w0 φ0 ro a w φ s => by
  simp only [wpOpsIn, ho]
  rw [if_neg (by rw [wantedA_ok (ts := ts) (fun j want d _ _ => s.tr.get d) hw]; simp)]
  refine ⟨fun _ _ => trivial, ?_⟩
  have := h base w0 φ0 ro (a.put o.dst undef) w φ (s.put o.dst (Ext.refl _ _ _) (Nat.le_refl _) s.rel (.tuple .nil))
  rw [put_defers] at this
  exact this
end

/-! ### A function -/
def aResult (P : Program) (ts : List AV) (H : Heap) : ResultVar → Option AV
  | .tmp t => some (ts.getD t undefA)
  | .cell a t => aLoad P t (ts.getD a undefA) H
def aResultL (P : Program) (ts : List AV) (H : Heap) : List ResultVar → Option (List AV)
  | [] => some []
  | x :: xs => match aResult P ts H x, aResultL P ts H xs with
    | some y, some ys => some (y :: ys)
    | _, _ => none
def aResults (P : Program) (fn : Func) (ts : List AV) (H : Heap) : Option AV :=
  match aResultL P ts H fn.results.toList with
  | some [v] => some v
  | some vs => some (.tuple vs)
  | none => none

theorem aResultL_ok {P : Program} {base : Nat} {w0 : World} {φ : Phi} {ts : List AV} {H : Heap} {w : World} (h : Rel base w0 φ H w) {tmps : Array Value} (ht : TR φ ts tmps) : ∀ (l : List ResultVar) (rs : List AV), aResultL P ts H l = some rs →
    ∃ vs : List Value, (l.mapM fun | .tmp t => pure (tmps.getD t undef) | .cell a t => do loadVar t (← asAddr (tmps.getD a undef)) : Sem (List Value)).run P w = .ok vs w ∧ VRs φ rs vs
  | [], rs, hr => by
    simp only [aResultL, Option.some.injEq] at hr; subst hr
    exact ⟨[], by simp, .nil⟩
  | x :: l, rs, hr => by
    simp only [aResultL] at hr
    split at hr
    · rename_i y ys h1 h2
      injection hr with hr; subst hr
      obtain ⟨vs, e1, e2⟩ := aResultL_ok h ht l ys h2
      cases x with
      | tmp t =>
        simp only [aResult, Option.some.injEq] at h1; subst h1
        refine ⟨tmps.getD t undef :: vs, ?_, .cons (ht.get t) e2⟩
        rw [List.mapM_cons]
        simp only [Sem.run_bind, Sem.run_pure, Result.andThen_ok, e1]
      | cell c t =>
        simp only [aResult] at h1
        obtain ⟨v, f1, f2⟩ := aLoad_ok (P := P) h (ht.get c) h1
        refine ⟨v :: vs, ?_, .cons f2 e2⟩
        rw [List.mapM_cons]
        have key : (do loadVar t (← asAddr (tmps.getD c undef)) : Sem Value).run P w = .ok v w := by
          have hv := ht.get c
          generalize tmps.getD c undef = p at hv f1
          generalize ts.getD c undefA = q at hv h1
          unfold aLoad at h1
          split at h1
          · cases hv with
            | ptr hφ => simpa [asAddr, Instr.loadAt, Instr.sureAddr] using f1
          · cases hv with
            | cptr hk hx => simpa [asAddr, Instr.loadAt, Instr.sureAddr] using f1
          · cases h1
        rw [Sem.run_bind, key]
        simp only [Result.andThen_ok, Sem.run_bind, e1, Sem.run_pure]
    · cases hr

theorem aResults_ok {P : Program} {base : Nat} {w0 : World} {φ : Phi} {ts : List AV} {H : Heap} {w : World} (h : Rel base w0 φ H w) {tmps : Array Value} (ht : TR φ ts tmps) {fn : Func} {r : AV} (hr : aResults P fn ts H = some r) :
    ∃ v, (results fn tmps).run P w = .ok v w ∧ VR φ r v := by
  unfold aResults at hr
  have key : ∀ rs, aResultL P ts H fn.results.toList = some rs → ∃ vs : List Value, (results fn tmps).run P w = .ok (if h : vs.toArray.size = 1 then vs.toArray[0] else .tuple vs.toArray) w ∧ VRs φ rs vs := fun rs e => by
    obtain ⟨vs, e1, e2⟩ := aResultL_ok (P := P) h ht _ rs e
    refine ⟨vs, ?_, e2⟩
    unfold results
    rw [Array.mapM_eq_mapM_toList]
    simp only [Sem.run_bind, Sem.run_map]
    erw [e1]
    rfl
  split at hr
  · rename_i v hl
    injection hr with hr; subst hr
    obtain ⟨vs, e1, e2⟩ := key _ hl
    cases e2 with
    | cons hv ht' =>
      cases ht'
      exact ⟨_, e1, hv⟩
  · rename_i vs' hne hl
    injection hr with hr; subst hr
    obtain ⟨vs, e1, e2⟩ := key _ hl
    refine ⟨_, e1, ?_⟩
    have hlen := e2.length
    rw [dif_neg]
    · exact .tuple (by simpa using e2)
    · intro h1
      simp at h1
      have : vs'.length = 1 := by omega
      match vs', this with
      | [v], _ => exact hne v rfl
  · cases hr

/-- What is known of x is known of y. -/
def Weak (x y : AV) : Prop := ∀ φ v, VR φ x v → VR φ y v

theorem sound_of_W {P : Program} {f : FuncId} {fn : Func} {c : Code} {args : List AV} {H H' : Heap} {r : AV} (hf : P.funcs[f]? = some fn) (hb : fn.body = some c)
    (h : W P H.length c (args ++ List.replicate (fn.ntmps - args.length) undefA) H fun e ts H1 => (e = .normal ∨ e = .ret) ∧ ∃ r0 n k, H.length ≤ n ∧ aResults P fn ts H1 = some r0 ∧ Weak (cv n H1 k r0) r ∧ lower n k H1 = H' ∧ H.length ≤ H'.length) : SoundCall P f args H r H' := by
  intro base w0 φ w args' hrel hargs
  refine callsIn_wide (n := 0).1 (callsIn_of_wp hf hb trivial ?_)
  have hl := hargs.length
  have s : St base w0 φ H.length (args ++ List.replicate (fn.ntmps - args.length) undefA) H { tmps := args' ++ Array.replicate (fn.ntmps - args'.size) undef, defers := [] } w φ := by
    refine ⟨hrel, ?_, Ext.refl _ _ _, Nat.le_refl _, fun b v X e => ⟨hrel.dom b v X e, fun _ h => (by cases h)⟩, hrel.zdom⟩
    show VRs φ _ (args' ++ Array.replicate (fn.ntmps - args'.size) undef).toList
    rw [Array.toList_append, Array.toList_replicate, show args'.size = args.length by simp at hl; omega]
    exact hargs.append (VRs.replicate (.tuple .nil) _)
  refine wpIn_mono (h base w0 φ none _ w φ s) fun e a' w' hp => ?_
  obtain ⟨x, ts, H1, φ1, rfl, ⟨he, r0, n, k, hn, hr, hw, hlow, hlen⟩, s1, hd⟩ := hp
  obtain ⟨v, hv1, hv2⟩ := aResults_ok s1.rel s1.tr hr
  have hpost : CallPost base w0 φ H.length r H' (.returned v) w' := by
    subst hlow
    exact ⟨v, lowPhi φ1 H1 w' n, rfl, s1.ext.lower s1.rel (fun b v X e => (s1.dom0 b v X e).1) s1.domZ hn, hlen, s1.rel.lower n k, hw _ _ (cv_ok s1.rel n k _ _ hv2)⟩
  rcases he with rfl | rfl
  · exact ⟨hd, v, hv1, hpost⟩
  · exact ⟨hd, v, hv1, hpost⟩
end Go.Ab

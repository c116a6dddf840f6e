/- Regions, worked out: one order of a region's operations is gone through; for a region that draws its order a look at its text says that every order does the same. -/
import Derived.Test.YtaljgjnnpallpaaGreatA11
set_option linter.unusedVariables false
set_option linter.unusedSimpArgs false
namespace Go.Ab
open Go.RowKit

/-- A load. -/
def isLoad : Op → Bool | .load _ _ => true | _ => false
/-- What leaves memory as it is. -/
def keeps : Op → Bool
  | .store _ _ _ => false
  | .alloc _ | .box _ _ | .buildSlice _ _ _ | .makeSlice _ _ _ => false
  | .call { callee := .builtin b, .. } => match b with | .len | .max | .min => true | _ => false
  | _ => true

section
variable {P : Program} {ops : Array Oper} {n0 : N0} {ts : List AV} {H : Heap} {Q : Ex → List AV → Heap → Prop}

theorem withH_same {r : Option AV} {v : AV} {H H' : Heap} (h : withH H r = some (v, H')) : H' = H := (withH_some h).2

theorem aOp_keeps {op : Op} {ts : List AV} {H : Heap} {r : AV} {H' : Heap} (hk : keeps op = true) (h : aOp P op ts H = some (r, H')) : H' = H := by
  cases op <;> simp only [aOp, keeps] at h hk
  all_goals first
    | (cases h; done)
    | (cases hk; done)
    | (injection h with h; injection h with _ h; exact h.symm)
    | exact withH_same h
    | skip
  case pick =>
    split at h <;> first | (cases h; done) | (injection h with h; injection h with _ h; exact h.symm)
  case nilCheck =>
    split at h <;> first | (cases h; done) | (injection h with h; injection h with _ h; exact h.symm)
  case makeInterface =>
    split at h <;> first | (cases h; done) | (injection h with h; injection h with _ h; exact h.symm)
  case makeFunc fn p q =>
    cases fn <;> simp only [aOp] at h
    all_goals first | (cases h; done) | (injection h with h; injection h with _ h; exact h.symm)
  case extract =>
    split at h <;> first | (cases h; done) | exact withH_same h
  case call c =>
    obtain ⟨callee, args, tys⟩ := c
    cases callee <;> simp only [aOp] at h
    case builtin b =>
      cases b <;> simp only [keeps] at hk <;> first | (cases hk; done) | skip
      all_goals
        unfold aBuiltin at h
        split at h <;> first | (cases h; done) | exact withH_same h | (rename_i e _ _; cases e; done) | (rename_i e _; cases e; done) | skip
    all_goals cases h

theorem aOp_any {op : Op} {ts : List AV} {H H2 : Heap} {r : AV} {H' : Heap} (hk : keeps op = true) (hl : isLoad op = false) (h : aOp P op ts H = some (r, H')) : aOp P op ts H2 = some (r, H2) := by
  cases op <;> simp only [aOp, keeps, isLoad] at h hk hl ⊢
  all_goals first
    | (cases h; done)
    | (cases hk; done)
    | (cases hl; done)
    | (injection h with h; injection h with h _; rw [h]; done)
    | (rw [(withH_some h).1]; rfl)
    | skip
  case pick =>
    split at h <;> first | (cases h; done) | (rename_i e; injection h with h; injection h with h _; simp [e, h])
  case nilCheck =>
    split at h <;> first | (cases h; done) | (rename_i e; injection h with h; injection h with h _; simp [e, h])
  case makeInterface =>
    split at h <;> first | (cases h; done) | (rename_i e; injection h with h; injection h with h _; simp [e, h])
  case makeFunc fn p q =>
    cases fn <;> simp only [aOp] at h ⊢
    all_goals first | (cases h; done) | (injection h with h; injection h with h _; rw [h])
  case extract x i =>
    cases hx : look ts x <;> simp only [hx] at h ⊢ <;> first | (cases h; done) | (rw [(withH_some h).1]; rfl)
  case call c =>
    obtain ⟨callee, args, tys⟩ := c
    cases callee <;> simp only [aOp] at h ⊢
    case builtin b =>
      cases b <;> simp only [keeps] at hk <;> first | (cases hk; done) | skip
      all_goals
        unfold aBuiltin at h ⊢
        split at h <;> first | (cases h; done) | (rw [(withH_some h).1]; rfl) | (rename_i e _ _; cases e; done) | (rename_i e _; cases e; done) | skip
    all_goals cases h

theorem aLoad_grow {t : TypeId} {p : AV} {H bs : Heap} {r : AV} (h : aLoad P t p H = some r) : aLoad P t p (H ++ bs) = some r := by
  unfold aLoad at h ⊢
  cases p with
  | ptr b off ver =>
    simp only at h ⊢
    cases hb : H[b]? with
    | none => rw [hb] at h; cases h
    | some o =>
      rw [List.getElem?_append_left (List.getElem?_eq_some_iff.1 hb).1, hb]
      rw [hb] at h
      exact h
  | cptr xs => exact h
  | _ => cases h
theorem aOp_load_grow {op : Op} {ts : List AV} {H bs : Heap} {r : AV} {H' : Heap} (hl : isLoad op = true) (h : aOp P op ts H = some (r, H')) : aOp P op ts (H ++ bs) = some (r, H ++ bs) := by
  cases op <;> simp only [isLoad] at hl <;> first | cases hl | skip
  case load t x =>
    simp only [aOp] at h ⊢
    rw [aLoad_grow (withH_some h).1]; rfl

/-! ### What one order does -/
structure Ent where
  ts : List AV
  H : Heap
  r : AV

structure Item where
  o : Oper
  k : Kd
  /-- the temporary that its guard looks at -/
  g : Option Tmp

def wantG (it : Item) (ts : List AV) : Option Bool :=
  match it.o.guard with
  | none => some true
  | some (_, want) => match it.g with
    | none => none
    | some d => match ts.getD d undefA with
      | .bool b => some (b == want)
      | .tuple [] => some false
      | _ => none

def isCall : Op → Bool
  | .call { callee := .builtin _, .. } => false
  | .call _ => true
  | _ => false

/-- The operations, one by one. A call that leaves memory alone may come in wherever. -/
def WD (P : Program) : List Item → List Ent → List AV → Heap → (List Ent → List AV → Heap → Prop) → Prop
  | [], acc, ts, H, K => K acc ts H
  | it :: rest, acc, ts, H, K =>
    match wantG it ts with
    | none => False
    | some false => it.k ≠ .a ∧ WD P rest (acc ++ [⟨ts, H, undefA⟩]) (putA ts it.o.dst undefA) H K
    | some true =>
      if isCall it.o.op = true then
        match it.k with
        | .n => ∃ r, (∀ H2, Step P it.o ts H2 r H2) ∧ WD P rest (acc ++ [⟨ts, H, r⟩]) (putA ts it.o.dst r) H K
        | .s => ∃ r H', Step P it.o ts H r H' ∧ H.length ≤ H'.length ∧ WD P rest (acc ++ [⟨ts, H, r⟩]) (putA ts it.o.dst r) H' K
        | .a => False
      else
        match it.k with
        | .a => match bOp P it.o.op ts with
          | some b => WD P rest (acc ++ [⟨ts, H, b.2 H.length⟩]) (putA ts it.o.dst (b.2 H.length)) (H ++ [.blk b.1 b.1.length false]) K
          | none => False
        | .n => keeps it.o.op = true ∧ match aOp P it.o.op ts H with
          | some (r, _) => WD P rest (acc ++ [⟨ts, H, r⟩]) (putA ts it.o.dst r) H K
          | none => False
        | .s => match aOp P it.o.op ts H with
          | some (r, H') => H.length ≤ H'.length ∧ WD P rest (acc ++ [⟨ts, H, r⟩]) (putA ts it.o.dst r) H' K
          | none => False

def items (ops : Array Oper) (ord : List Nat) (kds : List Kd) : List Item :=
  (ord.zip kds).map fun (j, k) => let o := ops.getD j default; ⟨o, k, o.guard.bind fun g => (ops[g.1]?).bind (·.dst)⟩

/-- What is known of an operation that leaves memory alone. -/
def NOk (P : Program) (it : Item) (ts : List AV) (H : Heap) (r : AV) : Prop :=
  (wantG it ts = some true ∧ ((keeps it.o.op = true ∧ aOp P it.o.op ts H = some (r, H)) ∨ ∀ H2, Step P it.o ts H2 r H2)) ∨ (wantG it ts = some false ∧ r = undefA)

def ItemOk (P : Program) (it : Item) (ts : List AV) (H : Heap) (r : AV) (H' : Heap) : Prop :=
  match it.k with
  | .n => H' = H ∧ NOk P it ts H r
  | .s => ((wantG it ts = some true ∧ Step P it.o ts H r H') ∨ (wantG it ts = some false ∧ r = undefA ∧ H' = H)) ∧ H.length ≤ H'.length
  | .a => wantG it ts = some true ∧ ∃ b : Birth, bOp P it.o.op ts = some b ∧ r = b.2 H.length ∧ H' = H ++ [.blk b.1 b.1.length false]

def tsAt (es : List Ent) (te : List AV) (p : Nat) : List AV := match es[p]? with | some e => e.ts | none => te
def hAt (es : List Ent) (He : Heap) (p : Nat) : Heap := match es[p]? with | some e => e.H | none => He
def rAt (es : List Ent) (p : Nat) : AV := match es[p]? with | some e => e.r | none => .unk

theorem WD_run : ∀ (l : List Item) (acc : List Ent) (ts : List AV) (H : Heap) (K : List Ent → List AV → Heap → Prop), WD P l acc ts H K →
    ∃ es te He, es.length = l.length ∧ K (acc ++ es) te He ∧ tsAt es te 0 = ts ∧ hAt es He 0 = H ∧ ∀ (p : Nat) (it : Item), l[p]? = some it → tsAt es te (p + 1) = putA (tsAt es te p) it.o.dst (rAt es p) ∧ ItemOk P it (tsAt es te p) (hAt es He p) (rAt es p) (hAt es He (p + 1))
  | [], acc, ts, H, K, h => ⟨[], ts, H, rfl, by simpa [WD] using h, rfl, rfl, fun p it e => by simp at e⟩
  | it :: rest, acc, ts, H, K, h => by
    have key : ∀ (r : AV) (H' : Heap), ItemOk P it ts H r H' → WD P rest (acc ++ [⟨ts, H, r⟩]) (putA ts it.o.dst r) H' K →
        ∃ es te He, es.length = (it :: rest).length ∧ K (acc ++ es) te He ∧ tsAt es te 0 = ts ∧ hAt es He 0 = H ∧ ∀ (p : Nat) (it' : Item), (it :: rest)[p]? = some it' → tsAt es te (p + 1) = putA (tsAt es te p) it'.o.dst (rAt es p) ∧ ItemOk P it' (tsAt es te p) (hAt es He p) (rAt es p) (hAt es He (p + 1)) := by
      intro r H' hok hw
      obtain ⟨es, te, He, h1, h2, h3, h4, h5⟩ := WD_run rest _ _ _ K hw
      refine ⟨⟨ts, H, r⟩ :: es, te, He, by simp [h1], by simpa using h2, rfl, rfl, fun p it' e => ?_⟩
      cases p with
      | zero =>
        simp at e; subst e
        refine ⟨?_, ?_⟩
        · show tsAt es te 0 = _
          exact h3
        · show ItemOk P it ts H r (hAt es He 0)
          rw [h4]; exact hok
      | succ p => exact h5 p it' (by simpa using e)
    unfold WD at h
    split at h
    · exact h.elim
    · rename_i hw
      obtain ⟨hk, h⟩ := h
      refine key _ _ ?_ h
      unfold ItemOk
      split
      · exact ⟨rfl, .inr ⟨hw, rfl⟩⟩
      · exact ⟨.inr ⟨hw, rfl, rfl⟩, Nat.le_refl _⟩
      · rename_i e; exact absurd e hk
    · rename_i hw
      split at h
      · rename_i hc
        split at h
        · rename_i hk
          obtain ⟨r, h1, h2⟩ := h
          exact key r H (by unfold ItemOk; rw [hk]; exact ⟨rfl, .inl ⟨hw, .inr h1⟩⟩) h2
        · rename_i hk
          obtain ⟨r, H', h1, h2, h3⟩ := h
          exact key r H' (by unfold ItemOk; rw [hk]; exact ⟨.inl ⟨hw, h1⟩, h2⟩) h3
        · exact h.elim
      · rename_i hc
        split at h
        · rename_i hk
          split at h
          · rename_i b hb
            exact key _ _ (by unfold ItemOk; rw [hk]; exact ⟨hw, b, hb, rfl, rfl⟩) h
          · exact h.elim
        · rename_i hk
          obtain ⟨hkp, h⟩ := h
          split at h
          · rename_i r H' ha
            have := aOp_keeps hkp ha
            subst this
            exact key _ _ (by unfold ItemOk; rw [hk]; exact ⟨rfl, .inl ⟨hw, .inl ⟨hkp, ha⟩⟩⟩) h
          · exact h.elim
        · rename_i hk
          split at h
          · rename_i r H' ha
            exact key _ _ (by unfold ItemOk; rw [hk]; exact ⟨.inl ⟨hw, .of_op ha⟩, h.1⟩) h.2
          · exact h.elim

theorem want_item {it : Item} {ts : List AV} (hg : it.g = it.o.guard.bind fun g => (ops[g.1]?).bind (·.dst)) : wantedA ops it.o ts = wantG it ts := by
  unfold wantedA wantG
  cases h : it.o.guard with
  | none => rfl
  | some g =>
    rw [h] at hg
    simp only [Option.bind_some] at hg
    simp only [hg]
    rfl

theorem NOk.one {it : Item} {ts : List AV} {H : Heap} {r : AV} (hg : it.g = it.o.guard.bind fun g => (ops[g.1]?).bind (·.dst)) (h : NOk P it ts H r) : One P ops it.o ts H r H := by
  unfold One
  rw [want_item hg]
  rcases h with ⟨hw, ⟨_, h⟩ | h⟩ | ⟨hw, h⟩
  · exact .inl ⟨hw, .of_op h⟩
  · exact .inl ⟨hw, h H⟩
  · exact .inr ⟨hw, h, rfl⟩

/-! ### A region in the order of its text -/
def kindOf (op : Op) : Kd :=
  match op with
  | .alloc _ | .box _ _ | .buildSlice _ _ _ | .makeSlice _ _ _ => .a
  | .store _ _ _ => .s
  | .call { callee := .builtin b, .. } => match b with | .len | .max | .min => .n | _ => .s
  | .call _ => .s
  | _ => .n

theorem W.plain {id : Nat} (kds : List Kd) (hk : kds.length = ops.size) (h : WD P (items ops (List.range ops.size) kds) [] ts H fun _ te He => Q .normal te He) : W P n0 (.region id ops false) ts H Q := by
  refine W.region ?_
  obtain ⟨es, te, He, h1, h2, h3, h4, h5⟩ := WD_run _ _ _ _ _ h
  have hit : ∀ p, p < ops.size → ∃ k, (items ops (List.range ops.size) kds)[p]? = some ⟨ops.getD p default, k, (ops.getD p default).guard.bind fun g => (ops[g.1]?).bind (·.dst)⟩ := fun p hp => by
    refine ⟨kds[p]'(by omega), ?_⟩
    unfold items
    have hz : ((List.range ops.size).zip kds)[p]? = some (p, kds[p]'(by omega)) := List.getElem?_zip_eq_some.2 ⟨List.getElem?_range hp, List.getElem?_eq_getElem (show p < kds.length by omega)⟩
    rw [List.getElem?_map, hz]
    rfl
  have hlen : es.length = ops.size := by rw [h1]; simp [items, hk]
  have main : ∀ d p, p + d = ops.size → WL P n0 ops ((List.range ops.size).drop p) (tsAt es te p) (hAt es He p) Q := by
    intro d
    induction d with
    | zero =>
      intro p hp
      rw [List.drop_eq_nil_of_le (by simp; omega)]
      have e1 : tsAt es te p = te := by unfold tsAt; rw [List.getElem?_eq_none (by omega)]
      have e2 : hAt es He p = He := by unfold hAt; rw [List.getElem?_eq_none (by omega)]
      rw [e1, e2]
      exact .nil h2
    | succ d ih =>
      intro p hp
      obtain ⟨k, hi⟩ := hit p (by omega)
      obtain ⟨g1, g2⟩ := h5 p _ hi
      have hdrop : (List.range ops.size).drop p = p :: (List.range ops.size).drop (p + 1) := by
        rw [List.drop_eq_getElem_cons (by simp; omega)]
        simp
      have ho : ops[p]? = some (ops.getD p default) := by
        rw [Array.getD_eq_getD_getElem?, Array.getElem?_eq_getElem (by omega)]
        rfl
      rw [hdrop]
      have nxt := ih (p + 1) (by omega)
      rw [g1] at nxt
      have hone : One P ops (ops.getD p default) (tsAt es te p) (hAt es He p) (rAt es p) (hAt es He (p + 1)) := by
        unfold ItemOk at g2
        cases k with
        | n =>
          rw [g2.1]
          exact g2.2.one (ops := ops) rfl
        | s =>
          unfold One
          have hw := want_item (ops := ops) (it := ⟨ops.getD p default, .s, (ops.getD p default).guard.bind fun g => (ops[g.1]?).bind (·.dst)⟩) (ts := tsAt es te p) rfl
          simp only at hw
          rw [hw]; exact g2.1
        | a =>
          have hw := want_item (ops := ops) (it := ⟨ops.getD p default, .a, (ops.getD p default).guard.bind fun g => (ops[g.1]?).bind (·.dst)⟩) (ts := tsAt es te p) rfl
          simp only at hw
          obtain ⟨hw', b, hb, hr, hz⟩ := g2
          unfold One
          rw [hw]
          refine .inl ⟨hw', ?_⟩
          rw [hr, hz]
          exact .of_op (bOp_aOp hb _)
      rcases hone with ⟨hw, hs⟩ | ⟨hw, hr, hz⟩
      · exact .cons ho hw hs nxt
      · rw [hr, hz] at nxt
        exact .pass ho hw nxt
  have := main ops.size 0 (by omega)
  rw [h3, h4] at this
  simpa using this

/-! ### A region that draws its order -/
def opAt (ops : Array Oper) (ord : List Nat) (p : Nat) : Oper := ops.getD (ord.getD p 0) default
def bindsOf (ops : Array Oper) (ord : List Nat) (p : Nat) : List Edge := (opAt ops ord p).after.toList.filter (Region.binds .any)
def befT (bs : List (List Nat)) (p q : Nat) : Bool := (bs.getD q []).contains p
/-- The pairs of a load and of a place where it may come up besides, with a change between. -/
def needs (kds : List Kd) (bs : List (List Nat)) (m p f : Nat) : Bool :=
  (f == m || kds.getD f .n == .s && !befT bs f p) && (List.range f).all (fun s => kds.getD s .n != .s || !befT bs p s) && ((List.range m).any fun s => kds.getD s .n == .s && (decide (p ≤ s) && decide (s < f) || decide (f ≤ s) && decide (s < p)))

def schedOk (ops : Array Oper) (ord : List Nat) (kds : List Kd) (bs : List (List Nat)) (chk : List (Nat × Nat)) : Bool :=
  let m := ops.size
  let R := List.range m
  ord.length == m && kds.length == m && R.all (fun j => ord.contains j) && R.all (fun p => decide (ord.getD p 0 < m) && ord.idxOf (ord.getD p 0) == p) &&
  R.all (fun q => (bindsOf ops ord q).all fun e => ord.contains e.on && decide (ord.idxOf e.on < q)) &&
  R.all (fun q => (bs.getD q []).all fun p => (bindsOf ops ord q).any fun e => let r := ord.idxOf e.on; ord.contains e.on && decide (r < q) && (r == p || befT bs p r)) &&
  R.all (fun p => match (opAt ops ord p).dst with
    | none => true
    | some d => R.all fun q => q == p || (opAt ops ord q).dst != some d) &&
  R.all (fun q => ((opAt ops ord q).looksAt ops).all fun t => R.all fun p => (opAt ops ord p).dst != some t || p == q || befT bs p q || befT bs q p) &&
  R.all (fun q => kds.getD q .n == .n || (List.range q).all fun p => kds.getD p .n != .s || befT bs p q) &&
  R.all (fun p => kds.getD p .n != .n || !isLoad (opAt ops ord p).op || (List.range (m + 1)).all fun f => !needs kds bs m p f || chk.contains (p, f)) &&
  R.all (fun p => kds.getD p .n != .a || (List.range (m + 1)).all fun f => !(decide (p < f) && needs kds bs m p f))

theorem schedOk_sched {ord : List Nat} {kds : List Kd} {bs : List (List Nat)} {chk : List (Nat × Nat)} (h : schedOk ops ord kds bs chk = true) :
    Sched ops ops.size (fun p => ord.getD p 0) (opAt ops ord) (fun p => kds.getD p .n) (befT bs) ∧ ord.length = ops.size ∧ kds.length = ops.size ∧
    (∀ p f, p < ops.size → kds.getD p .n = .n → isLoad (opAt ops ord p).op = true → f ≤ ops.size → needs kds bs ops.size p f = true → (p, f) ∈ chk) ∧
    (∀ p f, p < ops.size → kds.getD p .n = .a → p < f → f ≤ ops.size → needs kds bs ops.size p f = false) := by
  simp only [schedOk, Bool.and_eq_true, List.all_eq_true, List.mem_range, beq_iff_eq, decide_eq_true_eq, List.any_eq_true, Bool.or_eq_true, List.contains_iff_mem, bne_iff_ne] at h
  obtain ⟨⟨⟨⟨⟨⟨⟨⟨⟨⟨h1, h2⟩, h3⟩, h4⟩, h5⟩, h6⟩, h7⟩, h8⟩, h9⟩, h10⟩, h11⟩ := h
  have hidx : ∀ j, j ∈ ord → ord.getD (ord.idxOf j) 0 = j := fun j hj => by
    have := List.getElem_idxOf (List.idxOf_lt_length_of_mem hj)
    rw [List.getD_eq_getElem?_getD, List.getElem?_eq_getElem (List.idxOf_lt_length_of_mem hj), Option.getD_some, this]
  refine ⟨⟨rfl, fun p hp => ?_, fun j hj => ?_, fun p q hp hq e => ?_, fun q hq e he hb => ?_, fun p q hq hb => ?_, fun p q d hp hq e1 e2 => ?_, fun q t hq ht p hp hd => ?_, fun p q hq k1 k2 hlt => ?_, fun p q hq k1 k2 hlt => ?_⟩, h1, h2, fun p f hp hk hl hf hn => ?_, fun p f hp hk hpf hf => ?_⟩
  · have := (h4 p hp).1
    simp only [opAt]
    rw [Array.getD_eq_getD_getElem?, Array.getElem?_eq_getElem this]
    rfl
  · have hj' := h3 j hj
    exact ⟨ord.idxOf j, by rw [← h1]; exact List.idxOf_lt_length_of_mem hj', hidx j hj'⟩
  · have e1 := (h4 p hp).2
    have e2 := (h4 q hq).2
    rw [e] at e1
    omega
  · have := h5 q hq e (List.mem_filter.2 ⟨by simpa using he, hb⟩)
    exact ⟨_, this.2, hidx _ this.1⟩
  · have hb' : p ∈ bs.getD q [] := by simpa [befT] using hb
    obtain ⟨e, he, ⟨he1, he2⟩, he3⟩ := h6 q hq p hb'
    obtain ⟨g1, g2⟩ := List.mem_filter.1 he
    exact ⟨ord.idxOf e.on, e, by simpa using g1, g2, (hidx _ he1).symm, he2, he3⟩
  · have := h7 p hp
    rw [e1] at this
    simp only [List.all_eq_true, List.mem_range, Bool.or_eq_true, beq_iff_eq, bne_iff_ne] at this
    rcases this q hq with h' | h'
    · exact h'.symm
    · exact absurd e2 h'
  · rcases h8 q hq t ht p hp with ((h' | h') | h') | h'
    · exact absurd hd h'
    · exact .inl h'
    · exact .inr (.inl h')
    · exact .inr (.inr h')
  · rcases h9 q hq with h' | h'
    · rw [k2] at h'; cases h'
    · exact (h' p hlt).resolve_left fun g => g k1
  · rcases h9 q hq with h' | h'
    · rw [k2] at h'; cases h'
    · exact (h' p hlt).resolve_left fun g => g k1
  · rcases h10 p hp with (h' | h') | h'
    · exact absurd hk h'
    · rw [hl] at h'; cases h'
    · rcases h' f (by omega) with h' | h'
      · rw [hn] at h'; cases h'
      · exact h'
  · rcases h11 p hp with h' | h'
    · exact absurd hk h'
    · have := h' f (by omega)
      cases hn : needs kds bs ops.size p f with
      | false => rfl
      | true => rw [hn] at this; simp at this; omega

theorem needs_or {kds : List Kd} {bs : List (List Nat)} {m p f : Nat} (hpm : p < m) (ha : allow m (fun p => kds.getD p .n) (befT bs) p f) (hp : kds.getD p .n ≠ .s) : needs kds bs m p f = true ∨ (p ≤ f ∧ ∀ s, p ≤ s → s < f → kds.getD s .n ≠ .s) := by
  obtain ⟨h1, h2, h3⟩ := ha
  refine Classical.byContradiction fun hn => ?_
  have hno : ∀ s, s < m → kds.getD s .n = .s → ¬(p ≤ s ∧ s < f) ∧ ¬(f ≤ s ∧ s < p) := fun s hs hk => by
    refine ⟨fun hh => hn (.inl ?_), fun hh => hn (.inl ?_)⟩
    all_goals
      unfold needs
      simp only [Bool.and_eq_true, List.all_eq_true, List.mem_range, beq_iff_eq, decide_eq_true_eq, List.any_eq_true, Bool.or_eq_true, Bool.not_eq_true', bne_iff_ne]
      refine ⟨⟨?_, fun s hs => ?_⟩, s, hs, hk, by omega⟩
      · rcases Nat.lt_or_ge f m with h' | h'
        · exact .inr (h2 h')
        · exact .inl (by omega)
      · by_cases hks : kds.getD s .n = .s
        · exact .inr (h3 s hs hks)
        · exact .inl hks
  rcases Nat.lt_or_ge f p with h' | h'
  · have hfm : f < m := by omega
    exact (hno f hfm (h2 hfm).1).2 ⟨Nat.le_refl _, h'⟩
  · exact hn (.inr ⟨h', fun s g1 g2 hk => (hno s (by omega) hk).1 ⟨g1, g2⟩⟩)

theorem NOk.grow {it : Item} {ts : List AV} {H bs : Heap} {r : AV} (h : NOk P it ts H r) : NOk P it ts (H ++ bs) r := by
  rcases h with ⟨hw, ⟨hk, h⟩ | h⟩ | h
  · refine .inl ⟨hw, .inl ⟨hk, ?_⟩⟩
    cases hl : isLoad it.o.op with
    | true => exact aOp_load_grow hl h
    | false => exact aOp_any hk hl h
  · exact .inl ⟨hw, .inr h⟩
  · exact .inr h
theorem NOk.any {it : Item} {ts : List AV} {H H2 : Heap} {r : AV} (hl : isLoad it.o.op = false) (h : NOk P it ts H r) : NOk P it ts H2 r := by
  rcases h with ⟨hw, ⟨hk, h⟩ | h⟩ | h
  · exact .inl ⟨hw, .inl ⟨hk, aOp_any hk hl h⟩⟩
  · exact .inl ⟨hw, .inr h⟩
  · exact .inr h

def itemAt (ops : Array Oper) (ord : List Nat) (kds : List Kd) (p : Nat) : Item := ⟨opAt ops ord p, kds.getD p .n, (opAt ops ord p).guard.bind fun g => (ops[g.1]?).bind (·.dst)⟩

theorem W.draw {id : Nat} (ord : List Nat) (kds : List Kd) (bs : List (List Nat)) (chk : List (Nat × Nat)) (hm : P.follows .mixedOrders = true) (hs : schedOk ops ord kds bs chk = true)
    (h : WD P (items ops ord kds) [] ts H fun es te He => (∀ pf, pf ∈ chk → NOk P (itemAt ops ord kds pf.1) (tsAt es te pf.1) (hAt es He pf.2) (rAt es pf.1)) ∧ Q .normal te He) : W P n0 (.region id ops true) ts H Q := by
  obtain ⟨hS, hl1, hl2, hchk, hbr⟩ := schedOk_sched hs
  obtain ⟨es, te, He, h1, ⟨hc, hq⟩, h3, h4, h5⟩ := WD_run _ _ _ _ _ h
  simp only [List.nil_append] at hc
  have hlen : es.length = ops.size := by rw [h1]; simp [items, hl1, hl2]
  have hit : ∀ p, p < ops.size → (items ops ord kds)[p]? = some (itemAt ops ord kds p) := fun p hp => by
    have hz : (ord.zip kds)[p]? = some (ord.getD p 0, kds.getD p .n) := by
      rw [List.getD_eq_getElem?_getD, List.getD_eq_getElem?_getD, List.getElem?_eq_getElem (show p < ord.length by omega), List.getElem?_eq_getElem (show p < kds.length by omega)]
      exact List.getElem?_zip_eq_some.2 ⟨List.getElem?_eq_getElem (show p < ord.length by omega), List.getElem?_eq_getElem (show p < kds.length by omega)⟩
    unfold items
    rw [List.getElem?_map, hz]
    rfl
  have hR : Ran P ops ops.size (opAt ops ord) (fun p => kds.getD p .n) (befT bs) (tsAt es te) (hAt es He) (rAt es) := by
    have pre : ∀ p, p < ops.size → ItemOk P (itemAt ops ord kds p) (tsAt es te p) (hAt es He p) (rAt es p) (hAt es He (p + 1)) := fun p hp => (h5 p _ (hit p hp)).2
    -- no change between: more blocks at most
    have calm : ∀ p f, p ≤ f → f ≤ ops.size → (∀ s, p ≤ s → s < f → kds.getD s .n ≠ .s) → ∃ b, hAt es He f = hAt es He p ++ b := by
      intro p f
      induction f with
      | zero => intro h _ _; rw [show p = 0 by omega]; exact ⟨[], by simp⟩
      | succ f ih =>
        intro hle hm' hns
        rcases Nat.lt_or_ge p (f + 1) with h' | h'
        · obtain ⟨b, e⟩ := ih (by omega) (by omega) fun s g1 g2 => hns s g1 (by omega)
          have := pre f (by omega)
          unfold ItemOk at this
          cases hk : kds.getD f .n with
          | n =>
            simp only [itemAt, hk] at this
            exact ⟨b, by rw [this.1, e]⟩
          | s => exact absurd hk (hns f (by omega) (by omega))
          | a =>
            simp only [itemAt, hk] at this
            obtain ⟨_, b', _, _, e2⟩ := this
            exact ⟨b ++ [.blk b'.1 b'.1.length false], by rw [e2, e, List.append_assoc]⟩
        · rw [show p = f + 1 by omega]; exact ⟨[], by simp⟩
    refine ⟨fun p hp => (h5 p _ (hit p hp)).1, fun p hp hk => ?_, fun p hp hk => ?_, fun p hp hk => ?_⟩
    · have hp' := pre p hp
      unfold ItemOk at hp'
      have hk' : (itemAt ops ord kds p).k = .n := hk
      simp only [hk'] at hp'
      refine ⟨hp'.1, fun f hf => ?_⟩
      refine NOk.one (ops := ops) (it := itemAt ops ord kds p) rfl ?_
      cases hl : isLoad (itemAt ops ord kds p).o.op with
      | false => exact hp'.2.any hl
      | true =>
        have hne : kds.getD p .n ≠ .s := by
          have : kds.getD p .n = .n := hk
          rw [this]; simp
        rcases needs_or hp hf hne with hn | ⟨hn, hns⟩
        · exact hc (p, f) (hchk p f hp hk hl hf.1 hn)
        · obtain ⟨b, e⟩ := calm p f hn hf.1 hns
          rw [e]
          exact hp'.2.grow
    · have hp' := pre p hp
      unfold ItemOk at hp'
      have hk' : (itemAt ops ord kds p).k = .s := hk
      simp only [hk'] at hp'
      refine ⟨?_, hp'.2⟩
      have hw := want_item (ops := ops) (it := itemAt ops ord kds p) (ts := tsAt es te p) rfl
      unfold One
      rw [show (itemAt ops ord kds p).o = opAt ops ord p from rfl] at hw
      rw [hw]
      exact hp'.1
    · have hp' := pre p hp
      unfold ItemOk at hp'
      have hk' : (itemAt ops ord kds p).k = .a := hk
      simp only [hk'] at hp'
      obtain ⟨hw', b, hb, hr, hz⟩ := hp'
      have hw := want_item (ops := ops) (it := itemAt ops ord kds p) (ts := tsAt es te p) rfl
      rw [show (itemAt ops ord kds p).o = opAt ops ord p from rfl] at hw
      refine ⟨by rw [hw]; exact hw', b, hb, hr, hz, fun f hf hpf => ?_⟩
      have hne : kds.getD p .n ≠ .s := by
        have : kds.getD p .n = .a := hk
        rw [this]; simp
      rcases needs_or hp hf hne with hn | ⟨hn, hns⟩
      · rw [hbr p f hp hk hpf hf.1] at hn; cases hn
      · obtain ⟨b2, e⟩ := calm (p + 1) f hpf hf.1 fun s g1 g2 => hns s (by omega) g2
        rw [e, hz]
        rw [List.getElem?_append_left (by simp)]
        simp
  have hTm : tsAt es te ops.size = te := by unfold tsAt; rw [List.getElem?_eq_none (by omega)]
  have hZm : hAt es He ops.size = He := by unfold hAt; rw [List.getElem?_eq_none (by omega)]
  have := W.drawn (n0 := n0) (id := id) (Q := Q) hm hS hR (by rw [hTm, hZm]; exact hq)
  rw [h3, h4] at this
  exact this
end
end Go.Ab

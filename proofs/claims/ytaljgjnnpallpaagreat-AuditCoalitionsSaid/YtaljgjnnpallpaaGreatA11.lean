/- A region that draws its order: whatever order is drawn, it does what one order does that is looked at, where the orders agree. -/
import Derived.Test.YtaljgjnnpallpaaGreatA10
set_option linter.unusedVariables false
set_option linter.unusedSimpArgs false
namespace Go.Ab
open Go.RowKit

inductive Kd where
  /-- touches no memory, or reads it -/
  | n
  /-- changes memory -/
  | s
  /-- a birth -/
  | a
  deriving DecidableEq

/-- What is so of the region's text: m operations, the order that is looked at (idx), B: what comes ahead of what in every order. -/
structure Sched (ops : Array Oper) (m : Nat) (idx : Nat → Nat) (O : Nat → Oper) (kd : Nat → Kd) (B : Nat → Nat → Bool) : Prop where
  size : ops.size = m
  op : ∀ p, p < m → ops[idx p]? = some (O p)
  onto : ∀ j, j < m → ∃ p, p < m ∧ idx p = j
  inj : ∀ p q, p < m → q < m → idx p = idx q → p = q
  lin : ∀ q, q < m → ∀ e, e ∈ (O q).after → Region.binds .any e = true → ∃ p, p < q ∧ idx p = e.on
  bef : ∀ p q, q < m → B p q = true → ∃ r e, e ∈ (O q).after ∧ Region.binds .any e = true ∧ e.on = idx r ∧ r < q ∧ (r = p ∨ B p r = true)
  dst : ∀ p q d, p < m → q < m → (O p).dst = some d → (O q).dst = some d → p = q
  reads : ∀ q t, q < m → t ∈ (O q).looksAt ops → ∀ p, p < m → (O p).dst = some t → p = q ∨ B p q = true ∨ B q p = true
  chain : ∀ p q, q < m → kd p = .s → kd q = .s → p < q → B p q = true
  ahead : ∀ p q, q < m → kd p = .s → kd q = .a → p < q → B p q = true

/-- Operation p may come up while f is the first of the changes that are still to come. -/
def allow (m : Nat) (kd : Nat → Kd) (B : Nat → Nat → Bool) (p f : Nat) : Prop := f ≤ m ∧ (f < m → kd f = .s ∧ B f p = false) ∧ ∀ s, s < f → kd s = .s → B p s = false

def One (P : Program) (ops : Array Oper) (o : Oper) (ts : List AV) (H : Heap) (r : AV) (H' : Heap) : Prop :=
  (wantedA ops o ts = some true ∧ Step P o ts H r H') ∨ (wantedA ops o ts = some false ∧ r = undefA ∧ H' = H)

/-- What the operations do in the order that is looked at: T, Z: temporaries and blocks ahead of each; R: what each yields. -/
structure Ran (P : Program) (ops : Array Oper) (m : Nat) (O : Nat → Oper) (kd : Nat → Kd) (B : Nat → Nat → Bool) (T : Nat → List AV) (Z : Nat → Heap) (R : Nat → AV) : Prop where
  put : ∀ p, p < m → T (p + 1) = putA (T p) (O p).dst (R p)
  n : ∀ p, p < m → kd p = .n → Z (p + 1) = Z p ∧ ∀ f, allow m kd B p f → One P ops (O p) (T p) (Z f) (R p) (Z f)
  s : ∀ p, p < m → kd p = .s → One P ops (O p) (T p) (Z p) (R p) (Z (p + 1)) ∧ (Z p).length ≤ (Z (p + 1)).length
  a : ∀ p, p < m → kd p = .a → wantedA ops (O p) (T p) = some true ∧ ∃ b : Birth, bOp P (O p).op (T p) = some b ∧ R p = b.2 (Z p).length ∧ Z (p + 1) = Z p ++ [.blk b.1 b.1.length false] ∧ ∀ f, allow m kd B p f → p < f → (Z f)[(Z p).length]? = some (.blk b.1 b.1.length false)

section
variable {P : Program} {ops : Array Oper} {m : Nat} {idx : Nat → Nat} {O : Nat → Oper} {kd : Nat → Kd} {B : Nat → Nat → Bool} {T : Nat → List AV} {Z : Nat → Heap} {R : Nat → AV}

open Classical in
/-- A temporary when the operations of E have come up. -/
noncomputable def valA (m : Nat) (O : Nat → Oper) (R : Nat → AV) (ts : List AV) (E : Nat → Prop) (t : Nat) : AV :=
  if h : t < ts.length ∧ ∃ p, p < m ∧ E p ∧ (O p).dst = some t then R h.2.choose else ts.getD t undefA

theorem valA_some (hS : Sched ops m idx O kd B) {ts : List AV} {E : Nat → Prop} {t p : Nat} (ht : t < ts.length) (hp : p < m) (he : E p) (hd : (O p).dst = some t) : valA m O R ts E t = R p := by
  have h : t < ts.length ∧ ∃ p, p < m ∧ E p ∧ (O p).dst = some t := ⟨ht, p, hp, he, hd⟩
  unfold valA
  rw [dif_pos h]
  obtain ⟨h1, _, h3⟩ := h.2.choose_spec
  rw [hS.dst _ p t h1 hp h3 hd]
theorem valA_none {ts : List AV} {E : Nat → Prop} {t : Nat} (h : ∀ p, p < m → E p → (O p).dst ≠ some t) : valA m O R ts E t = ts.getD t undefA := by
  unfold valA
  rw [dif_neg]
  rintro ⟨_, p, h1, h2, h3⟩
  exact h p h1 h2 h3
theorem valA_far {ts : List AV} {E : Nat → Prop} {t : Nat} (h : ¬ t < ts.length) : valA m O R ts E t = undefA := by
  unfold valA
  rw [dif_neg (fun k => h k.1), List.getD_eq_getElem?_getD, List.getElem?_eq_none (by omega)]
  rfl
theorem valA_congr (hS : Sched ops m idx O kd B) {ts : List AV} {E E' : Nat → Prop} {t : Nat} (h : ∀ p, p < m → (O p).dst = some t → (E p ↔ E' p)) : valA m O R ts E t = valA m O R ts E' t := by
  by_cases ht : t < ts.length
  · by_cases hx : ∃ p, p < m ∧ E p ∧ (O p).dst = some t
    · obtain ⟨p, h1, h2, h3⟩ := hx
      rw [valA_some hS ht h1 h2 h3, valA_some hS ht h1 ((h p h1 h3).1 h2) h3]
    · rw [valA_none fun p h1 h2 h3 => hx ⟨p, h1, h2, h3⟩, valA_none fun p h1 h2 h3 => hx ⟨p, h1, (h p h1 h3).2 h2, h3⟩]
  · rw [valA_far ht, valA_far ht]

theorem Ran.tmps (hS : Sched ops m idx O kd B) (hR : Ran P ops m O kd B T Z R) : ∀ q, q ≤ m → (T q).length = (T 0).length ∧ ∀ t, (T q).getD t undefA = valA m O R (T 0) (fun p => p < q) t
  | 0, _ => ⟨rfl, fun t => (valA_none fun p _ h => absurd h (Nat.not_lt_zero _)).symm⟩
  | q + 1, hq => by
    obtain ⟨h1, h2⟩ := Ran.tmps hS hR q (by omega)
    rw [hR.put q (by omega)]
    cases hd : (O q).dst with
    | none =>
      refine ⟨h1, fun t => (h2 t).trans (valA_congr hS fun p hp ht => ⟨fun h => by omega, fun h => ?_⟩)⟩
      have : p ≠ q := fun e => by rw [e, hd] at ht; cases ht
      omega
    | some d =>
      refine ⟨by simp [putA, h1], fun t => ?_⟩
      simp only [putA, List.getD_eq_getElem?_getD]
      by_cases htd : t = d
      · subst htd
        by_cases hl : t < (T 0).length
        · rw [List.getElem?_set_self (by omega), valA_some hS hl (p := q) (by omega) (by omega) hd]
          rfl
        · rw [List.getElem?_eq_none (by simp; omega), valA_far hl]
          rfl
      · rw [List.getElem?_set_ne (by omega), ← List.getD_eq_getElem?_getD, h2 t]
        refine valA_congr hS fun p hp ht => ⟨fun h => by omega, fun h => ?_⟩
        have : p ≠ q := fun e => by rw [e, hd] at ht; exact htd (by injection ht with ht; exact ht.symm)
        omega

theorem Ran.grows (hR : Ran P ops m O kd B T Z R) : ∀ p, p < m → (Z p).length ≤ (Z (p + 1)).length := fun p hp => by
  cases hk : kd p with
  | n => rw [(hR.n p hp hk).1]; exact Nat.le_refl _
  | s => exact (hR.s p hp hk).2
  | a =>
    obtain ⟨_, b, _, _, e, _⟩ := hR.a p hp hk
    rw [e]; simp
theorem Ran.mono (hR : Ran P ops m O kd B T Z R) {p : Nat} : ∀ q, p ≤ q → q ≤ m → (Z p).length ≤ (Z q).length
  | 0, h, _ => by rw [show p = 0 by omega]; exact Nat.le_refl _
  | q + 1, h, hm => by
    rcases Nat.lt_or_ge p (q + 1) with h' | h'
    · exact Nat.le_trans (Ran.mono hR q (by omega) (by omega)) (hR.grows q (by omega))
    · rw [show p = q + 1 by omega]; exact Nat.le_refl _
theorem Ran.born (hR : Ran P ops m O kd B T Z R) {p q : Nat} (hk : kd p = .a) (h : p < q) (hq : q ≤ m) : (Z p).length < (Z q).length := by
  obtain ⟨_, b, _, _, e, _⟩ := hR.a p (by omega) hk
  have := hR.mono (p := p + 1) q (by omega) hq
  rw [e] at this
  simp at this; omega
theorem Ran.calm (hR : Ran P ops m O kd B T Z R) {p : Nat} : ∀ q, p ≤ q → q ≤ m → (∀ s, p ≤ s → s < q → kd s ≠ .s) → ∃ bs, Z q = Z p ++ bs
  | 0, h, _, _ => ⟨[], by rw [show p = 0 by omega]; simp⟩
  | q + 1, h, hm, hc => by
    rcases Nat.lt_or_ge p (q + 1) with h' | h'
    · obtain ⟨bs, e⟩ := Ran.calm hR q (by omega) (by omega) fun s h1 h2 => hc s h1 (by omega)
      cases hk : kd q with
      | n => exact ⟨bs, by rw [(hR.n q (by omega) hk).1, e]⟩
      | s => exact absurd hk (hc q (by omega) (by omega))
      | a =>
        obtain ⟨_, b, _, _, e2, _⟩ := hR.a q (by omega) hk
        exact ⟨bs ++ [.blk b.1 b.1.length false], by rw [e2, e, List.append_assoc]⟩
    · exact ⟨[], by rw [show p = q + 1 by omega]; simp⟩

theorem nextS (m : Nat) (kd : Nat → Kd) : ∀ d p, p + d = m → ∃ f, p ≤ f ∧ f ≤ m ∧ (∀ s, p ≤ s → s < f → kd s ≠ .s) ∧ (f < m → kd f = .s)
  | 0, p, h => ⟨p, by omega, by omega, fun s h1 h2 => by omega, fun h2 => by omega⟩
  | d + 1, p, h => by
    by_cases hk : kd p = .s
    · exact ⟨p, by omega, by omega, fun s h1 h2 => by omega, fun _ => hk⟩
    · obtain ⟨f, h1, h2, h3, h4⟩ := nextS m kd d (p + 1) (by omega)
      refine ⟨f, by omega, h2, fun s g1 g2 => ?_, h4⟩
      rcases Nat.lt_or_ge p s with h' | h'
      · exact h3 s (by omega) g2
      · rw [show s = p by omega]; exact hk

/-- Names ahead of the blocks. -/
theorem Rel.sleep {base : Nat} {w0 : World} {φ : Phi} {H : Heap} {w : World} (h : Rel base w0 φ H w) (bs : Heap) : Rel base w0 φ (H ++ bs) w := by
  have hlt : ∀ b v X, φ b v = some X → (H ++ bs)[b]? = H[b]? := fun b v X e => List.getElem?_append_left (h.dom _ _ _ e)
  refine ⟨h.below, h.size, fun b v X e => by have := h.dom _ _ _ e; simp; omega, h.lt, fun b cells mv ro hH v B o S hφ => ?_, h.know, h.zz, fun b e => by have := h.zdom _ e; simp; omega, fun b cells mv hH b' v v' B o S o' S' hne h1 h2 => ?_⟩
  · rw [hlt _ _ _ hφ] at hH
    exact h.blk b cells mv ro hH v B o S hφ
  · rw [hlt _ _ _ h1] at hH
    exact h.inj b cells mv hH b' v v' B o S o' S' hne h1 h2

def Fr (m : Nat) (kd : Nat → Kd) (E : Nat → Prop) (f : Nat) : Prop := f ≤ m ∧ (∀ s, s < f → kd s = .s → E s) ∧ (f < m → kd f = .s ∧ ¬ E f)

/-- What came up. -/
def Done (listed : Array Bool) (idx : Nat → Nat) (p : Nat) : Prop := listed.getD (idx p) false = true

structure Inv (P : Program) (ops : Array Oper) (m : Nat) (idx : Nat → Nat) (O : Nat → Oper) (kd : Nat → Kd) (T : Nat → List AV) (Z : Nat → Heap) (R : Nat → AV) (base : Nat) (w0 : World) (φ0 : Phi) (n0 : N0) (ds : List Deferred) (listed : Array Bool) (a : Act) (w : World) (φ : Phi) (f : Nat) : Prop where
  fr : Fr m kd (Done listed idx) f
  rel : Rel base w0 φ (Z f) w
  len : a.tmps.size = (T 0).length
  vals : ∀ t, VR φ (valA m O R (T 0) (Done listed idx) t) (a.tmps.getD t undef)
  ext : Ext base n0.n φ0 φ
  asleep : ∀ q, q < f → kd q = .a → ¬ Done listed idx q → φ.Z (Z q).length = true
  closed : ∀ p q, q < m → Done listed idx q → (∃ e, e ∈ (O q).after ∧ Region.binds .any e = true ∧ e.on = idx p) → Done listed idx p
  size : listed.size = m
  defs : a.defers = ds

theorem closed_B (hS : Sched ops m idx O kd B) {E : Nat → Prop} (hc : ∀ p q, q < m → E q → (∃ e, e ∈ (O q).after ∧ Region.binds .any e = true ∧ e.on = idx p) → E p) : ∀ q p, q < m → E q → B p q = true → E p := by
  intro q
  induction q using Nat.strongRecOn with
  | _ q ih =>
    intro p hq he hb
    obtain ⟨r, e, h1, h2, h3, hr, h4⟩ := hS.bef p q hq hb
    have her := hc r q hq he ⟨e, h1, h2, h3⟩
    rcases h4 with rfl | h4
    · exact her
    · exact ih r hr p (by omega) her h4

theorem bef_lt (hS : Sched ops m idx O kd B) : ∀ q p, q < m → B p q = true → p < q := by
  intro q
  induction q using Nat.strongRecOn with
  | _ q ih =>
    intro p hq hb
    obtain ⟨r, e, _, _, _, hr, h4⟩ := hS.bef p q hq hb
    rcases h4 with rfl | h4
    · exact hr
    · exact Nat.lt_trans (ih r hr p (by omega) h4) hr

theorem done_set {listed : Array Bool} (hS : Sched ops m idx O kd B) (hsz : listed.size = m) {p q : Nat} (hp : p < m) (hq : q < m) : Done (listed.setIfInBounds (idx p) true) idx q ↔ Done listed idx q ∨ q = p := by
  have hi : idx p < listed.size := by
    have := hS.op p hp
    have := (Array.getElem?_eq_some_iff.1 this).1
    rw [hsz, ← hS.size]; exact this
  unfold Done
  by_cases h : q = p
  · subst h
    simp [Array.getD, hi]
  · have hne : idx p ≠ idx q := fun e => h (hS.inj p q hp hq e).symm
    rw [getD_set_ne false hne]
    simp [h]

def cnt (listed : Array Bool) : Nat := listed.toList.countP (fun b => !b)
theorem cnt_set {listed : Array Bool} {i : Nat} (h : listed[i]? = some false) : cnt (listed.setIfInBounds i true) + 1 = cnt listed := by
  unfold cnt
  have hi : i < listed.toList.length := by have := (Array.getElem?_eq_some_iff.1 h).1; simpa using this
  have hv : listed.toList[i] = false := by
    have := Array.getElem?_eq_some_iff.1 h
    simpa using this.2
  rw [Array.toList_setIfInBounds, List.countP_set hi]
  have hpos : 0 < listed.toList.countP (fun b => !b) := List.countP_pos_iff.2 ⟨false, by rw [← hv]; exact List.getElem_mem _, rfl⟩
  simp only [hv, Bool.not_false, if_true, Bool.not_true, Bool.false_eq_true, if_false]
  omega
theorem cnt_zero {listed : Array Bool} (h : cnt listed = 0) (j : Nat) (hj : j < listed.size) : listed.getD j false = true := by
  unfold cnt at h
  rw [List.countP_eq_zero] at h
  have := h listed[j] (by rw [← Array.getElem_toList]; exact List.getElem_mem _)
  simpa [Array.getD, hj] using this

variable {base : Nat} {w0 : World} {φ0 : Phi} {n0 : N0} {ds : List Deferred} {ro : Option Nat} {Q : Ex → List AV → Heap → Prop}

theorem drawn_end (hS : Sched ops m idx O kd B) (hR : Ran P ops m O kd B T Z R) (hn0 : n0.n ≤ (Z 0).length) (hd0 : ∀ b v X, φ0 b v = some X → b < n0.n ∧ ∀ k, n0.len b = some k → v ≤ k) (hz0 : ∀ b, φ0.Z b = false → b < n0.n) (hQ : Q .normal (T m) (Z m)) {listed : Array Bool} {a : Act} {w : World} {φ : Phi} {f : Nat}
    (hI : Inv P ops m idx O kd T Z R base w0 φ0 n0 ds listed a w φ f) (hall : ∀ p, p < m → Done listed idx p) : Post base w0 φ0 n0 ds Q .normal a w := by
  have hf : f = m := by
    have := hI.fr.1
    rcases Nat.lt_or_ge f m with h | h
    · exact absurd (hall f h) (hI.fr.2.2 h).2
    · omega
  subst hf
  obtain ⟨h1, h2⟩ := hR.tmps hS f (Nat.le_refl _)
  refine ⟨.normal, T f, Z f, φ, rfl, hQ, ⟨hI.rel, ?_, hI.ext, Nat.le_trans hn0 (hR.mono f (Nat.zero_le _) (Nat.le_refl _)), hd0, hz0⟩, hI.defs⟩
  refine VRs.of_get _ _ (by simp [h1, hI.len]) fun t x hx => ?_
  have hlt : t < a.tmps.size := by
    have := (List.getElem?_eq_some_iff.1 hx).1
    rw [hI.len]; omega
  have hv := hI.vals t
  rw [valA_congr hS (E' := fun p => p < f) (fun p hp _ => ⟨fun _ => hp, fun _ => hall p hp⟩), ← h2 t, List.getD_eq_getElem?_getD, hx] at hv
  refine ⟨a.tmps[t], by simp [hlt], ?_⟩
  simpa [Array.getD, hlt] using hv

theorem drawn_any (hS : Sched ops m idx O kd B) (hR : Ran P ops m O kd B T Z R) (hn0 : n0.n ≤ (Z 0).length) (hd0 : ∀ b v X, φ0 b v = some X → b < n0.n ∧ ∀ k, n0.len b = some k → v ≤ k) (hz0 : ∀ b, φ0.Z b = false → b < n0.n) (hQ : Q .normal (T m) (Z m)) :
    ∀ (fuel : Nat) (listed : Array Bool) (a : Act) (w : World) (φ : Phi) (f : Nat), cnt listed = fuel → Inv P ops m idx O kd T Z R base w0 φ0 n0 ds listed a w φ f → wpAnyIn (Fw ro) 0 P .any ops (Post base w0 φ0 n0 ds Q) fuel listed a w := by
  intro fuel
  induction fuel with
  | zero =>
    intro listed a w φ f hc hI
    have hall : ∀ p, p < m → Done listed idx p := fun p hp => cnt_zero hc _ (by
      have := (Array.getElem?_eq_some_iff.1 (hS.op p hp)).1
      rw [hI.size, ← hS.size]; exact this)
    refine ⟨?_, drawn_end hS hR hn0 hd0 hz0 hQ hI hall⟩
    cases hr : Region.ready .any ops listed with
    | nil => rfl
    | cons j l =>
      obtain ⟨h1, o, h2, _⟩ := mem_ready.1 (show j ∈ Region.ready .any ops listed by rw [hr]; simp)
      have hj := (Array.getElem?_eq_some_iff.1 h2).1
      obtain ⟨p, hp, rfl⟩ := hS.onto j (by rw [← hS.size]; exact hj)
      have h3 := hall p hp
      unfold Done at h3
      have hjl : idx p < listed.size := by rw [hI.size, ← hS.size]; exact hj
      simp [Array.getD, hjl] at h1 h3
      rw [h1] at h3; cases h3
  | succ fuel ih =>
    intro listed a w φ f hc hI
    refine ⟨fun hnil => drawn_end hS hR hn0 hd0 hz0 hQ hI ?_, fun i hi => ?_⟩
    · -- nothing is ready: everything came up
      intro p
      induction p using Nat.strongRecOn with
      | _ p ihp =>
        intro hp
        refine Classical.byContradiction fun hnd => ?_
        have hj := (Array.getElem?_eq_some_iff.1 (hS.op p hp)).1
        have hjl : idx p < listed.size := by rw [hI.size, ← hS.size]; exact hj
        have : idx p ∈ Region.ready .any ops listed := mem_ready.2 ⟨by
          unfold Done at hnd
          simp [Array.getD, hjl] at hnd ⊢
          exact hnd, O p, hS.op p hp, fun e he hb => by
          obtain ⟨q, hq, e2⟩ := hS.lin p hp e he hb
          rw [← e2]; exact ihp q hq (by omega)⟩
        rw [hnil] at this; cases this
    · obtain ⟨h1, o, h2, hpre⟩ := mem_ready.1 hi
      have hj := (Array.getElem?_eq_some_iff.1 h2).1
      obtain ⟨p, hp, rfl⟩ := hS.onto i (by rw [← hS.size]; exact hj)
      rw [hS.op p hp] at h2
      injection h2 with h2; subst h2
      have hjl : idx p < listed.size := by rw [hI.size, ← hS.size]; exact hj
      have hlf : listed[idx p]? = some false := by
        simp [Array.getD, hjl] at h1
        rw [Array.getElem?_eq_getElem hjl, h1]
      have hnd : ¬ Done listed idx p := by
        unfold Done
        simp [Array.getD, hjl] at h1 ⊢
        exact h1
      have hcB := closed_B hS hI.closed
      have hpreB : ∀ q, B q p = true → Done listed idx q := fun q hb => by
        obtain ⟨r, e, g1, g2, g3, hr, h4⟩ := hS.bef q p hp hb
        have her : Done listed idx r := by unfold Done; rw [← g3]; exact hpre e g1 g2
        rcases h4 with rfl | h4
        · exact her
        · exact hcB r q (by omega) her h4
      have hpostB : ∀ q, q < m → B p q = true → ¬ Done listed idx q := fun q hq hb hd => hnd (hcB q p hq hd hb)
      obtain ⟨hT1, hT2⟩ := hR.tmps hS p (Nat.le_of_lt hp)
      -- what is looked at is as in the order that is looked at
      have hag : ∀ t, t ∈ (O p).looksAt ops → VR φ ((T p).getD t undefA) (a.tmps.getD t undef) := fun t ht => by
        have hv := hI.vals t
        rw [valA_congr hS (E' := fun q => q < p) (fun q hq hd => ?_), ← hT2 t] at hv
        · exact hv
        · rcases hS.reads p t hp ht q hq hd with rfl | hb | hb
          · exact ⟨fun h => absurd h hnd, fun h => absurd h (Nat.lt_irrefl _)⟩
          · exact ⟨fun _ => bef_lt hS p q hp hb, fun _ => hpreB q hb⟩
          · exact ⟨fun h => absurd h (hpostB q hq hb), fun h => by have := bef_lt hS q p hq hb; omega⟩
      have hlook : ∀ x, x ∈ (O p).op.operands → VR φ (look (T p) x) (a.eval x) := fun x hx => by
        cases x with
        | tmp t => exact hag t (List.mem_append_left _ (List.mem_filterMap.2 ⟨.tmp t, by simpa using hx, rfl⟩))
        | const v => exact ofV_ok φ 4 v
        | global g => exact .unk _
        | func f => exact .func .nil .nil
      have hwant : ∀ b, wantedA ops (O p) (T p) = some b → Region.wanted (O p) (yielded ops a.tmps) = b := fun b hb =>
        wantedA_ok (fun j want d hg hd => hag d (by
          refine List.mem_append_right _ ?_
          rw [hg]
          simp [hd])) hb
      have hcnt : cnt (listed.setIfInBounds (idx p) true) = fuel := by have := cnt_set hlf; omega
      -- the next state
      have next : ∀ (v : Value) (w' : World) (φ' : Phi) (f' : Nat), Sub φ φ' → VR φ' (R p) v → Fr m kd (fun q => Done listed idx q ∨ q = p) f' → Rel base w0 φ' (Z f') w' → Ext base n0.n φ0 φ' →
          (∀ q, q < f' → kd q = .a → ¬ Done listed idx q → q ≠ p → φ'.Z (Z q).length = true) →
          wpAnyIn (Fw ro) 0 P .any ops (Post base w0 φ0 n0 ds Q) fuel (listed.setIfInBounds (idx p) true) (a.put (O p).dst v) w' := by
        intro v w' φ' f' g1 g2 g3 g4 g5 g6
        have hE : ∀ q, q < m → (Done (listed.setIfInBounds (idx p) true) idx q ↔ Done listed idx q ∨ q = p) := fun q hq => done_set hS hI.size hp hq
        have hlt : f' ≤ m := g3.1
        refine ih _ _ w' φ' f' hcnt ⟨⟨g3.1, fun s hs hk => (hE s (by omega)).2 (g3.2.1 s hs hk), fun hf => ⟨(g3.2.2 hf).1, fun hd => (g3.2.2 hf).2 ((hE f' hf).1 hd)⟩⟩, g4, ?_, fun t => ?_, g5, fun q hq hk hnq => g6 q hq hk (fun hd => hnq ((hE q (by omega)).2 (.inl hd))) (fun e => hnq ((hE q (by omega)).2 (.inr e))), fun r q hq hd he => ?_, by simp [hI.size], by rw [put_defers]; exact hI.defs⟩
        · cases (O p).dst <;> simp [Act.put, hI.len]
        · rw [valA_congr hS (E' := fun q => Done listed idx q ∨ q = p) (fun q hq _ => hE q hq)]
          have hv := (hI.vals t).mono g1
          by_cases hd : (O p).dst = some t
          · rw [hd]
            by_cases ht : t < (T 0).length
            · rw [valA_some hS ht hp (.inr rfl) hd]
              have : (a.put (some t) v).tmps.getD t undef = v := by
                simp [Act.put, Array.getD, show t < a.tmps.size by rw [hI.len]; exact ht]
              rw [this]; exact g2
            · rw [valA_far ht]
              have : (a.put (some t) v).tmps.getD t undef = undef := by
                simp [Act.put, Array.getD, show ¬ t < a.tmps.size by rw [hI.len]; exact ht]
              rw [this]; exact .tuple .nil
          · rw [valA_congr hS (E' := Done listed idx) (fun q hq hdq => ⟨fun h => h.resolve_right fun e => hd (e ▸ hdq), .inl⟩)]
            have : (a.put (O p).dst v).tmps.getD t undef = a.tmps.getD t undef := by
              cases hdd : (O p).dst with
              | none => rfl
              | some d =>
                have hne : d ≠ t := fun e => hd (by rw [hdd, e])
                rw [Array.getD_eq_getD_getElem?, Array.getD_eq_getD_getElem?]
                simp [Act.put, Array.getElem?_setIfInBounds_ne hne]
            rw [this]; exact hv
        · rcases (hE q hq).1 hd with hd | rfl
          · have := hI.closed r q hq hd he
            obtain ⟨e, he1, he2, he3⟩ := he
            obtain ⟨r', hr', e4⟩ := hS.lin q hq e he1 he2
            unfold Done at this ⊢
            by_cases hir : idx q = idx r
            · exact getD_set_true this
            · exact getD_set_true this
          · obtain ⟨e, he1, he2, he3⟩ := he
            unfold Done
            rw [← he3]
            exact getD_set_true (hpre e he1 he2)
      have hfm := hI.fr.1
      -- a change comes up where it is the first
      unfold wpOpIn
      rw [hS.op p hp]
      simp only []
      have stay : kd p ≠ .s → Fr m kd (fun q => Done listed idx q ∨ q = p) f := fun hk => ⟨hI.fr.1, fun s hs hks => .inl (hI.fr.2.1 s hs hks), fun hf => ⟨(hI.fr.2.2 hf).1, fun hd => hd.elim (hI.fr.2.2 hf).2 fun e => hk (e ▸ (hI.fr.2.2 hf).1)⟩⟩
      have hallow : allow m kd B p f := ⟨hI.fr.1, fun hf => ⟨(hI.fr.2.2 hf).1, by
        cases hb : B f p with
        | false => rfl
        | true => exact absurd (hpreB f hb) (hI.fr.2.2 hf).2⟩, fun s hs hk => by
        cases hb : B p s with
        | false => rfl
        | true => exact absurd (hI.fr.2.1 s hs hk) (hpostB s (by omega) hb)⟩
      cases hk : kd p with
      | n =>
        obtain ⟨_, hone⟩ := hR.n p hp hk
        rcases hone f hallow with ⟨hw, hst⟩ | ⟨hw, hr, _⟩
        · rw [if_pos (hwant _ hw)]
          refine hst base w0 φ ro a w _ _ hI.rel hlook fun v w' φ' e1 e2 e3 e4 => ?_
          refine next v w' φ' f e1.sub e4 (stay (by rw [hk]; simp)) e3 (hI.ext.trans e1 (Nat.le_trans hn0 (hR.mono f (Nat.zero_le _) hfm))) fun q hq hkq hnq hne => ?_
          exact e1.stays _ (hR.born hkq hq hfm) (hI.asleep q hq hkq hnq)
        · rw [if_neg (by rw [hwant _ hw]; simp)]
          refine ⟨fun _ _ => trivial, next undef w φ f (Sub.refl φ) (by rw [hr]; exact .tuple .nil) (stay (by rw [hk]; simp)) hI.rel hI.ext fun q hq hkq hnq hne => hI.asleep q hq hkq hnq⟩
      | a =>
        obtain ⟨hw, b, hb, hr, hz, hfz⟩ := hR.a p hp hk
        have hpf : p < f := by
          refine Classical.byContradiction fun hn => ?_
          have hfl : f < m := by omega
          have hks := (hI.fr.2.2 hfl).1
          have hne : f ≠ p := fun e => by rw [e, hk] at hks; cases hks
          exact (hI.fr.2.2 hfl).2 (hpreB f (hS.ahead f p hp hks hk (by omega)))
        rw [if_pos (hwant _ hw)]
        refine ⟨fun _ _ => trivial, ?_⟩
        obtain ⟨s, hs1, hs2⟩ := bOp_ok hI.rel (O p) hlook hb
        obtain ⟨v, w', φ', g1, g2, g3, g4, g5, g6⟩ := hs2 (Z p).length (Z f) (hI.asleep p hpf hk hnd) (hfz f hallow hpf) (fun _ _ => rfl) (Nat.le_refl _)
        rw [Oper.semAt_eq _ _ _ (fun c hc => by rw [hc] at hb; simp [bOp] at hb), hs1]
        simp only [Sem.run_bind, g1, Result.andThen_ok, Sem.run_pure, Oper.uponIn_value]
        refine next v w' φ' f g2 (by rw [hr]; exact g6) (stay (by rw [hk]; simp)) g5 ⟨hI.ext.sub.trans g2, fun c hc e => g3 c (by have := hR.mono p (Nat.zero_le _) (Nat.le_of_lt hp); omega) (hI.ext.stays c hc e), fun B i v hB e => hI.ext.knew B i v hB (g4 B i v e)⟩ fun q hq hkq hnq hne => ?_
        refine g3 _ ?_ (hI.asleep q hq hkq hnq)
        rcases Nat.lt_or_ge q p with h' | h'
        · have := hR.born hkq h' (Nat.le_of_lt hp); omega
        · have := hR.born hk (show p < q by omega) (by omega); omega
      | s =>
        obtain ⟨hone, hlen⟩ := hR.s p hp hk
        have hfp : f = p := by
          rcases Nat.lt_trichotomy f p with h' | h' | h'
          · exact absurd (hpreB f (hS.chain f p hp (hI.fr.2.2 (by omega)).1 hk h')) (hI.fr.2.2 (by omega)).2
          · exact h'
          · exact absurd (hI.fr.2.1 p h' hk) hnd
        subst hfp
        obtain ⟨f', k1, k2, k3, k4⟩ := nextS m kd (m - (f + 1)) (f + 1) (by omega)
        obtain ⟨bs, hbs⟩ := hR.calm f' k1 k2 k3
        have hfr : Fr m kd (fun q => Done listed idx q ∨ q = f) f' := by
          refine ⟨k2, fun s hs hks => ?_, fun hf' => ⟨k4 hf', fun hd => ?_⟩⟩
          · rcases Nat.lt_trichotomy s f with h' | h' | h'
            · exact .inl (hI.fr.2.1 s h' hks)
            · exact .inr h'
            · exact absurd hks (k3 s h' hs)
          · rcases hd with hd | hd
            · exact hpostB f' hf' (hS.chain f f' hf' hk (k4 hf') (by omega)) hd
            · omega
        have aslp : ∀ φ' : Phi, (∀ c, c < (Z f).length → φ.Z c = true → φ'.Z c = true) → (∀ c, φ'.Z c = false → c < (Z (f + 1)).length) → ∀ q, q < f' → kd q = .a → ¬ Done listed idx q → q ≠ f → φ'.Z (Z q).length = true := by
          intro φ' g1 g2 q hq hkq hnq hne
          rcases Nat.lt_or_ge q f with h' | h'
          · exact g1 _ (hR.born hkq h' hfm) (hI.asleep q h' hkq hnq)
          · have := hR.mono (p := f + 1) q (by omega) (by omega)
            cases hz : φ'.Z (Z q).length with
            | true => rfl
            | false => have := g2 _ hz; omega
        rcases hone with ⟨hw, hst⟩ | ⟨hw, hr, hz⟩
        · rw [if_pos (hwant _ hw)]
          refine hst base w0 φ ro a w _ _ hI.rel hlook fun v w' φ' e1 e2 e3 e4 => ?_
          refine next v w' φ' f' e1.sub e4 hfr (by rw [hbs]; exact e3.sleep bs) (hI.ext.trans e1 (Nat.le_trans hn0 (hR.mono f (Nat.zero_le _) hfm))) (aslp φ' e1.stays e3.zdom)
        · rw [if_neg (by rw [hwant _ hw]; simp)]
          refine ⟨fun _ _ => trivial, next undef w φ f' (Sub.refl φ) (by rw [hr]; exact .tuple .nil) hfr (by rw [hbs, hz]; exact hI.rel.sleep bs) hI.ext (aslp φ (fun _ _ e => e) (by rw [hz]; exact hI.rel.zdom))⟩

theorem W.drawn {id : Nat} (hm : P.follows .mixedOrders = true) (hS : Sched ops m idx O kd B) (hR : Ran P ops m O kd B T Z R) (hQ : Q .normal (T m) (Z m)) : W P n0 (.region id ops true) (T 0) (Z 0) Q := by
  intro base w0 φ0 ro a w φ s
  refine wpIn_region_any hm ?_
  rw [World.drew_eq]
  obtain ⟨f, k1, k2, k3, k4⟩ := nextS m kd m 0 (by omega)
  obtain ⟨bs, hbs⟩ := hR.calm f k1 k2 k3
  have hnd : ∀ p, ¬ Done (Array.replicate ops.size false) idx p := fun p h => by
    unfold Done at h
    by_cases hp : idx p < ops.size <;> simp [Array.getD, hp] at h
  refine drawn_any (f := f) (φ := φ) hS hR s.le s.dom0 s.domZ hQ ops.size _ a w.drew ?_ ⟨⟨k2, fun s' hs hk => absurd hk (k3 s' (Nat.zero_le _) hs), fun hf => ⟨k4 hf, hnd f⟩⟩, by rw [hbs]; exact s.rel.drew.sleep bs, ?_, fun t => ?_, s.ext, fun q hq hkq _ => ?_, fun p q _ h => absurd h (hnd q), by simp [hS.size], rfl⟩
  · simp [cnt, List.countP_replicate]
  · have := VRs.length s.tr
    simp at this; omega
  · rw [valA_none fun p _ h => absurd h (hnd p)]
    exact s.tr.get t
  · have := hR.mono (p := 0) q (Nat.zero_le _) (by omega)
    cases hz : φ.Z (Z q).length with
    | true => rfl
    | false => have := s.rel.zdom _ hz; omega
end
end Go.Ab

/- The statement: 'privatefetchlaw45.AuditCoalitions' answers true for every input, and what came in reads as it did. No condition. -/
import Derived.Test.YtaljgjnnpallpaaGreatRows
import Derived.Test.YtaljgjnnpallpaaGreatCC
import Derived.WalkKit
import Derived.ProofKit
import Derived.OpenShut
import Derived.ShutString
import Derived.ChangeOld
import Derived.Below
section

namespace Go.Ab
open Go.RowKit Go.Proofs
/-- The machine's memory, all of it known. -/
def allK (w : World) : Phi := ⟨fun _ _ => none, fun B i => w.cell? ⟨B, i, none⟩, fun _ => true⟩
theorem vrs_ints (φ : Phi) (k : IntKind) : ∀ zs : List Int, VRs φ (zs.map (AV.int k)) (zs.map (Value.int k))
  | [] => .nil
  | z :: zs => .cons (.int k z) (vrs_ints φ k zs)
end Go.Ab
namespace Go.Proofs.YtaljgjnnpallpaaGreat.auditCoalitionsDone
open Go.ChangeShapes Go.WideShapes Go.ChangeAt Go.RowKit
open Go.ChangeMaps (open_string shut_string)
set_option linter.unusedVariables false

theorem own : ownKnob Tryz.prog.godebug = none := by kernel_rfl
theorem laidOut : laidOutB Tryz.prog = true := by kernel_rfl

def IsRow (k : IntKind) (w : World) (a : Option Addr) (len cap : Nat) (zs : List Int) : Prop :=
  (a = none ∧ len = 0 ∧ cap = 0 ∧ zs = []) ∨
  ∃ x, a = some x ∧ len ≤ cap ∧ cap ≤ maxLen ∧ zs.length = cap ∧ (∀ i, i < zs.length → w.cell? (x.add i) = some (.int k (zs.getD i 0))) ∧ ∀ n ∈ zs, (Lit.int k n).wf = true

theorem walk (a0 : Option Addr) (len0 cap0 : Nat) (z0 : List Int) (w : World) (w0 : IsRow .u8 w a0 len0 cap0 z0) :
    Calls Tryz.prog 7 #[.slice a0 len0 cap0] w fun e w' => e = .returned (.bool true) ∧ Below w.heap.size w w' := by
  have hrow : ∃ xs : List Int, (Go.Ab.u8s xs) ∧ xs.length < 9223372036854775808 ∧ Go.Ab.VR (Go.Ab.allK w) (.vals 1 (xs.map (Go.Ab.AV.int .u8)) false) (.slice a0 len0 cap0) := by
    rcases w0 with ⟨rfl, rfl, rfl, rfl⟩ | ⟨x, rfl, hl, hm, hz, hcell, hwz⟩
    · exact ⟨[], fun c hc => absurd hc (by simp), by decide, .vals (B := 0) (o := 0) (ys := []) (fun i y h => by simp at h) .nil rfl (Nat.le_refl _) (.inr ⟨rfl, fun _ => ⟨rfl, rfl⟩⟩)⟩
    · by_cases hc : cap0 = 0
      · obtain rfl : len0 = 0 := by omega
        exact ⟨[], fun c hc => absurd hc (by simp), by decide, .vals (B := 0) (o := 0) (ys := []) (fun i y h => by simp at h) .nil rfl hl (.inr ⟨rfl, fun h => by cases h⟩)⟩
      · obtain ⟨b, off, spot⟩ := x
        have hspot : spot = none := by
          have hc0 := hcell 0 (by omega)
          simpa [Addr.add] using World.cell?_spot hc0
        subst hspot
        have hmax : cap0 < 9223372036854775808 := Nat.lt_of_le_of_lt hm (by decide)
        refine ⟨z0.take len0, fun c hc => ?_, by rw [List.length_take]; omega, ?_⟩
        · have := hwz c (List.mem_of_mem_take hc)
          simp only [Lit.wf, Bool.and_eq_true, decide_eq_true_eq] at this
          have h1 : IntKind.u8.min = 0 := by decide
          have h2 : IntKind.u8.max = 255 := by decide
          omega
        · refine .vals (B := b) (o := off) (ys := (z0.take len0).map (Value.int .u8)) (fun i y h => ?_) (Go.Ab.vrs_ints _ _ _) (by simp; omega) hl (.inl rfl)
          rw [List.getElem?_map] at h
          have hi : i < (z0.take len0).length := by
            rcases Nat.lt_or_ge i (z0.take len0).length with g | g
            · exact g
            · rw [List.getElem?_eq_none g] at h; cases h
          rw [List.length_take] at hi
          rw [List.getElem?_take_of_lt (by omega), List.getElem?_eq_getElem (by omega)] at h
          cases h
          have := hcell i (by omega)
          rw [List.getD_eq_getElem?_getD, List.getElem?_eq_getElem (by omega)] at this
          have ha : (⟨b, off, none⟩ : Addr).add i = ⟨b, off + i, none⟩ := by cases i <;> simp [Addr.add]
          rw [ha] at this
          exact this
  obtain ⟨xs, hu, hx, hv⟩ := hrow
  have hk : Go.Ab.KN (Go.Ab.allK w) w := fun B i v h => h
  refine (Go.Ab.pc7 xs false hu hx w.heap.size w _ w #[.slice a0 len0 cap0] hk.rel (.cons hv .nil)).mono fun e w' h => ?_
  obtain ⟨v, φ', rfl, _, _, hr, hb⟩ := h
  cases hb
  exact ⟨rfl, hr.below.bel⟩

set_option maxRecDepth 100000 in
theorem lifted (os : Os) (started : os.Started) (H : Type) (enc : TypeId × Value → H) :
    ReturnsInHanded {} Tryz.checked os 7 .any (Rows.auditCoalitionsSpec.pre6 enc Tryz.prog Tryz.f7 Rows.auditCoalitionsRow.domain false) (Rows.auditCoalitionsSpec.post enc Tryz.prog Tryz.f7 false true false false) := by
  refine returnsInHanded_of_change (C := Tryz.checked) own started (by kernel_rfl) Tryz.func7
    (ChangeSpec.witness6 (enc := enc) (C := Tryz.checked) false ⟨#[], #[.slice none 0 0], []⟩ 8 (by kernel_rfl) (by kernel_rfl) (by kernel_rfl) (by kernel_rfl)) ?_
  intro W base args ds gs before hval0 hW hcnd _
  have hval : ∀ (j : Nat) t v, Tryz.f7.params[j]? = some t → args[j]? = some v → Value.okWide Tryz.prog W .any base t v := hval0
  have hW' := hW
  obtain ⟨p, q, hA0, hV, rfl, hfz, hnd⟩ := hW
  have hA : DataW.TrodAll enc Tryz.prog W 0 (fun _ => true) true Tryz.f7.params.toList args.toList ds p := hA0
  rw [Tryz.params7] at hA hval
  obtain ⟨v0, vs0, d0, ds0, p0, q0, hargs, rfl, rfl, h0, r0⟩ := trodAll_cons hA
  obtain ⟨rfl, rfl, rfl⟩ := trodAll_nil r0
  obtain rfl : args = #[v0] := by cases args; simp_all
  obtain ⟨rfl, rfl⟩ := trodVars_none hV
  obtain ⟨a0, len0, cap0, rfl⟩ := okWide_slice Tryz.underlying22 (hval 0 22 v0 rfl rfl)
  have k0 := h0
  have lt0 : ∀ x ∈ p0, x.block < W.heap.size := by obtain ⟨m, hm⟩ := k0; exact DataW.trod_lt m _ _ _ hm
  obtain ⟨z0, w0⟩ : ∃ zs, IsRow .u8 W a0 len0 cap0 zs := by
    obtain ⟨fuel, hf⟩ := h0
    rcases open_ints Tryz.underlying22 Tryz.underlying5 (by kernel_rfl) hf with ⟨hcs, _⟩ | ⟨x, l, c, zs, hcs, _, hl, hm, hz, _, hcell, hwz⟩
    · simp [Value.cells] at hcs
      obtain ⟨rfl, rfl, rfl⟩ := hcs
      exact ⟨[], .inl ⟨rfl, rfl, rfl, rfl⟩⟩
    · simp [Value.cells] at hcs
      obtain ⟨rfl, rfl, rfl⟩ := hcs
      exact ⟨zs, .inr ⟨_, rfl, hl, hm, by simpa using hz, hcell, hwz⟩⟩
  clear hA0 hval0
  refine (walk a0 len0 cap0 z0 W w0).mono fun e W' ⟨he, bel⟩ => ?_
  subst he
  exact ⟨_, rfl, _, _, _, [], _, [], hW', trodAll_mk1 (shut_bool Tryz.underlying4 _), (trodAll_cons_mk (Below.trod laidOut (by kernel_rfl) (of_decide_eq_true (by kernel_rfl)) k0 bel lt0) trodAll_mk0), rfl, bel.frame _, fun h => by cases h⟩

theorem over : Rows.auditCoalitionsRow.holds Tryz.pinned (OpenSpec.ofChange Rows.auditCoalitionsSpec) :=
  OpenClaim.holds_of_wide 7 Tryz.f7 rfl rfl rfl rfl rfl rfl rfl ⟨rfl, rfl, rfl, rfl, rfl⟩ rfl rfl rfl rfl rfl (by kernel_rfl) Tryz.func7 (by kernel_rfl)
    (of_decide_eq_true (by kernel_rfl)) (by unfold Func.isWrapper; first | (rw [if_pos (by decide +kernel)]; kernel_rfl) | (rw [if_neg (by decide +kernel)]; exact ⟨rfl, rfl⟩))
    (fun os started H enc _ => lifted os started H enc)

theorem proved : Rows.AuditCoalitionsSaid := over
#print axioms proved
end Go.Proofs.YtaljgjnnpallpaaGreat.auditCoalitionsDone
end

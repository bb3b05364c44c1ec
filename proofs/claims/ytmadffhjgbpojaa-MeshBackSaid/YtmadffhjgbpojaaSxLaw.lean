/- Sx: from the evaluator's word on a law to what the statements ask. -/
import Derived.Test.YtmadffhjgbpojaaSxSpec
import Derived.Below
import Derived.RowKit
namespace Go.Proofs.Ytmadffhjgbpojaa.Sx
open Go Go.RowKit
variable {P : Program}

/-- A slice of integers that came in. -/
def IsRow (k : IntKind) (w : World) (a : Option Addr) (len cap : Nat) (zs : List Int) : Prop :=
  (a = none ∧ len = 0 ∧ cap = 0 ∧ zs = []) ∨
  ∃ x, a = some x ∧ len ≤ cap ∧ cap ≤ maxLen ∧ zs.length = cap ∧ (∀ i, i < zs.length → w.cell? (x.add i) = some (.int k (zs.getD i 0))) ∧ ∀ n ∈ zs, (Lit.int k n).wf = true
theorem wf_ends {k : IntKind} {n : Int} (h : (Lit.int k n).wf = true) : k.min ≤ n ∧ n ≤ k.max := by
  simpa only [Lit.wf, Bool.and_eq_true, decide_eq_true_eq] using h
theorem wf_u8' {n : Int} (h : (Lit.int .u8 n).wf = true) : 0 ≤ n ∧ n < 256 := by
  obtain ⟨h1, h2⟩ := wf_ends h
  have e1 : IntKind.min .u8 = 0 := by decide
  have e2 : IntKind.max .u8 = 255 := by decide
  omega
theorem wf_u32' {n : Int} (h : (Lit.int .u32 n).wf = true) : 0 ≤ n ∧ n < 4294967296 := by
  obtain ⟨h1, h2⟩ := wf_ends h
  have e1 : IntKind.min .u32 = 0 := by decide
  have e2 : IntKind.max .u32 = 4294967295 := by decide
  omega
theorem wf_i64' {n : Int} (h : (Lit.int .i64 n).wf = true) : -9223372036854775808 ≤ n ∧ n < 9223372036854775808 := by
  obtain ⟨h1, h2⟩ := wf_ends h
  have e1 : IntKind.min .i64 = -9223372036854775808 := by decide
  have e2 : IntKind.max .i64 = 9223372036854775807 := by decide
  omega
theorem isRow_bytes {w : World} {a : Option Addr} {len cap : Nat} {zs : List Int} (h : IsRow .u8 w a len cap zs) : ∃ l : List UInt8, den ⟨w, [], []⟩ (.d (.bytes l)) (.slice a len cap) := by
  rcases h with ⟨rfl, rfl, rfl, rfl⟩ | ⟨x, rfl, hl, hm, hz, hcell, hwz⟩
  · exact ⟨[], by unfold den; exact ⟨none, 0, rfl, Nat.le_refl _, by unfold maxLen; omega, fun h => absurd h (by simp)⟩⟩
  · by_cases h0 : len = 0
    · subst h0
      exact ⟨[], by unfold den; exact ⟨some x, cap, rfl, Nat.zero_le _, hm, fun h => absurd h (by simp)⟩⟩
    · obtain ⟨b, off, spot⟩ := x
      have hc := hcell 0 (by omega)
      have hspot : spot = none := by simpa [Addr.add] using World.cell?_spot hc
      subst hspot
      have hcell' : ∀ i, i < zs.length → w.cell? ⟨b, off + i, none⟩ = some (.int .u8 (zs.getD i 0)) := fun i hi => by
        have := hcell i hi
        rcases Nat.eq_zero_or_pos i with rfl | hp
        · simpa [Addr.add] using this
        · simpa [Addr.add, show i ≠ 0 by omega] using this
      refine ⟨(zs.take len).map fun z => UInt8.ofNat z.toNat, ?_⟩
      have hll : ((zs.take len).map fun z => UInt8.ofNat z.toNat).length = len := by rw [List.length_map, List.length_take]; omega
      unfold den
      refine ⟨some ⟨b, off, none⟩, cap, by rw [hll], by omega, hm, fun _ => ⟨b, off, rfl, ⟨cell?_lt (hcell' 0 (by omega)), by simp [occ, foot, bans]⟩, fun i hi => ?_⟩⟩
      rw [hll] at hi
      show w.cell? _ = _
      rw [hcell' i (by omega)]
      congr 2
      have hi2 : i < zs.length := by omega
      have e : (zs.getD i 0) = zs[i] := by simp [List.getD, hi2]
      have hw := hwz zs[i] (List.getElem_mem hi2)
      have hr : 0 ≤ zs[i] ∧ zs[i] < 256 := by
        exact wf_u8' hw
      rw [e]
      simp only [List.getD_eq_getElem?_getD, List.getElem?_map, List.getElem?_take]
      simp [hi, hi2]
      omega
theorem law_calls {Γ : FuncId → Option Spec} (hΓ : GammaOK P Γ) {ann : FuncId → Nat → List SV → List Ob → Option LoopAnn} {fuel n : Nat} {f : FuncId} {args : List SV} {w : World} {vs : List Value}
    (h : evFunc P Γ ann fuel n f args [] yesK) (hd : dens ⟨w, [], []⟩ args vs) : Calls P f ⟨vs⟩ w fun e w' => e = .returned (.bool true) ∧ Below w.heap.size w w' := by
  have hm0 : Mem ⟨w, [], []⟩ ⟨w, [], []⟩ := ⟨rfl, by simp, by simp, by simp [foot], Fr.refl _ _, by simp [bans]⟩
  refine (evFunc_sound hΓ ann fuel n f args [] yesK h ⟨w, [], []⟩ w [] vs hm0 hd).mono ?_
  rintro e w' ⟨v, r, hp', ρ', rfl, hk, hr, hm, _⟩
  have hf : Fr [] w w' := by simpa [foot] using hm.fr
  refine ⟨?_, hf.os, hf.tape, hf.output, hf.size, fun k hk => hf.block k hk (by simp)⟩
  unfold yesK at hk
  split at hk
  · rename_i b
    rw [BR_iff] at hk
    cases b with
    | true => unfold den at hr; rw [show v = .bool true from hr]
    | false => exact (hk.2 rfl).elim
  · exact hk.elim
end Go.Proofs.Ytmadffhjgbpojaa.Sx

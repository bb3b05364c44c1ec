/- Hit: boxes, triangles, balls, as the evaluator takes them. -/
import Derived.Test.YtcclekhekdibjaaHitFun
namespace Go.Proofs.Ytcclekhekdibjaa.Fix
open Go Go.Proofs.Ytcclekhekdibjaa.Sx
attribute [local irreducible] evFunc

theorem box_spec {f : FuncId} (H : ∀ a b c d e g l m n p q r, In64 a → In64 b → In64 c → In64 d → In64 e → In64 g → In64 l → In64 m → In64 n → In64 p → In64 q → In64 r → ∀ K, K (.val (.tuple [I64 (boxT (a, b, c) (d, e, g) (l, m, n) (p, q, r)), Bo (boxOk (a, b, c) (d, e, g) (l, m, n) (p, q, r))])) →
    EvH ΓV2 f [Ray a b c d e g, Ray l m n p q r] K) : SpecOK Try.prog f boxSpec ∧ SpecCalm boxSpec := by
  refine ⟨pureSpec_ok (nl := none) (evFunc_sound ΓV2_ok annH 10 5) fun xs K h => ?_, pureSpec_calm fun xs => ?_⟩
  · split at h
    · obtain ⟨h1, h2⟩ := req h
      obtain ⟨h2, h3⟩ := req h2
      obtain ⟨h3, h4⟩ := req h3
      obtain ⟨h4, h5⟩ := req h4
      obtain ⟨a1, a2, a3⟩ := of_inV h1
      obtain ⟨b1, b2, b3⟩ := of_inV h2
      obtain ⟨c1, c2, c3⟩ := of_inV h3
      obtain ⟨d1, d2, d3⟩ := of_inV h4
      exact H _ _ _ _ _ _ _ _ _ _ _ _ a1 a2 a3 b1 b2 b3 c1 c2 c3 d1 d2 d3 K (h5 _ rfl _ rfl)
    · exact h.elim
  · repeat' (first | exact kd_ret _ | exact kd_false | refine kd_br ?_ ?_ | refine kd_all (E := fun t K => ∀ ok : Bool, ok = _ → K (.val (.tuple [I64 t, Bo ok]))) ?_ | refine kd_all (E := fun ok K => K (.val (.tuple [I64 _, Bo ok]))) ?_ | split)
theorem tri_spec {f : FuncId} (H : ∀ a b c d e g l m n p q r x y z, In64 a → In64 b → In64 c → In64 d → In64 e → In64 g → In64 l → In64 m → In64 n → In64 p → In64 q → In64 r → In64 x → In64 y → In64 z → ∀ K : Out → Prop,
    (∀ ok : Bool, ok = triOk (a, b, c) (d, e, g) (l, m, n) (p, q, r) (x, y, z) → ∀ t : Int, t = ifOk ok (triT (a, b, c) (d, e, g) (l, m, n) (p, q, r) (x, y, z)) → ∀ u : Int, u = ifOk ok (triU (a, b, c) (d, e, g) (l, m, n) (p, q, r) (x, y, z)) → ∀ v : Int, v = ifOk ok (triV (a, b, c) (d, e, g) (l, m, n) (p, q, r) (x, y, z)) →
        K (.val (.tuple [.agg [I64 t, I64 0, I64 u, I64 v], Bo ok]))) →
    EvH ΓV2 f [Ray a b c d e g, V3 l m n, V3 p q r, V3 x y z] K) : SpecOK Try.prog f triSpec ∧ SpecCalm triSpec := by
  refine ⟨pureSpec_ok (nl := none) (evFunc_sound ΓV2_ok annH 10 5) fun xs K h => ?_, pureSpec_calm fun xs => ?_⟩
  · split at h
    · obtain ⟨h1, h2⟩ := req h
      obtain ⟨h2, h3⟩ := req h2
      obtain ⟨h3, h4⟩ := req h3
      obtain ⟨h4, h5⟩ := req h4
      obtain ⟨h5, h6⟩ := req h5
      obtain ⟨a1, a2, a3⟩ := of_inV h1
      obtain ⟨b1, b2, b3⟩ := of_inV h2
      obtain ⟨c1, c2, c3⟩ := of_inV h3
      obtain ⟨d1, d2, d3⟩ := of_inV h4
      obtain ⟨e1, e2, e3⟩ := of_inV h5
      exact H _ _ _ _ _ _ _ _ _ _ _ _ _ _ _ a1 a2 a3 b1 b2 b3 c1 c2 c3 d1 d2 d3 e1 e2 e3 K h6
    · exact h.elim
  · repeat' (first | exact kd_ret _ | exact kd_false | refine kd_br ?_ ?_ | refine kd_all (E := fun ok K => ∀ t : Int, t = ifOk ok _ → ∀ u : Int, u = ifOk ok _ → ∀ v : Int, v = ifOk ok _ → K (.val (.tuple [.agg [I64 t, I64 0, I64 u, I64 v], Bo ok]))) ?_ | refine kd_all (E := fun t K => ∀ u : Int, u = _ → ∀ v : Int, v = _ → K (.val (.tuple [.agg [I64 t, I64 0, I64 u, I64 v], Bo _]))) ?_ | refine kd_all (E := fun u K => ∀ v : Int, v = _ → K (.val (.tuple [.agg [I64 _, I64 0, I64 u, I64 v], Bo _]))) ?_ | refine kd_all (E := fun v K => K (.val (.tuple [.agg [I64 _, I64 0, I64 _, I64 v], Bo _]))) ?_ | split)
theorem ball_spec {f : FuncId} (H : ∀ a b c d e g l m n r, In64 a → In64 b → In64 c → In64 d → In64 e → In64 g → In64 l → In64 m → In64 n → In64 r → ∀ K : Out → Prop,
    (∀ ok : Bool, ok = ballOk (a, b, c) (d, e, g) (l, m, n) r → ∀ x : Int, x = ifOk ok (ballX (a, b, c) (d, e, g) (l, m, n) r) → ∀ y : Int, y = ifOk ok (ballY (a, b, c) (d, e, g) (l, m, n) r) → K (.val (.tuple [I64 x, I64 y, Bo ok]))) →
    EvH ΓV2 f [Ray a b c d e g, .agg [I64 l, I64 m, I64 n, I64 r]] K) : SpecOK Try.prog f ballSpec ∧ SpecCalm ballSpec := by
  refine ⟨pureSpec_ok (nl := none) (evFunc_sound ΓV2_ok annH 10 5) fun xs K h => ?_, pureSpec_calm fun xs => ?_⟩
  · split at h
    · obtain ⟨h1, h2⟩ := req h
      obtain ⟨h2, h3⟩ := req h2
      obtain ⟨h3, h4⟩ := req h3
      obtain ⟨h4, h5⟩ := req h4
      obtain ⟨a1, a2, a3⟩ := of_inV h1
      obtain ⟨b1, b2, b3⟩ := of_inV h2
      obtain ⟨c1, c2, c3⟩ := of_inV h3
      exact H _ _ _ _ _ _ _ _ _ _ a1 a2 a3 b1 b2 b3 c1 c2 c3 (of_inI64 h4) K h5
    · exact h.elim
  · repeat' (first | exact kd_ret _ | exact kd_false | refine kd_br ?_ ?_ | refine kd_all (E := fun ok K => ∀ x : Int, x = ifOk ok _ → ∀ y : Int, y = ifOk ok _ → K (.val (.tuple [I64 x, I64 y, Bo ok]))) ?_ | refine kd_all (E := fun x K => ∀ y : Int, y = _ → K (.val (.tuple [I64 x, I64 y, Bo _]))) ?_ | refine kd_all (E := fun y K => K (.val (.tuple [I64 _, I64 y, Bo _]))) ?_ | split)
theorem ΓH1_ok : GammaOK Try.prog ΓH1 := by
  intro f s h
  unfold ΓH1 at h
  split at h
  · cases h
  · cases h; exact box_spec fun _ _ _ _ _ _ _ _ _ _ _ _ h1 h2 h3 h4 h5 h6 h7 h8 h9 h10 h11 h12 K h => hbox_ok h1 h2 h3 h4 h5 h6 h7 h8 h9 h10 h11 h12 h -- hit.Box
  · cases h; exact box_spec fun _ _ _ _ _ _ _ _ _ _ _ _ h1 h2 h3 h4 h5 h6 h7 h8 h9 h10 h11 h12 K h => hrbox_ok h1 h2 h3 h4 h5 h6 h7 h8 h9 h10 h11 h12 h -- lightwellref13.Box
  · cases h; exact tri_spec fun _ _ _ _ _ _ _ _ _ _ _ _ _ _ _ h1 h2 h3 h4 h5 h6 h7 h8 h9 h10 h11 h12 h13 h14 h15 K h => htri_ok h1 h2 h3 h4 h5 h6 h7 h8 h9 h10 h11 h12 h13 h14 h15 h -- hit.Tri
  · cases h; exact tri_spec fun _ _ _ _ _ _ _ _ _ _ _ _ _ _ _ h1 h2 h3 h4 h5 h6 h7 h8 h9 h10 h11 h12 h13 h14 h15 K h => hrtri_ok h1 h2 h3 h4 h5 h6 h7 h8 h9 h10 h11 h12 h13 h14 h15 h -- lightwellref13.Tri
  · cases h; exact ball_spec fun _ _ _ _ _ _ _ _ _ _ h1 h2 h3 h4 h5 h6 h7 h8 h9 h10 K h => hball_ok h1 h2 h3 h4 h5 h6 h7 h8 h9 h10 h -- hit.Ball
  · cases h; exact ball_spec fun _ _ _ _ _ _ _ _ _ _ h1 h2 h3 h4 h5 h6 h7 h8 h9 h10 K h => hrball_ok h1 h2 h3 h4 h5 h6 h7 h8 h9 h10 h -- lightwellref13.Ball
  · exact ΓV2_ok _ _ h
end Go.Proofs.Ytcclekhekdibjaa.Fix

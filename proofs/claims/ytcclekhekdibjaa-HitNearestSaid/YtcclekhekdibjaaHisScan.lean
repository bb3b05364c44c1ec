/- Hit: the nearest one of all. -/
import Derived.Test.YtcclekhekdibjaaHisFun
import Derived.Test.YtcclekhekdibjaaHis1Vc
namespace Go.Proofs.Ytcclekhekdibjaa.Fix
open Go Go.Proofs.Ytcclekhekdibjaa.Sx
attribute [local irreducible] evFunc

theorem kd_mb (A B : P3) : KD (fun K : Out → Prop => ∀ l : P3, l = A → ∀ h : P3, h = B → K (.val (.agg [I64 l.1, I64 l.2.1, I64 l.2.2, I64 h.1, I64 h.2.1, I64 h.2.2]))) := by
  refine kd_all (E := fun (l : P3) K => ∀ h : P3, h = B → K (.val (.agg [I64 l.1, I64 l.2.1, I64 l.2.2, I64 h.1, I64 h.2.1, I64 h.2.2]))) ?_
  exact kd_all (E := fun (h : P3) K => K (.val (.agg [I64 A.1, I64 A.2.1, I64 A.2.2, I64 h.1, I64 h.2.1, I64 h.2.2]))) (kd_ret _)
theorem ΓS0_ok : GammaOK Try.prog ΓS0 := by
  intro f s h
  unfold ΓS0 at h
  split at h
  · cases h
  · cases h; exact ΓM0_ok _ _ (rfl : ΓM0 24 = some mcountSpec) -- mesh.Count
  · cases h; exact ΓM0_ok _ _ (rfl : ΓM0 53 = some thereSpec) -- mesh.there
  · cases h -- mesh.Box
    refine ⟨pure_mono (ΓM1_ok _ _ (rfl : ΓM1 25 = some mboxSpec)).1 fun xs K hb => ?_, pureSpec_calm fun xs => ?_⟩
    · split at hb
      · exact ⟨hb.1, hb.2 _ rfl _ rfl⟩
      · exact hb.elim
    · repeat' (first | exact kd_ret _ | exact kd_false | refine kd_and ?_ | exact kd_mb _ _ | split)
  · exact ΓH1_ok _ _ h
theorem ΓS1_ok : GammaOK Try.prog ΓS1 := by
  intro f s h
  unfold ΓS1 at h
  split at h
  · cases h
  · cases h -- hit.Shape
    refine ⟨pureSpec_ok (nl := none) (evN_sound (evFunc_sound ΓS0_ok noAnn 10 9)) fun xs K h => ?_, pureSpec_calm fun xs => ?_⟩
    · split at h
      · rename_i np gp nt gt nb gb i a b c d e g l
        obtain ⟨hm, h⟩ := h
        obtain ⟨q1, h⟩ := req h
        obtain ⟨q2, h⟩ := req h
        obtain ⟨a1, a2, a3⟩ := of_inV q1
        obtain ⟨b1, b2, b3⟩ := of_inV q2
        refine ⟨[.agg [NL 3 np fun i j => dI (gp i j), NL 3 nt fun i j => dI (gt i j), NL 4 nb fun i j => dI (gb i j)], I64 i, Ray a b c d e g, I64 l], fun c vs hd => dens_head (fun v => dens_mesh hm) (fun vs h => h) hd, ?_⟩
        exact shape_ok hm.2.2.2.1 hm.2.2.2.2 (fun i hi j hj => (hm.1 i hi j hj).2) (fun i hi j hj => (hm.2.1 i hi j hj).2) (fun i hi j hj => (hm.2.2.1 i hi j hj).2) a1 a2 a3 b1 b2 b3 h
      · exact h.elim
    · repeat' (first | exact kd_ret _ | exact kd_false | refine kd_and ?_ | refine kd_br ?_ ?_ | refine kd_all (E := fun (s : Sh4) K => K (.val (.tuple [.agg [I64 s.2.1, I64 (idx s _), I64 s.2.2.1, I64 s.2.2.2], Bo s.1]))) ?_ | split)
  · exact ΓS0_ok _ _ h
theorem scan_ok {np nt nb : Nat} {p t b : Nat → Nat → Int} {x1 x2 x3 x4 x5 x6 l : Int} (hnt : nt ≤ 4294967296) (hnb : nb ≤ 4294967296) (hp : ∀ i, i < np → ∀ j, j < 3 → In64 (p i j)) (ht : ∀ i, i < nt → ∀ j, j < 3 → In64 (t i j)) (hb : ∀ i, i < nb → ∀ j, j < 4 → In64 (b i j))
    (h1 : In64 x1) (h2 : In64 x2) (h3 : In64 x3) (h4 : In64 x4) (h5 : In64 x5) (h6 : In64 x6) {K : Out → Prop}
    (h : ∀ r : B4, r = scanK (fun i => shapeR np nt nb (fun i j => .int .i64 (p i j)) (fun i j => .int .i64 (t i j)) (fun i j => .int .i64 (b i j)) (x1, x2, x3) (x4, x5, x6) l i) (nt + nb) → K (.val (.agg [I64 r.1, I64 r.2.1, I64 r.2.2.1, I64 r.2.2.2]))) :
    evFunc Try.prog ΓS1 annS 10 9 15 [.agg [NL 3 np p, NL 3 nt t, NL 4 nb b], Ray x1 x2 x3 x4 x5 x6, I64 l] [] (inK none K) := by
  rw [vcHScan]
  rw [w64 (n := (nt : Int) + (nb : Int)) (by unfold In64; omega)]
  have hM : okM np nt nb (fun i j => .int .i64 (p i j)) (fun i j => .int .i64 (t i j)) (fun i j => .int .i64 (b i j)) := ⟨fun i hi j hj => ⟨rfl, hp i hi j hj⟩, fun i hi j hj => ⟨rfl, ht i hi j hj⟩, fun i hi j hj => ⟨rfl, hb i hi j hj⟩, hnt, hnb⟩
  obtain ⟨f, hf⟩ : ∃ f : Int → Sh4, f = fun i => shapeR np nt nb (fun i j => .int .i64 (p i j)) (fun i j => .int .i64 (t i j)) (fun i j => .int .i64 (b i j)) (x1, x2, x3) (x4, x5, x6) l i := ⟨_, rfl⟩
  have hfk : ∀ k : Int, shapeR np nt nb (fun i j => .int .i64 (p i j)) (fun i j => .int .i64 (t i j)) (fun i j => .int .i64 (b i j)) (x1, x2, x3) (x4, x5, x6) l k = f k := fun k => by rw [hf]
  rw [← hf] at h
  simp only [← hf, hfk]
  have hend := h _ rfl
  clear h hfk hf
  have step1 : ∀ k : Nat, (f k).1 = true ∧ ((scanK f k).2.1 < 0 ∨ (f k).2.1 < (scanK f k).1) → scanK f (k + 1) = hitOf (f k) k := fun k hk => if_pos hk
  have step0 : ∀ k : Nat, ¬ ((f k).1 = true ∧ ((scanK f k).2.1 < 0 ∨ (f k).2.1 < (scanK f k).1)) → scanK f (k + 1) = scanK f k := fun k hk => if_neg hk
  refine ⟨⟨⟨0, by omega⟩, ?_⟩, fun ⟨k, hk⟩ => BR_d (fun hlt => ⟨hM, ?_⟩) fun hge => ?_⟩
  · simp only [true_and, and_true, implies_true, and_self]
    exact ⟨rfl, rfl, rfl, rfl, rfl⟩
  · have hk1 : k + 1 ≤ nt + nb := by simp only at hlt; omega
    have hw : IntKind.i64.wrap ((k : Int) + 1) = ((k + 1 : Nat) : Int) := by rw [w64 (by unfold In64; omega)]; omega
    simp only [forall_eq, inV_of h1 h2 h3, inV_of h4 h5 h6, BR_true, true_and, and_true, implies_true, and_self, Subtype.exists, exists_prop, hw]
    refine BR_b (fun s1 => BR_d (fun c1 => ?_) fun c1 => BR_d (fun c2 => ?_) fun c2 => ?_) fun s1 => ?_
    · refine ⟨k + 1, by omega, by omega, rfl, ?_⟩
      rw [step1 k ⟨s1, Or.inl c1⟩]
      exact ⟨rfl, rfl, rfl, rfl⟩
    · refine ⟨k + 1, by omega, by omega, rfl, ?_⟩
      rw [step1 k ⟨s1, Or.inr c2⟩]
      exact ⟨rfl, rfl, rfl, rfl⟩
    · refine ⟨k + 1, by omega, by omega, rfl, ?_⟩
      rw [step0 k (fun hh => hh.2.elim c1 c2)]
      exact ⟨rfl, rfl, rfl, rfl⟩
    · refine ⟨k + 1, by omega, by omega, rfl, ?_⟩
      rw [step0 k (fun hh => by rw [hh.1] at s1; cases s1)]
      exact ⟨rfl, rfl, rfl, rfl⟩
  · have hkn : k = nt + nb := by simp only at hge; omega
    subst hkn
    exact ⟨⟨trivial, trivial, trivial, trivial, trivial⟩, hend⟩
theorem ΓS2_ok : GammaOK Try.prog ΓS2 := by
  intro f s h
  unfold ΓS2 at h
  split at h
  · cases h
  · cases h -- hit.Scan
    refine ⟨pureSpec_ok (nl := none) (evN_sound (evFunc_sound ΓS1_ok annS 10 9)) fun xs K h => ?_, pureSpec_calm fun xs => ?_⟩
    · split at h
      · rename_i np gp nt gt nb gb a b c d e g l
        obtain ⟨hm, h⟩ := h
        obtain ⟨q1, h⟩ := req h
        obtain ⟨q2, h⟩ := req h
        obtain ⟨a1, a2, a3⟩ := of_inV q1
        obtain ⟨b1, b2, b3⟩ := of_inV q2
        refine ⟨[.agg [NL 3 np fun i j => dI (gp i j), NL 3 nt fun i j => dI (gt i j), NL 4 nb fun i j => dI (gb i j)], Ray a b c d e g, I64 l], fun c vs hd => dens_head (fun v => dens_mesh hm) (fun vs h => h) hd, ?_⟩
        exact scan_ok hm.2.2.2.1 hm.2.2.2.2 (fun i hi j hj => (hm.1 i hi j hj).2) (fun i hi j hj => (hm.2.1 i hi j hj).2) (fun i hi j hj => (hm.2.2.1 i hi j hj).2) a1 a2 a3 b1 b2 b3 h
      · exact h.elim
    · repeat' (first | exact kd_ret _ | exact kd_false | refine kd_and ?_ | refine kd_br ?_ ?_ | refine kd_all (E := fun (r : B4) K => K (.val (.agg [I64 r.1, I64 r.2.1, I64 r.2.2.1, I64 r.2.2.2]))) ?_ | split)
  · exact ΓS1_ok _ _ h
end Go.Proofs.Ytcclekhekdibjaa.Fix

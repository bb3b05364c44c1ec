/- Mesh: the law of bytes apart returns true. -/
import Derived.Test.YtmadffhjgbpojaaMlFun
namespace Go.Proofs.Ytmadffhjgbpojaa.Fix
open Go Go.Proofs.Ytmadffhjgbpojaa.Sx Go.RowKit
theorem vcMeshApart (np nt nb np' nt' nb' : Nat) (p t b p' t' b' : Nat → Nat → Int) (cut more : Int) : (evFunc Try.prog ΓL1 annMl 10 9 7 [.agg [NL 3 np p, NL 3 nt t, NL 4 nb b], .agg [NL 3 np' p', NL 3 nt' t', NL 4 nb' b'], .d (.int .u16 cut), .d (.int .u8 more)] [] yesK) = (np ≤ (9223372036854775807 : Nat) → BR (decide ((↑np : Int) ≤ (100 : Int))) (nt ≤ (9223372036854775807 : Nat) → BR (decide ((↑nt : Int) ≤ (100 : Int))) (nb ≤ (9223372036854775807 : Nat) → BR (decide ((↑nb : Int) ≤ (100 : Int))) (np' ≤ (9223372036854775807 : Nat) → BR (decide ((↑np' : Int) ≤ (100 : Int))) (nt' ≤ (9223372036854775807 : Nat) → BR (decide ((↑nt' : Int) ≤ (100 : Int))) (nb' ≤ (9223372036854775807 : Nat) → BR (decide ((↑nb' : Int) ≤ (100 : Int))) ((okM np nt nb (fun (i j : Nat) => D.int IntKind.i64 (p i j)) (fun (i j : Nat) => D.int IntKind.i64 (t i j)) fun (i j : Nat) => D.int IntKind.i64 (b i j)) ∧ BR (okB np nt nb (fun (i j : Nat) => D.int IntKind.i64 (p i j)) (fun (i j : Nat) => D.int IntKind.i64 (t i j)) fun (i j : Nat) => D.int IntKind.i64 (b i j)) ((okM np' nt' nb' (fun (i j : Nat) => D.int IntKind.i64 (p' i j)) (fun (i j : Nat) => D.int IntKind.i64 (t' i j)) fun (i j : Nat) => D.int IntKind.i64 (b' i j)) ∧ BR (okB np' nt' nb' (fun (i j : Nat) => D.int IntKind.i64 (p' i j)) (fun (i j : Nat) => D.int IntKind.i64 (t' i j)) fun (i j : Nat) => D.int IntKind.i64 (b' i j)) ((okM np nt nb (fun (i j : Nat) => D.int IntKind.i64 (p i j)) (fun (i j : Nat) => D.int IntKind.i64 (t i j)) fun (i j : Nat) => D.int IntKind.i64 (b i j)) ∧ BR (okB np nt nb (fun (i j : Nat) => D.int IntKind.i64 (p i j)) (fun (i j : Nat) => D.int IntKind.i64 (t i j)) fun (i j : Nat) => D.int IntKind.i64 (b i j)) (∀ (l : List UInt8), (l = meshB np nt nb (fun (i j : Nat) => D.int IntKind.i64 (p i j)) (fun (i j : Nat) => D.int IntKind.i64 (t i j)) fun (i j : Nat) => D.int IntKind.i64 (b i j)) → (okM np' nt' nb' (fun (i j : Nat) => D.int IntKind.i64 (p' i j)) (fun (i j : Nat) => D.int IntKind.i64 (t' i j)) fun (i j : Nat) => D.int IntKind.i64 (b' i j)) ∧ BR (okB np' nt' nb' (fun (i j : Nat) => D.int IntKind.i64 (p' i j)) (fun (i j : Nat) => D.int IntKind.i64 (t' i j)) fun (i j : Nat) => D.int IntKind.i64 (b' i j)) (∀ (l_1 : List UInt8), (l_1 = meshB np' nt' nb' (fun (i j : Nat) => D.int IntKind.i64 (p' i j)) (fun (i j : Nat) => D.int IntKind.i64 (t' i j)) fun (i j : Nat) => D.int IntKind.i64 (b' i j)) → l.length ≤ (9223372036854775807 : Nat) → np ≤ (9223372036854775807 : Nat) → nt ≤ (9223372036854775807 : Nat) → nb ≤ (9223372036854775807 : Nat) → BR (!decide ((↑l.length : Int) = IntKind.i64.wrap (IntKind.i64.wrap (IntKind.i64.wrap ((12 : Int) + IntKind.i64.wrap ((24 : Int) * (↑np : Int))) + IntKind.i64.wrap ((12 : Int) * (↑nt : Int))) + IntKind.i64.wrap ((32 : Int) * (↑nb : Int))))) False (BR (l == l_1) ((okM np nt nb (fun (i j : Nat) => D.int IntKind.i64 (p i j)) (fun (i j : Nat) => D.int IntKind.i64 (t i j)) fun (i j : Nat) => D.int IntKind.i64 (b i j)) ∧ (okM np' nt' nb' (fun (i j : Nat) => D.int IntKind.i64 (p' i j)) (fun (i j : Nat) => D.int IntKind.i64 (t' i j)) fun (i j : Nat) => D.int IntKind.i64 (b' i j)) ∧ BR (sameB np nt nb (fun (i j : Nat) => D.int IntKind.i64 (p i j)) (fun (i j : Nat) => D.int IntKind.i64 (t i j)) (fun (i j : Nat) => D.int IntKind.i64 (b i j)) np' nt' nb' (fun (i j : Nat) => D.int IntKind.i64 (p' i j)) (fun (i j : Nat) => D.int IntKind.i64 (t' i j)) fun (i j : Nat) => D.int IntKind.i64 (b' i j)) (l.length ≤ (9223372036854775807 : Nat) → BR (decide ((↑l.length : Int) = (0 : Int))) False (BR (decide ((0 : Int) ≤ (IntKind.i64.wrap cut).tmod (↑l.length : Int) ∧ (IntKind.i64.wrap cut).tmod (↑l.length : Int) ≤ (↑l.length : Int))) (BR (decide (readE (List.drop (0 : Nat) (List.take ((IntKind.i64.wrap cut).tmod (↑l.length : Int)).toNat l)) = (0 : Int))) (BR (decide (l.length ≤ (140737488355328 : Nat))) (BR (decide ((0 : Int) ≤ more ∧ more < (256 : Int))) True False ∧ ∀ (l' : List UInt8), l' = List.drop (0 : Nat) (List.take l.length l) ++ List.drop (0 : Nat) (List.take (1 : Nat) [UInt8.ofNat more.toNat]) → BR (decide (l'.length * (1 : Nat) ≤ (140737488355328 : Nat))) (BR (decide (l.length = l.length)) (BR (decide (readE (List.drop (0 : Nat) (List.take l'.length l')) = (0 : Int))) False (∀ (e : Int), e = readE (List.drop (0 : Nat) (List.take l'.length l')) → False)) False) False) False) (∀ (e : Int), e = readE (List.drop (0 : Nat) (List.take ((IntKind.i64.wrap cut).tmod (↑l.length : Int)).toNat l)) → BR (decide (l.length ≤ (140737488355328 : Nat))) (BR (decide ((0 : Int) ≤ more ∧ more < (256 : Int))) True False ∧ ∀ (l' : List UInt8), l' = List.drop (0 : Nat) (List.take l.length l) ++ List.drop (0 : Nat) (List.take (1 : Nat) [UInt8.ofNat more.toNat]) → BR (decide (l'.length * (1 : Nat) ≤ (140737488355328 : Nat))) (BR (decide (l.length = l.length)) (BR (decide (readE (List.drop (0 : Nat) (List.take l'.length l')) = (0 : Int))) (BR (decide (e = (12 : Int))) False False) (∀ (e_1 : Int), e_1 = readE (List.drop (0 : Nat) (List.take l'.length l')) → BR (decide (e = (12 : Int))) (BR (decide (e_1 = (10 : Int))) True False) False)) False) False) False)) False)) False) ((okM np nt nb (fun (i j : Nat) => D.int IntKind.i64 (p i j)) (fun (i j : Nat) => D.int IntKind.i64 (t i j)) fun (i j : Nat) => D.int IntKind.i64 (b i j)) ∧ (okM np' nt' nb' (fun (i j : Nat) => D.int IntKind.i64 (p' i j)) (fun (i j : Nat) => D.int IntKind.i64 (t' i j)) fun (i j : Nat) => D.int IntKind.i64 (b' i j)) ∧ BR (sameB np nt nb (fun (i j : Nat) => D.int IntKind.i64 (p i j)) (fun (i j : Nat) => D.int IntKind.i64 (t i j)) (fun (i j : Nat) => D.int IntKind.i64 (b i j)) np' nt' nb' (fun (i j : Nat) => D.int IntKind.i64 (p' i j)) (fun (i j : Nat) => D.int IntKind.i64 (t' i j)) fun (i j : Nat) => D.int IntKind.i64 (b' i j)) False (l.length ≤ (9223372036854775807 : Nat) → BR (decide ((↑l.length : Int) = (0 : Int))) False (BR (decide ((0 : Int) ≤ (IntKind.i64.wrap cut).tmod (↑l.length : Int) ∧ (IntKind.i64.wrap cut).tmod (↑l.length : Int) ≤ (↑l.length : Int))) (BR (decide (readE (List.drop (0 : Nat) (List.take ((IntKind.i64.wrap cut).tmod (↑l.length : Int)).toNat l)) = (0 : Int))) (BR (decide (l.length ≤ (140737488355328 : Nat))) (BR (decide ((0 : Int) ≤ more ∧ more < (256 : Int))) True False ∧ ∀ (l' : List UInt8), l' = List.drop (0 : Nat) (List.take l.length l) ++ List.drop (0 : Nat) (List.take (1 : Nat) [UInt8.ofNat more.toNat]) → BR (decide (l'.length * (1 : Nat) ≤ (140737488355328 : Nat))) (BR (decide (l.length = l.length)) (BR (decide (readE (List.drop (0 : Nat) (List.take l'.length l')) = (0 : Int))) False (∀ (e : Int), e = readE (List.drop (0 : Nat) (List.take l'.length l')) → False)) False) False) False) (∀ (e : Int), e = readE (List.drop (0 : Nat) (List.take ((IntKind.i64.wrap cut).tmod (↑l.length : Int)).toNat l)) → BR (decide (l.length ≤ (140737488355328 : Nat))) (BR (decide ((0 : Int) ≤ more ∧ more < (256 : Int))) True False ∧ ∀ (l' : List UInt8), l' = List.drop (0 : Nat) (List.take l.length l) ++ List.drop (0 : Nat) (List.take (1 : Nat) [UInt8.ofNat more.toNat]) → BR (decide (l'.length * (1 : Nat) ≤ (140737488355328 : Nat))) (BR (decide (l.length = l.length)) (BR (decide (readE (List.drop (0 : Nat) (List.take l'.length l')) = (0 : Int))) (BR (decide (e = (12 : Int))) False False) (∀ (e_1 : Int), e_1 = readE (List.drop (0 : Nat) (List.take l'.length l')) → BR (decide (e = (12 : Int))) (BR (decide (e_1 = (10 : Int))) True False) False)) False) False) False)) False))))) False) ((okM np' nt' nb' (fun (i j : Nat) => D.int IntKind.i64 (p' i j)) (fun (i j : Nat) => D.int IntKind.i64 (t' i j)) fun (i j : Nat) => D.int IntKind.i64 (b' i j)) ∧ BR (okB np' nt' nb' (fun (i j : Nat) => D.int IntKind.i64 (p' i j)) (fun (i j : Nat) => D.int IntKind.i64 (t' i j)) fun (i j : Nat) => D.int IntKind.i64 (b' i j)) (∀ (l : List UInt8), (l = meshB np' nt' nb' (fun (i j : Nat) => D.int IntKind.i64 (p' i j)) (fun (i j : Nat) => D.int IntKind.i64 (t' i j)) fun (i j : Nat) => D.int IntKind.i64 (b' i j)) → False) False)) True) True) True) True) True) True) True) True) := by
  kernel_rfl
attribute [local irreducible] evFunc
theorem apart_ok {np nt nb np' nt' nb' : Nat} {p t b p' t' b' : Nat → Nat → Int} {cut more : Int}
    (hp : ∀ i, i < np → ∀ j, j < 3 → In64 (p i j)) (ht : ∀ i, i < nt → ∀ j, j < 3 → In64 (t i j)) (hb : ∀ i, i < nb → ∀ j, j < 4 → In64 (b i j))
    (hp' : ∀ i, i < np' → ∀ j, j < 3 → In64 (p' i j)) (ht' : ∀ i, i < nt' → ∀ j, j < 3 → In64 (t' i j)) (hb' : ∀ i, i < nb' → ∀ j, j < 4 → In64 (b' i j))
    (hc : 0 ≤ cut ∧ cut < 65536) (hm : 0 ≤ more ∧ more < 256) :
    evFunc Try.prog ΓL1 annMl 10 9 7 [.agg [NL 3 np p, NL 3 nt t, NL 4 nb b], .agg [NL 3 np' p', NL 3 nt' t', NL 4 nb' b'], .d (.int .u16 cut), .d (.int .u8 more)] [] yesK := by
  rw [vcMeshApart]
  refine fun _ => BR_d (fun c1 => fun _ => BR_d (fun c2 => fun _ => BR_d (fun c3 => fun _ => BR_d (fun c4 => fun _ => BR_d (fun c5 => fun _ => BR_d (fun c6 => ?_) fun _ => trivial) fun _ => trivial) fun _ => trivial) fun _ => trivial) fun _ => trivial) fun _ => trivial
  have hM : okM np nt nb (fun i j => .int .i64 (p i j)) (fun i j => .int .i64 (t i j)) (fun i j => .int .i64 (b i j)) := ⟨fun i hi j hj => ⟨rfl, hp i hi j hj⟩, fun i hi j hj => ⟨rfl, ht i hi j hj⟩, fun i hi j hj => ⟨rfl, hb i hi j hj⟩, by omega, by omega⟩
  have hM' : okM np' nt' nb' (fun i j => .int .i64 (p' i j)) (fun i j => .int .i64 (t' i j)) (fun i j => .int .i64 (b' i j)) := ⟨fun i hi j hj => ⟨rfl, hp' i hi j hj⟩, fun i hi j hj => ⟨rfl, ht' i hi j hj⟩, fun i hi j hj => ⟨rfl, hb' i hi j hj⟩, by omega, by omega⟩
  generalize (fun i j => D.int IntKind.i64 (p i j)) = gp at *
  generalize (fun i j => D.int IntKind.i64 (t i j)) = gt at *
  generalize (fun i j => D.int IntKind.i64 (b i j)) = gb at *
  generalize (fun i j => D.int IntKind.i64 (p' i j)) = gp' at *
  generalize (fun i j => D.int IntKind.i64 (t' i j)) = gt' at *
  generalize (fun i j => D.int IntKind.i64 (b' i j)) = gb' at *
  refine ⟨hM, BR_b (fun o1 => ⟨hM', BR_b (fun o2 => ⟨hM, ?_⟩) fun _ => trivial⟩) fun _ => trivial⟩
  rw [o1, BR_true]
  intro l hl
  refine ⟨hM', ?_⟩
  rw [o2, BR_true]
  intro l2 hl2 _ _ _ _
  have q1 := okB_iff.1 o1
  have q2 := okB_iff.1 o2
  have hlen : l.length = 12 + 24 * np + 12 * nt + 32 * nb := by rw [hl]; exact meshB_len ..
  rw [BR_nbM]
  refine BR_y ?_ ?_
  · rw [w64 (n := 24 * (np : Int)) (by unfold In64; omega), w64 (n := 12 * (nt : Int)) (by unfold In64; omega), w64 (n := 32 * (nb : Int)) (by unfold In64; omega), w64 (n := 12 + 24 * (np : Int)) (by unfold In64; omega), w64 (n := 12 + 24 * (np : Int) + 12 * (nt : Int)) (by unfold In64; omega), w64 (by unfold In64; omega)]
    omega
  have same := bytes_same q1 q2
  rw [← hl, ← hl2] at same
  have hwc : IntKind.i64.wrap cut = cut := w64 (by unfold In64; omega)
  have n0 : ¬ (l.length : Int) = 0 := by omega
  have b1 := Int.tmod_lt_of_pos cut (show 0 < (l.length : Int) by omega)
  have b2 := Int.tmod_nonneg (l.length : Int) hc.1
  have hcut := readE_cut q1 (k := (cut.tmod (l.length : Int)).toNat) (by rw [← hl]; omega)
  have hmore := readE_more q1 (UInt8.ofNat more.toNat)
  rw [← hl] at hcut hmore
  rw [hwc]
  simp only [List.drop_zero, List.take_length, hcut]
  have small : l.length ≤ 140737488355328 := by omega
  have tail : ∀ l' : List UInt8, l' = l ++ List.take 1 [UInt8.ofNat more.toNat] → l'.length * 1 ≤ 140737488355328 ∧ readE l' = 10 := fun l' hl' => by
    rw [hl', show List.take 1 [UInt8.ofNat more.toNat] = [UInt8.ofNat more.toNat] from rfl]
    exact ⟨by rw [List.length_append, List.length_singleton]; omega, hmore⟩
  refine BR_b (fun e1 => ⟨hM, hM', ?_⟩) fun e1 => ⟨hM, hM', ?_⟩
  · rw [same.1 (eq_of_beq e1), BR_true]
    refine fun _ => BR_n n0 (BR_y ⟨b2, by omega⟩ (BR_n (by decide) fun e he => BR_y small ⟨BR_y hm trivial, fun l' hl' => ?_⟩))
    obtain ⟨t1, t2⟩ := tail l' hl'
    refine BR_y t1 (BR_y trivial (BR_n (by rw [t2]; decide) fun e2 he2 => BR_y he (BR_y (he2.trans t2) trivial)))
  · rw [show sameB np nt nb gp gt gb np' nt' nb' gp' gt' gb' = false from Bool.eq_false_iff.2 fun e => (by rw [same.2 e, beq_self_eq_true] at e1; cases e1), BR_false]
    refine fun _ => BR_n n0 (BR_y ⟨b2, by omega⟩ (BR_n (by decide) fun e he => BR_y small ⟨BR_y hm trivial, fun l' hl' => ?_⟩))
    obtain ⟨t1, t2⟩ := tail l' hl'
    refine BR_y t1 (BR_y trivial (BR_n (by rw [t2]; decide) fun e2 he2 => BR_y he (BR_y (he2.trans t2) trivial)))
theorem wf_u16 {n : Int} (h : (Lit.int .u16 n).wf = true) : 0 ≤ n ∧ n < 65536 := by
  obtain ⟨h1, h2⟩ := wf_ends h
  have e1 : IntKind.u16.min = 0 := by decide
  have e2 : IntKind.u16.max = 65535 := by decide
  omega
theorem walk_apart (v0 v1 v2 v3 : Value) (w : World) (h0 : InArg Try.prog w 26 v0) (h1 : InArg Try.prog w 26 v1) (h2 : InArg Try.prog w 57 v2) (h3 : InArg Try.prog w 5 v3) :
    Calls Try.prog 7 #[v0, v1, v2, v3] w fun e w' => e = .returned (.bool true) ∧ Below w.heap.size w w' := by
  obtain ⟨np, nt, nb, p, t, b, ⟨k0, k1, k2⟩, d0⟩ := in_mesh h0
  obtain ⟨np', nt', nb', p', t', b', ⟨m0, m1, m2⟩, d1⟩ := in_mesh h1
  obtain ⟨c, wc, d2⟩ := in_int (k := .u16) (by kernel_rfl) (by kernel_rfl) h2
  obtain ⟨m, wm, d3⟩ := in_int (k := .u8) (by kernel_rfl) (by kernel_rfl) h3
  exact law_calls ΓL1_ok (apart_ok k0 k1 k2 m0 m1 m2 (wf_u16 wc) (wf_u8' wm)) (dens_cons d0 (dens_cons d1 (dens_cons d2 (dens_cons d3 dens_nil))))
end Go.Proofs.Ytmadffhjgbpojaa.Fix

/- Mesh: its bytes: the function does what is said of it. -/
import Derived.Test.YtmadffhjgbpojaaMf0Vc
import Derived.Test.YtmadffhjgbpojaaMeFun
namespace Go.Proofs.Ytmadffhjgbpojaa.Fix
open Go Go.Proofs.Ytmadffhjgbpojaa.Sx
attribute [local irreducible] evFunc

theorem wu32 (n : Int) : IntKind.u32.wrap n = n % 4294967296 := by simp [IntKind.wrap, IntKind.signed, IntKind.bits]
theorem hi32 (x : Int) : IntKind.u32.wrap ((IntKind.u64.wrap x).fdiv 4294967296) = x % 18446744073709551616 / 4294967296 := by
  rw [wu32, IntKind.wrap_u64, fdivp _ (by omega)]; omega
theorem fourB_len (x : Int) : (fourB x).length = 4 := rfl
theorem eightB_len (x : Int) : (eightB x).length = 8 := by simp [eightB, fourB_len]
theorem vecB_len (p : P3) : (vecB p).length = 24 := by simp [vecB, eightB_len]
theorem triB_len (p : P3) : (triB p).length = 12 := by simp [triB, fourB_len]
theorem seqB_len {f : Nat → List UInt8} {c : Nat} (h : ∀ k, (f k).length = c) : ∀ k, (seqB f k).length = c * k
  | 0 => rfl
  | k + 1 => by unfold seqB; rw [List.length_append, seqB_len h k, h k, Nat.mul_succ]
theorem ptsB_len (g : Nat → Nat → D) (k : Nat) : (ptsB g k).length = 24 * k := seqB_len (fun _ => vecB_len _) k
theorem trisB_len (g : Nat → Nat → D) (k : Nat) : (trisB g k).length = 12 * k := seqB_len (fun _ => triB_len _) k
theorem ballsB_len (g : Nat → Nat → D) (k : Nat) : (ballsB g k).length = 32 * k := seqB_len (fun _ => by rw [List.length_append, vecB_len, eightB_len]) k
theorem headB_len (a b c : Nat) : (headB a b c).length = 12 := by simp [headB, fourB_len]
theorem four_step {x : Int} {l : List UInt8} {A : List UInt8 → Prop} {c : Prop} [Decidable c] (hx : 0 ≤ x ∧ x < 4294967296) (hl : l.length + 4 ≤ 140737488355328) (h : A (l ++ fourB x)) (hc : c := by trivial) :
    BR (inU32 x) (BR (decide c) (BR (decide (l.length + 4 ≤ 140737488355328)) (∀ l', l' = l ++ fourB x → A l') False) False) False :=
  BR_y hx (BR_y hc (BR_y hl fun l' e => by rw [e]; exact h))
theorem m32 (x : Int) : 0 ≤ x % 4294967296 ∧ x % 4294967296 < 4294967296 := by omega
theorem m64 (x : Int) : 0 ≤ x % 18446744073709551616 / 4294967296 ∧ x % 18446744073709551616 / 4294967296 < 4294967296 := by omega
theorem mbytes_ok {np nt nb : Nat} {p t b : Nat → Nat → Int} {K : Out → Prop} (hM : okM np nt nb (fun i j => .int .i64 (p i j)) (fun i j => .int .i64 (t i j)) (fun i j => .int .i64 (b i j)))
    (h : BR (okB np nt nb (fun i j => .int .i64 (p i j)) (fun i j => .int .i64 (t i j)) (fun i j => .int .i64 (b i j))) (∀ l, l = meshB np nt nb (fun i j => .int .i64 (p i j)) (fun i j => .int .i64 (t i j)) (fun i j => .int .i64 (b i j)) → K (.val (.tuple [.d (.bytes l), I64 0]))) (K (.val (.tuple [.d (.bytes []), I64 14])))) :
    evFunc Try.prog ΓE1 annMf 10 9 16 [.agg [NL 3 np p, NL 3 nt t, NL 4 nb b]] [] (outF (.tup [.bytes, .any]) K) := by
  rw [vcBytes]
  refine ⟨hM, ?_⟩
  simp only [hi32]
  simp only [true_and, and_true, implies_true, Subtype.forall, Subtype.exists, exists_prop, Int.toNat_natCast, wu32]
  refine BR_b (fun hok => ?_) fun hok => ?_
  rotate_left
  · rw [hok] at h; have h := Eq.mp BR_false h; exact h
  rw [hok] at h
  have h : ∀ l, l = meshB np nt nb (fun i j => .int .i64 (p i j)) (fun i j => .int .i64 (t i j)) (fun i j => .int .i64 (b i j)) → K (.val (.tuple [.d (.bytes l), I64 0])) := Eq.mp BR_true h
  have hok2 := hok
  simp only [okB, Bool.and_eq_true, decide_eq_true_eq] at hok2
  obtain ⟨⟨⟨c1, c2⟩, c3, c4⟩, _⟩ := hok2
  clear hok hM
  rw [show ((np : Int) % 4294967296) = np by omega, show ((nt : Int) % 4294967296) = nt by omega, show ((nb : Int) % 4294967296) = nb by omega]
  intro _
  refine BR_y ⟨by omega, by omega⟩ fun l1 e1 => ?_
  have q1 : l1.length = 4 := by rw [e1]; rfl
  intro _
  refine four_step ⟨by omega, by omega⟩ (by omega) ?_
  intro _
  refine four_step ⟨by omega, by omega⟩ (by simp [q1, fourB_len]) ?_
  rw [e1, show fourB np ++ fourB nt ++ fourB nb = headB np nt nb from rfl]
  intro _
  refine ⟨⟨0, by omega, rfl, by simp [ptsB, seqB], by simp [ptsB, seqB]⟩, fun a ha => BR_d (fun h1 => BR_y ⟨by omega, h1⟩ ?_) fun h1 => ?_⟩
  · have hl : (headB np nt nb ++ ptsB (fun i j => D.int IntKind.i64 (p i j)) a).length = 12 + 24 * a := by rw [List.length_append, headB_len, ptsB_len]
    refine four_step (m64 _) (by omega) (four_step (m32 _) (by simp only [List.length_append, fourB_len, headB_len, ptsB_len, trisB_len, ballsB_len] at *; omega) (four_step (m64 _) (by simp only [List.length_append, fourB_len, headB_len, ptsB_len, trisB_len, ballsB_len] at *; omega) (four_step (m32 _) (by simp only [List.length_append, fourB_len, headB_len, ptsB_len, trisB_len, ballsB_len] at *; omega) (four_step (m64 _) (by simp only [List.length_append, fourB_len, headB_len, ptsB_len, trisB_len, ballsB_len] at *; omega) (four_step (m32 _) (by simp only [List.length_append, fourB_len, headB_len, ptsB_len, trisB_len, ballsB_len] at *; omega) ?_)))))
    have e : ∀ L : List UInt8, L ++ ptsB (fun i j => D.int IntKind.i64 (p i j)) a ++ fourB (p a 0 % 18446744073709551616 / 4294967296) ++ fourB (p a 0 % 4294967296) ++ fourB (p a 1 % 18446744073709551616 / 4294967296) ++ fourB (p a 1 % 4294967296) ++ fourB (p a 2 % 18446744073709551616 / 4294967296) ++ fourB (p a 2 % 4294967296) = L ++ ptsB (fun i j => D.int IntKind.i64 (p i j)) (a + 1) := fun L => by
      simp [ptsB, seqB, vecB, eightB, pt, dI, List.append_assoc]
    exact ⟨a + 1, by omega, by omega, by rw [w64 (by unfold In64; omega)]; omega, by rw [e], by rw [e]⟩
  obtain rfl : a = np := by omega
  generalize ePts : headB a nt nb ++ ptsB (fun i j => D.int IntKind.i64 (p i j)) a = L1
  have hL1 : L1.length = 12 + 24 * a := by rw [← ePts, List.length_append, headB_len, ptsB_len]
  intro _
  refine ⟨⟨0, by omega, rfl, by simp [trisB, seqB], by simp [trisB, seqB]⟩, fun a2 ha2 => BR_d (fun h2 => BR_y ⟨by omega, h2⟩ ?_) fun h2 => ?_⟩
  · have hl : (L1 ++ trisB (fun i j => D.int IntKind.i64 (t i j)) a2).length = 12 + 24 * a + 12 * a2 := by rw [List.length_append, hL1, trisB_len]
    refine four_step (m32 _) (by omega) (four_step (m32 _) (by simp only [List.length_append, fourB_len, headB_len, ptsB_len, trisB_len, ballsB_len] at *; omega) (four_step (m32 _) (by simp only [List.length_append, fourB_len, headB_len, ptsB_len, trisB_len, ballsB_len] at *; omega) ?_))
    have e : L1 ++ trisB (fun i j => D.int IntKind.i64 (t i j)) a2 ++ fourB (t a2 0 % 4294967296) ++ fourB (t a2 1 % 4294967296) ++ fourB (t a2 2 % 4294967296) = L1 ++ trisB (fun i j => D.int IntKind.i64 (t i j)) (a2 + 1) := by
      simp [trisB, seqB, triB, pt, dI, List.append_assoc]
    exact ⟨a2 + 1, by omega, by omega, by rw [w64 (by unfold In64; omega)]; omega, by rw [e], by rw [e]⟩
  obtain rfl : a2 = nt := by omega
  generalize eTri : L1 ++ trisB (fun i j => D.int IntKind.i64 (t i j)) a2 = L2
  have hL2 : L2.length = 12 + 24 * a + 12 * a2 := by rw [← eTri, List.length_append, hL1, trisB_len]
  intro _
  refine ⟨⟨0, by omega, rfl, by simp [ballsB, seqB], by simp [ballsB, seqB]⟩, fun a3 ha3 => BR_d (fun h3 => BR_y ⟨by omega, h3⟩ ?_) fun h3 => ?_⟩
  · have hl : (L2 ++ ballsB (fun i j => D.int IntKind.i64 (b i j)) a3).length = 12 + 24 * a + 12 * a2 + 32 * a3 := by rw [List.length_append, hL2, ballsB_len]
    refine four_step (m64 _) (by omega) (four_step (m32 _) (by simp only [List.length_append, fourB_len, headB_len, ptsB_len, trisB_len, ballsB_len] at *; omega) (four_step (m64 _) (by simp only [List.length_append, fourB_len, headB_len, ptsB_len, trisB_len, ballsB_len] at *; omega) (four_step (m32 _) (by simp only [List.length_append, fourB_len, headB_len, ptsB_len, trisB_len, ballsB_len] at *; omega) (four_step (m64 _) (by simp only [List.length_append, fourB_len, headB_len, ptsB_len, trisB_len, ballsB_len] at *; omega) (four_step (m32 _) (by simp only [List.length_append, fourB_len, headB_len, ptsB_len, trisB_len, ballsB_len] at *; omega) (four_step (m64 _) (by simp only [List.length_append, fourB_len, headB_len, ptsB_len, trisB_len, ballsB_len] at *; omega) (four_step (m32 _) (by simp only [List.length_append, fourB_len, headB_len, ptsB_len, trisB_len, ballsB_len] at *; omega) ?_)))))))
    have e : L2 ++ ballsB (fun i j => D.int IntKind.i64 (b i j)) a3 ++ fourB (b a3 0 % 18446744073709551616 / 4294967296) ++ fourB (b a3 0 % 4294967296) ++ fourB (b a3 1 % 18446744073709551616 / 4294967296) ++ fourB (b a3 1 % 4294967296) ++ fourB (b a3 2 % 18446744073709551616 / 4294967296) ++ fourB (b a3 2 % 4294967296) ++ fourB (b a3 3 % 18446744073709551616 / 4294967296) ++ fourB (b a3 3 % 4294967296) = L2 ++ ballsB (fun i j => D.int IntKind.i64 (b i j)) (a3 + 1) := by
      simp [ballsB, seqB, vecB, eightB, pt, dI, List.append_assoc]
    exact ⟨a3 + 1, by omega, by omega, by rw [w64 (by unfold In64; omega)]; omega, by rw [e], by rw [e]⟩
  obtain rfl : a3 = nb := by omega
  have := h _ rfl
  rw [List.drop_zero, List.take_length, ← eTri, ← ePts]
  exact this
end Go.Proofs.Ytmadffhjgbpojaa.Fix

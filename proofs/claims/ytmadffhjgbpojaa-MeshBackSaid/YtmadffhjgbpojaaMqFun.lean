/- Mesh: the fixed examples of the chapter, and the functions in the form that they ask. -/
import Derived.Test.YtmadffhjgbpojaaMq0Vc
import Derived.Test.YtmadffhjgbpojaaMgFun
import Derived.Test.YtmadffhjgbpojaaSxOpen
namespace Go.Proofs.Ytmadffhjgbpojaa.Fix
open Go Go.Proofs.Ytmadffhjgbpojaa.Sx Go.RowKit
attribute [local irreducible] evFunc

theorem mbytesM_ok {np nt nb : Nat} {p t b : Nat → Nat → Int} {K : SV → List Ob → Prop} (hM : okM np nt nb (fun i j => .int .i64 (p i j)) (fun i j => .int .i64 (t i j)) (fun i j => .int .i64 (b i j)))
    (h : BR (okB np nt nb (fun i j => .int .i64 (p i j)) (fun i j => .int .i64 (t i j)) (fun i j => .int .i64 (b i j))) (∀ l, l = meshB np nt nb (fun i j => .int .i64 (p i j)) (fun i j => .int .i64 (t i j)) (fun i j => .int .i64 (b i j)) → K (.tuple [.view 1 0 0 l.length, I64 0]) [.ban, .row 0 byteT (.bytes l)]) (K (.tuple [.nils, I64 14]) [.ban])) :
    evFunc Try.prog ΓE1 annMf 10 9 16 [.agg [NL 3 np p, NL 3 nt t, NL 4 nb b]] [.ban] (outM true [] 1 K) := by
  rw [vcBytesM]
  refine ⟨hM, ?_⟩
  simp only [hi32]
  simp only [true_and, and_true, implies_true, Subtype.forall, Subtype.exists, exists_prop, Int.toNat_natCast, wu32]
  refine BR_b (fun hok => ?_) fun hok => ?_
  rotate_left
  · rw [hok] at h; have h := Eq.mp BR_false h; exact h
  rw [hok] at h
  have h : ∀ l, l = meshB np nt nb (fun i j => .int .i64 (p i j)) (fun i j => .int .i64 (t i j)) (fun i j => .int .i64 (b i j)) → K (.tuple [.view 1 0 0 l.length, I64 0]) [.ban, .row 0 byteT (.bytes l)] := Eq.mp BR_true h
  have hok2 := hok
  simp only [okB, Bool.and_eq_true, decide_eq_true_eq] at hok2
  obtain ⟨⟨⟨c1, c2⟩, c3, c4⟩, _⟩ := hok2
  clear hok hM
  rw [show ((np : Int) % 4294967296) = np by omega, show ((nt : Int) % 4294967296) = nt by omega, show ((nb : Int) % 4294967296) = nb by omega]
  intro _
  refine BR_y ⟨by omega, by omega⟩ fun l1 e1 => ?_
  have q1 : l1.length = 4 := by rw [e1]; rfl
  intro _
  refine four_step ⟨by omega, by omega⟩ (by omega) ?_
  intro _
  refine four_step ⟨by omega, by omega⟩ (by simp [q1, fourB_len]) ?_
  rw [e1, show fourB np ++ fourB nt ++ fourB nb = headB np nt nb from rfl]
  intro _
  refine ⟨⟨0, by omega, rfl, by simp [ptsB, seqB], by simp [ptsB, seqB]⟩, fun a ha => BR_d (fun h1 => BR_y ⟨by omega, h1⟩ ?_) fun h1 => ?_⟩
  · have hl : (headB np nt nb ++ ptsB (fun i j => D.int IntKind.i64 (p i j)) a).length = 12 + 24 * a := by rw [List.length_append, headB_len, ptsB_len]
    refine four_step (m64 _) (by omega) (four_step (m32 _) (by simp only [List.length_append, fourB_len, headB_len, ptsB_len, trisB_len, ballsB_len] at *; omega) (four_step (m64 _) (by simp only [List.length_append, fourB_len, headB_len, ptsB_len, trisB_len, ballsB_len] at *; omega) (four_step (m32 _) (by simp only [List.length_append, fourB_len, headB_len, ptsB_len, trisB_len, ballsB_len] at *; omega) (four_step (m64 _) (by simp only [List.length_append, fourB_len, headB_len, ptsB_len, trisB_len, ballsB_len] at *; omega) (four_step (m32 _) (by simp only [List.length_append, fourB_len, headB_len, ptsB_len, trisB_len, ballsB_len] at *; omega) ?_)))))
    have e : ∀ L : List UInt8, L ++ ptsB (fun i j => D.int IntKind.i64 (p i j)) a ++ fourB (p a 0 % 18446744073709551616 / 4294967296) ++ fourB (p a 0 % 4294967296) ++ fourB (p a 1 % 18446744073709551616 / 4294967296) ++ fourB (p a 1 % 4294967296) ++ fourB (p a 2 % 18446744073709551616 / 4294967296) ++ fourB (p a 2 % 4294967296) = L ++ ptsB (fun i j => D.int IntKind.i64 (p i j)) (a + 1) := fun L => by
      simp [ptsB, seqB, vecB, eightB, pt, dI, List.append_assoc]
    exact ⟨a + 1, by omega, by omega, by rw [w64 (by unfold In64; omega)]; omega, by rw [e], by rw [e]⟩
  obtain rfl : a = np := by omega
  generalize ePts : headB a nt nb ++ ptsB (fun i j => D.int IntKind.i64 (p i j)) a = L1
  have hL1 : L1.length = 12 + 24 * a := by rw [← ePts, List.length_append, headB_len, ptsB_len]
  intro _
  refine ⟨⟨0, by omega, rfl, by simp [trisB, seqB], by simp [trisB, seqB]⟩, fun a2 ha2 => BR_d (fun h2 => BR_y ⟨by omega, h2⟩ ?_) fun h2 => ?_⟩
  · have hl : (L1 ++ trisB (fun i j => D.int IntKind.i64 (t i j)) a2).length = 12 + 24 * a + 12 * a2 := by rw [List.length_append, hL1, trisB_len]
    refine four_step (m32 _) (by omega) (four_step (m32 _) (by simp only [List.length_append, fourB_len, headB_len, ptsB_len, trisB_len, ballsB_len] at *; omega) (four_step (m32 _) (by simp only [List.length_append, fourB_len, headB_len, ptsB_len, trisB_len, ballsB_len] at *; omega) ?_))
    have e : L1 ++ trisB (fun i j => D.int IntKind.i64 (t i j)) a2 ++ fourB (t a2 0 % 4294967296) ++ fourB (t a2 1 % 4294967296) ++ fourB (t a2 2 % 4294967296) = L1 ++ trisB (fun i j => D.int IntKind.i64 (t i j)) (a2 + 1) := by
      simp [trisB, seqB, triB, pt, dI, List.append_assoc]
    exact ⟨a2 + 1, by omega, by omega, by rw [w64 (by unfold In64; omega)]; omega, by rw [e], by rw [e]⟩
  obtain rfl : a2 = nt := by omega
  generalize eTri : L1 ++ trisB (fun i j => D.int IntKind.i64 (t i j)) a2 = L2
  have hL2 : L2.length = 12 + 24 * a + 12 * a2 := by rw [← eTri, List.length_append, hL1, trisB_len]
  intro _
  refine ⟨⟨0, by omega, rfl, by simp [ballsB, seqB], by simp [ballsB, seqB]⟩, fun a3 ha3 => BR_d (fun h3 => BR_y ⟨by omega, h3⟩ ?_) fun h3 => ?_⟩
  · have hl : (L2 ++ ballsB (fun i j => D.int IntKind.i64 (b i j)) a3).length = 12 + 24 * a + 12 * a2 + 32 * a3 := by rw [List.length_append, hL2, ballsB_len]
    refine four_step (m64 _) (by omega) (four_step (m32 _) (by simp only [List.length_append, fourB_len, headB_len, ptsB_len, trisB_len, ballsB_len] at *; omega) (four_step (m64 _) (by simp only [List.length_append, fourB_len, headB_len, ptsB_len, trisB_len, ballsB_len] at *; omega) (four_step (m32 _) (by simp only [List.length_append, fourB_len, headB_len, ptsB_len, trisB_len, ballsB_len] at *; omega) (four_step (m64 _) (by simp only [List.length_append, fourB_len, headB_len, ptsB_len, trisB_len, ballsB_len] at *; omega) (four_step (m32 _) (by simp only [List.length_append, fourB_len, headB_len, ptsB_len, trisB_len, ballsB_len] at *; omega) (four_step (m64 _) (by simp only [List.length_append, fourB_len, headB_len, ptsB_len, trisB_len, ballsB_len] at *; omega) (four_step (m32 _) (by simp only [List.length_append, fourB_len, headB_len, ptsB_len, trisB_len, ballsB_len] at *; omega) ?_)))))))
    have e : L2 ++ ballsB (fun i j => D.int IntKind.i64 (b i j)) a3 ++ fourB (b a3 0 % 18446744073709551616 / 4294967296) ++ fourB (b a3 0 % 4294967296) ++ fourB (b a3 1 % 18446744073709551616 / 4294967296) ++ fourB (b a3 1 % 4294967296) ++ fourB (b a3 2 % 18446744073709551616 / 4294967296) ++ fourB (b a3 2 % 4294967296) ++ fourB (b a3 3 % 18446744073709551616 / 4294967296) ++ fourB (b a3 3 % 4294967296) = L2 ++ ballsB (fun i j => D.int IntKind.i64 (b i j)) (a3 + 1) := by
      simp [ballsB, seqB, vecB, eightB, pt, dI, List.append_assoc]
    exact ⟨a3 + 1, by omega, by omega, by rw [w64 (by unfold In64; omega)]; omega, by rw [e], by rw [e]⟩
  obtain rfl : a3 = nb := by omega
  have := h _ rfl
  rw [← eTri, ← ePts]
  exact this
theorem okL_of {sz n : Nat} {g : Nat → Nat → D} (h : okLb sz n g = true) : okL sz n g := fun i hi j hj => by
  have := allB_at (allB_at h i hi) j hj
  revert this
  show i64D (g i j) = true → _
  generalize g i j = d
  intro h
  cases d with
  | int k x =>
    cases k with
    | i64 => have h2 : inI64 x = true := h; have h3 : -9223372036854775808 ≤ x ∧ x < 9223372036854775808 := of_decide_eq_true h2; exact ⟨rfl, h3⟩
    | _ => cases h
  | _ => cases h
theorem okM_of {np nt nb : Nat} {gp gt gb : Nat → Nat → D} (h : okMb np nt nb gp gt gb = true) : okM np nt nb gp gt gb := by
  simp only [okMb, Bool.and_eq_true, decide_eq_true_eq] at h
  obtain ⟨⟨h1, h2, h3⟩, h4, h5⟩ := h
  exact ⟨okL_of h1, okL_of h2, okL_of h3, h4, h5⟩
theorem copy_ok {l : List UInt8} {K : Out → Prop} (hl : l.length ≤ 140737488355328) (h : K (.row byteT (.bytes l))) : evFunc Try.prog ΓG annCopy 10 9 19 [.d (.bytes l)] [] (inK (some (byteT, .bytes [])) K) := by
  rw [vcCopy]
  simp only [true_and, and_true, implies_true, Subtype.forall, Subtype.exists, exists_prop, Int.toNat_natCast, List.drop_zero]
  refine ⟨⟨0, by omega, ⟨by simp, rfl⟩, by simp⟩, fun a ha _ => BR_d (fun h1 => BR_y ⟨by omega, h1⟩ ⟨BR_y ⟨by omega, by have := (l.getD a 0).toNat_lt; omega⟩ trivial, fun l' e => ?_⟩) fun h1 => ?_⟩
  · have e2 : l' = l.take (a + 1) := by
      rw [e, take_snoc l (by omega), List.take_length]
      simp
    have hlen : l'.length ≤ l.length := by rw [e2, List.length_take]; omega
    exact BR_y (by omega) (BR_y trivial ⟨a + 1, by omega, by omega, ⟨by rw [e2], by rw [w64 (by unfold In64; omega)]; omega⟩, e2⟩)
  · obtain rfl : a = l.length := by omega
    rw [List.take_length]
    exact h
theorem ΓQ_ok : GammaOK Try.prog ΓQ := by
  intro f s h
  unfold ΓQ at h
  split at h
  · cases h
  · cases h -- @n{mesh.Check}@
    refine ⟨pure_mono (ΓE1_ok 9 checkSpec rfl).1 fun xs K hb => ?_, pureSpec_calm fun xs => ?_⟩
    · split at hb
      · obtain ⟨h1, h2⟩ := req hb
        exact ⟨okM_of h1, h2⟩
      · exact hb.elim
    · repeat' (first | exact kd_ret _ | exact kd_false | refine kd_br ?_ ?_ | split)
  · cases h -- @n{mesh.Box}@
    refine ⟨pure_mono (ΓM1_ok 12 mboxSpec rfl).1 fun xs K hb => ?_, pureSpec_calm fun xs => ?_⟩
    · split at hb
      · obtain ⟨h1, h2⟩ := req hb
        exact ⟨okM_of h1, h2⟩
      · exact hb.elim
    · repeat' (first | exact kd_ret _ | exact kd_false | refine kd_br ?_ ?_ | split)
  · cases h -- @n{mesh.Bytes}@
    refine ⟨memSpec_ok (nul := []) (evN_sound (evFunc_sound ΓE1_ok annMf 10 9)) fun xs obs K h => ?_, memSpec_calm fun xs obs => ?_⟩
    · split at h
      · rename_i np gp nt gt nb gb
        obtain ⟨hm0, h⟩ := req h
        have hm := okM_of hm0
        refine ⟨[.agg [NL 3 np fun i j => dI (gp i j), NL 3 nt fun i j => dI (gt i j), NL 4 nb fun i j => dI (gb i j)]], fun c vs hd => dens_head (fun v => dens_mesh hm) (fun vs h => h) hd, ?_⟩
        refine mbytesM_ok ⟨fun i hi j hj => ⟨rfl, (hm.1 i hi j hj).2⟩, fun i hi j hj => ⟨rfl, (hm.2.1 i hi j hj).2⟩, fun i hi j hj => ⟨rfl, (hm.2.2.1 i hi j hj).2⟩, hm.2.2.2⟩ ?_
        refine BR_b (fun e => ?_) fun e => ?_
        · intro l hl
          have h2 := (BR_iff.1 h).1 e
          rw [hl]; exact h2
        · exact (BR_iff.1 h).2 e
      · exact h.elim
    · repeat' (first | exact km_ret _ _ | exact km_false | refine km_br ?_ ?_ | split)
  · cases h -- @n{mesh.Read}@
    refine ⟨pure_mono (ΓE2_ok 18 mreadSpec rfl).1 fun xs K hb => ?_, pureSpec_calm fun xs => ?_⟩
    · split at hb
      · rw [BR_iff] at hb
        exact BR_iff.2 ⟨hb.1, fun e n hn => by rw [hn]; exact hb.2 e⟩
      · exact hb.elim
    · repeat' (first | exact kd_ret _ | exact kd_false | refine kd_br ?_ ?_ | split)
  · cases h -- @n{lightwelllow.CopyBytes}@
    refine ⟨pureSpec_ok (nl := some (byteT, .bytes [])) (evFunc_sound ΓG_ok annCopy 10 9) fun xs K h => ?_, pureSpec_calm fun xs => ?_⟩
    · split at h
      · obtain ⟨h1, h2⟩ := req h
        exact copy_ok (of_decide_eq_true h1) h2
      · exact h.elim
    · repeat' (first | exact kd_ret _ | exact kd_false | refine kd_br ?_ ?_ | split)
  · exact ΓE1_ok _ _ h
theorem trueSpec_of {f : FuncId} {Γ : FuncId → Option Sx.Spec} (hΓ : GammaOK Try.prog Γ) {ann : FuncId → Nat → List SV → List Ob → Option LoopAnn} {fuel n : Nat} (h : ∀ K : Out → Prop, evFunc Try.prog Γ ann fuel n f [] [] (inK none K) = (True ∧ K (.val (Bo true)))) : SpecOK Try.prog f trueSpec ∧ SpecCalm trueSpec := by
  refine ⟨pureSpec_ok (nl := none) (evFunc_sound hΓ ann fuel n) fun xs K hk => ?_, pureSpec_calm fun xs => ?_⟩
  · split at hk
    · rw [h]; exact ⟨trivial, hk⟩
    · exact hk.elim
  · repeat' (first | exact kd_ret _ | exact kd_false | split)
theorem ΓQa_ok : GammaOK Try.prog ΓQa := by
  intro f s h
  unfold ΓQa at h
  split at h
  · cases h
  · cases h -- @n{lightwelllaw12.awake}@
    exact trueSpec_of ΓQ_ok vcMeshAwake
  · exact ΓQ_ok _ _ h
set_option maxRecDepth 100000 in
theorem numbers_f : evFunc Try.prog ΓQa noAnn 20 9 5 [] [] yesK := by
  rw [vcMeshNumbers]
  intros
  refine ⟨trivial, fun l' hl' => ?_⟩
  subst hl'
  refine BR_y (by decide +kernel) (BR_n (by decide +kernel) ⟨trivial, trivial, fun l2 hl2 => ?_⟩)
  subst hl2
  exact BR_n (by decide +kernel) (BR_y (by decide +kernel) (BR_y (by decide +kernel) trivial))
theorem walk_mnumbers (w : World) : Calls Try.prog 5 #[] w fun e w' => e = .returned (.bool true) ∧ Below w.heap.size w w' :=
  law_calls ΓQa_ok numbers_f dens_nil
end Go.Proofs.Ytmadffhjgbpojaa.Fix

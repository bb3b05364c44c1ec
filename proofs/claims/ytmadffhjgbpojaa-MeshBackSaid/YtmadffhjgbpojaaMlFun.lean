/- Mesh: bytes and back, with no program in sight; the laws' own functions. -/
import Derived.Test.YtmadffhjgbpojaaMqFun
import Derived.Test.YtmadffhjgbpojaaMl0Vc
import Derived.Test.YtmadffhjgbpojaaSxOpen
import Derived.Test.YtmadffhjgbpojaaSxLaw
import Derived.Below
import Derived.KernelRfl
namespace Go.Proofs.Ytmadffhjgbpojaa.Fix
open Go Go.Proofs.Ytmadffhjgbpojaa.Sx Go.RowKit

/-- What stands at a place. -/
def At (l : List UInt8) (o : Nat) (s : List UInt8) : Prop := (l.drop o).take s.length = s
theorem At.whole (l : List UInt8) : At l 0 l := by unfold At; rw [List.drop_zero, List.take_length]
theorem At.app {l s t : List UInt8} {o : Nat} (h : At l o (s ++ t)) : At l o s ∧ At l (o + s.length) t := by
  unfold At at h ⊢
  rw [List.length_append] at h
  constructor
  · have := congrArg (List.take s.length) h
    rw [List.take_take, Nat.min_eq_left (by omega), List.take_left] at this
    exact this
  · have := congrArg (List.drop s.length) h
    rw [List.drop_left, List.drop_take, List.drop_drop] at this
    rw [show s.length + t.length - s.length = t.length by omega] at this
    exact this
theorem At.len {l s : List UInt8} {o : Nat} (h : At l o s) (hs : 0 < s.length) : o + s.length ≤ l.length := by
  have := congrArg List.length h
  rw [List.length_take, List.length_drop] at this
  omega
theorem At.seq {l : List UInt8} {f : Nat → List UInt8} {c : Nat} (hc : ∀ k, (f k).length = c) : ∀ {n o : Nat}, At l o (seqB f n) → ∀ i, i < n → At l (o + c * i) (f i)
  | n + 1, o, h, i, hi => by
    unfold seqB at h
    obtain ⟨h1, h2⟩ := h.app
    rw [seqB_len hc] at h2
    by_cases e : i = n
    · rw [e]; exact h2
    · exact At.seq hc h1 i (by omega)
theorem b8_nat (z : Int) : ((b8 z).toNat : Int) = z % 256 := by
  unfold b8
  rw [UInt8.toNat_ofNat']
  omega
theorem beN_four {n : Int} (h1 : 0 ≤ n) (h2 : n < 4294967296) : beN (fourB n) = n := by
  simp only [beN, fourB, List.foldl_cons, List.foldl_nil, b8_nat]
  omega
theorem beN_app (a b : List UInt8) : beN (a ++ b) = beN a * 256 ^ b.length + beN b := by
  have key : ∀ (m : Nat) (b : List UInt8), b.length = m → beN (a ++ b) = beN a * 256 ^ b.length + beN b := by
    intro m
    induction m with
    | zero => intro b h; obtain rfl := List.eq_nil_of_length_eq_zero h; simp [beN]
    | succ m ih =>
      intro b h
      obtain ⟨b', x, rfl⟩ : ∃ b' x, b = b' ++ [x] := by
        have hn : b ≠ [] := fun e => by rw [e] at h; cases h
        exact ⟨b.dropLast, b.getLast hn, (List.dropLast_concat_getLast hn).symm⟩
      have hl : b'.length = m := by simp at h; exact h
      rw [← List.append_assoc, beN_snoc, beN_snoc, ih b' hl, List.length_append, List.length_singleton, Int.pow_succ, Int.mul_add, ← Int.mul_assoc]
      generalize (256 : Int) ^ b'.length = P
      rw [show 256 * beN a * P = beN a * (P * 256) by rw [Int.mul_comm 256, Int.mul_assoc, Int.mul_comm 256]]
      omega
  exact key b.length b rfl
theorem beN_eight (x : Int) : beN (eightB x) = x % 18446744073709551616 := by
  unfold eightB
  rw [beN_app, beN_four (m64 x).1 (m64 x).2, beN_four (m32 x).1 (m32 x).2, fourB_len]
  omega
theorem num4_at {l : List UInt8} {o : Nat} {n : Int} (h : At l o (fourB n)) (h1 : 0 ≤ n) (h2 : n < 4294967296) : num4 l o = n := by
  unfold num4
  rw [show (l.drop o).take 4 = fourB n from h, beN_four h1 h2]
theorem num8_at {l : List UInt8} {o : Nat} {x : Int} (h : At l o (eightB x)) (hx : In64 x) : num8 l o = x := by
  unfold num8
  have h : (l.drop o).take (eightB x).length = eightB x := h
  rw [eightB_len] at h
  rw [h, beN_eight, IntKind.wrap_i64]
  unfold In64 at hx
  omega
theorem vec_at {l : List UInt8} {o : Nat} {p : P3} (h : At l o (vecB p)) (hp : In3 p) : num8 l o = p.1 ∧ num8 l (o + 8) = p.2.1 ∧ num8 l (o + 16) = p.2.2 := by
  unfold vecB at h
  obtain ⟨h1, h3⟩ := h.app
  obtain ⟨h1, h2⟩ := h1.app
  rw [List.length_append, eightB_len, eightB_len] at h3
  rw [eightB_len] at h2
  exact ⟨num8_at h1 hp.1, num8_at h2 hp.2.1, num8_at h3 hp.2.2⟩
theorem tri_at {l : List UInt8} {o : Nat} {p : P3} (h : At l o (triB p)) (h1 : 0 ≤ p.1 ∧ p.1 < 4294967296) (h2 : 0 ≤ p.2.1 ∧ p.2.1 < 4294967296) (h3 : 0 ≤ p.2.2 ∧ p.2.2 < 4294967296) : num4 l o = p.1 ∧ num4 l (o + 4) = p.2.1 ∧ num4 l (o + 8) = p.2.2 := by
  unfold triB at h
  obtain ⟨g1, g3⟩ := h.app
  obtain ⟨g1, g2⟩ := g1.app
  rw [List.length_append, fourB_len, fourB_len] at g3
  rw [fourB_len] at g2
  rw [Int.emod_eq_of_lt h1.1 h1.2] at g1
  rw [Int.emod_eq_of_lt h2.1 h2.2] at g2
  rw [Int.emod_eq_of_lt h3.1 h3.2] at g3
  exact ⟨num4_at g1 h1.1 h1.2, num4_at g2 h2.1 h2.2, num4_at g3 h3.1 h3.2⟩
theorem meshB_len (np nt nb : Nat) (gp gt gb : Nat → Nat → D) : (meshB np nt nb gp gt gb).length = 12 + 24 * np + 12 * nt + 32 * nb := by
  simp only [meshB, List.length_append, headB_len, ptsB_len, trisB_len, ballsB_len]
theorem allB_congr {f g : Nat → Bool} : ∀ {n : Nat}, (∀ i, i < n → f i = g i) → allB f n = allB g n
  | 0, _ => rfl
  | n + 1, h => by simp only [allB]; rw [h n (by omega), allB_congr fun i hi => h i (by omega)]
/-- The same numbers. -/
def EqL (sz n : Nat) (g h : Nat → Nat → D) : Prop := ∀ i, i < n → ∀ j, j < sz → dI (g i j) = dI (h i j)
theorem EqL.pt {sz n : Nat} {g h : Nat → Nat → D} (e : EqL sz n g h) (hs : 3 ≤ sz) {i : Nat} (hi : i < n) : Fix.pt g i = Fix.pt h i := by
  unfold Fix.pt
  rw [e i hi 0 (by omega), e i hi 1 (by omega), e i hi 2 (by omega)]
theorem EqL.symm {sz n : Nat} {g h : Nat → Nat → D} (e : EqL sz n g h) : EqL sz n h g := fun i hi j hj => (e i hi j hj).symm
theorem sameL_iff {sz n : Nat} {g h : Nat → Nat → D} : sameL sz n g h = true ↔ EqL sz n g h := by
  constructor
  · intro e i hi j hj
    exact of_decide_eq_true (allB_at (allB_at e i hi) j hj)
  · intro e
    exact allB_of fun i hi => allB_of fun j hj => decide_eq_true (e i hi j hj)
theorem okB_congr {np nt nb : Nat} {gp gt gb gp' gt' gb' : Nat → Nat → D} (h1 : EqL 3 np gp gp') (h2 : EqL 3 nt gt gt') (h3 : EqL 4 nb gb gb') : okB np nt nb gp gt gb = okB np nt nb gp' gt' gb' := by
  unfold okB
  rw [allB_congr (fun i hi => by rw [h1.pt (by omega) hi]), allB_congr (f := fun i => thereB np (pt gt i)) (fun i hi => by rw [h2.pt (by omega) hi]), allB_congr (f := ballB gb) (g := ballB gb') (fun i hi => by unfold ballB; rw [h3.pt (by omega) hi, h3 i hi 3 (by omega)])]
theorem seqB_congr {f g : Nat → List UInt8} : ∀ {n : Nat}, (∀ i, i < n → f i = g i) → seqB f n = seqB g n
  | 0, _ => rfl
  | n + 1, h => by simp only [seqB]; rw [h n (by omega), seqB_congr fun i hi => h i (by omega)]
theorem meshB_congr {np nt nb : Nat} {gp gt gb gp' gt' gb' : Nat → Nat → D} (h1 : EqL 3 np gp gp') (h2 : EqL 3 nt gt gt') (h3 : EqL 4 nb gb gb') : meshB np nt nb gp gt gb = meshB np nt nb gp' gt' gb' := by
  unfold meshB ptsB trisB ballsB
  rw [seqB_congr (fun i hi => by rw [h1.pt (by omega) hi]), seqB_congr (f := fun k => triB (pt gt k)) (fun i hi => by rw [h2.pt (by omega) hi]), seqB_congr (f := fun k => vecB (pt gb k) ++ eightB (dI (gb k 3))) (fun i hi => by rw [h3.pt (by omega) hi, h3 i hi 3 (by omega)])]
/-! ## A right mesh is read of its bytes as it was -/
structure Okay (np nt nb : Nat) (gp gt gb : Nat → Nat → D) : Prop where
  c1 : np ≤ 4096
  c2 : nt ≤ 4096
  c3 : nb ≤ 4096
  c4 : nt + nb ≤ 4096
  p : ∀ i, i < np → nearB (pt gp i) = true
  t : ∀ i, i < nt → thereB np (pt gt i) = true
  b : ∀ i, i < nb → ballB gb i = true
theorem okB_iff {np nt nb : Nat} {gp gt gb : Nat → Nat → D} : okB np nt nb gp gt gb = true ↔ Okay np nt nb gp gt gb := by
  simp only [okB, Bool.and_eq_true, decide_eq_true_eq]
  constructor
  · rintro ⟨⟨⟨a, b⟩, c, d⟩, e, f, g⟩
    exact ⟨a, b, c, d, allB_at e, allB_at f, allB_at g⟩
  · rintro ⟨a, b, c, d, e, f, g⟩
    exact ⟨⟨⟨a, b⟩, c, d⟩, allB_of e, allB_of f, allB_of g⟩
theorem there_iff {np : Nat} {p : P3} : thereB np p = true ↔ (0 ≤ p.1 ∧ p.1 < np) ∧ (0 ≤ p.2.1 ∧ p.2.1 < np) ∧ (0 ≤ p.2.2 ∧ p.2.2 < np) := by
  simp only [thereB, Bool.and_eq_true, decide_eq_true_eq]
theorem near_iff {p : P3} : nearB p = true ↔ (-4503599627370496 ≤ p.1 ∧ p.1 ≤ 4503599627370496) ∧ (-4503599627370496 ≤ p.2.1 ∧ p.2.1 ≤ 4503599627370496) ∧ (-4503599627370496 ≤ p.2.2 ∧ p.2.2 ≤ 4503599627370496) := by
  simp only [nearB, Bool.and_eq_true, decide_eq_true_eq]
theorem near_in {p : P3} (h : nearB p = true) : In3 p := by
  obtain ⟨h1, h2, h3⟩ := near_iff.1 h
  exact ⟨by unfold In64; omega, by unfold In64; omega, by unfold In64; omega⟩
theorem ball_iff {g : Nat → Nat → D} {i : Nat} : ballB g i = true ↔ nearB (pt g i) = true ∧ 1 ≤ dI (g i 3) ∧ dI (g i 3) ≤ 4503599627370496 := by
  simp only [ballB, Bool.and_eq_true, decide_eq_true_eq]
structure ReadsAs (l : List UInt8) (np nt nb : Nat) (gp gt gb : Nat → Nat → D) : Prop where
  c0 : cnt l 0 = np
  c1 : cnt l 1 = nt
  c2 : cnt l 2 = nb
  p : EqL 3 np (readP l) gp
  t : EqL 3 nt (readT l np) gt
  b : EqL 4 nb (readQ l np nt) gb
theorem reads {np nt nb : Nat} {gp gt gb : Nat → Nat → D} (h : Okay np nt nb gp gt gb) : ReadsAs (meshB np nt nb gp gt gb) np nt nb gp gt gb := by
  generalize hl : meshB np nt nb gp gt gb = l
  have h0 := At.whole l
  rw [show At l 0 l = At l 0 (meshB np nt nb gp gt gb) by rw [hl]] at h0
  unfold meshB at h0
  obtain ⟨h0, hB⟩ := h0.app
  obtain ⟨h0, hT⟩ := h0.app
  obtain ⟨hH, hP⟩ := h0.app
  simp only [List.length_append, headB_len, ptsB_len, trisB_len, Nat.zero_add] at hB hT hP
  unfold headB at hH
  obtain ⟨hH, g2⟩ := hH.app
  obtain ⟨g0, g1⟩ := hH.app
  simp only [List.length_append, fourB_len, Nat.zero_add] at g1 g2
  have := h.c1; have := h.c2; have := h.c3
  refine ⟨?_, ?_, ?_, fun i hi j hj => ?_, fun i hi j hj => ?_, fun i hi j hj => ?_⟩
  · unfold cnt; rw [num4_at g0 (by omega) (by omega)]; omega
  · unfold cnt; rw [num4_at g1 (by omega) (by omega)]; omega
  · unfold cnt; rw [num4_at g2 (by omega) (by omega)]; omega
  · obtain ⟨a0, a1, a2⟩ := vec_at (At.seq (fun _ => vecB_len _) hP i hi) (near_in (h.p i hi))
    show num8 l (12 + 24 * i + 8 * j) = dI (gp i j)
    rcases (by omega : j = 0 ∨ j = 1 ∨ j = 2) with rfl | rfl | rfl
    · exact a0
    · exact a1
    · exact a2
  · obtain ⟨b0, b1, b2⟩ := there_iff.1 (h.t i hi)
    obtain ⟨a0, a1, a2⟩ := tri_at (At.seq (fun _ => triB_len _) hT i hi) ⟨b0.1, by omega⟩ ⟨b1.1, by omega⟩ ⟨b2.1, by omega⟩
    show num4 l (12 + 24 * np + 12 * i + 4 * j) = dI (gt i j)
    rcases (by omega : j = 0 ∨ j = 1 ∨ j = 2) with rfl | rfl | rfl
    · exact a0
    · exact a1
    · exact a2
  · obtain ⟨b0, b1, b2⟩ := ball_iff.1 (h.b i hi)
    obtain ⟨q1, q2⟩ := At.app (At.seq (f := fun k => vecB (pt gb k) ++ eightB (dI (gb k 3))) (fun _ => by rw [List.length_append, vecB_len, eightB_len]) hB i hi)
    rw [vecB_len] at q2
    obtain ⟨a0, a1, a2⟩ := vec_at q1 (near_in b0)
    have a3 := num8_at q2 (by unfold In64; omega)
    show num8 l (12 + 24 * np + 12 * nt + 32 * i + 8 * j) = dI (gb i j)
    rcases (by omega : j = 0 ∨ j = 1 ∨ j = 2 ∨ j = 3) with rfl | rfl | rfl | rfl
    · exact a0
    · exact a1
    · exact a2
    · exact a3
theorem readE_mesh {np nt nb : Nat} {gp gt gb : Nat → Nat → D} (h : Okay np nt nb gp gt gb) : readE (meshB np nt nb gp gt gb) = 0 := by
  have r := reads h
  have hl := meshB_len np nt nb gp gt gb
  unfold readE
  rw [r.c0, r.c1, r.c2, hl, if_neg (by omega), if_neg (by have := h.c1; have := h.c2; have := h.c3; omega), if_neg (by omega), if_neg (by omega), if_pos]
  rw [okB_congr r.p r.t r.b]
  exact okB_iff.2 h
theorem EqL.trans {sz n : Nat} {g h k : Nat → Nat → D} (e : EqL sz n g h) (f : EqL sz n h k) : EqL sz n g k := fun i hi j hj => (e i hi j hj).trans (f i hi j hj)
theorem sameB_iff {np nt nb np' nt' nb' : Nat} {gp gt gb gp' gt' gb' : Nat → Nat → D} : sameB np nt nb gp gt gb np' nt' nb' gp' gt' gb' = true ↔ (np = np' ∧ nt = nt' ∧ nb = nb') ∧ EqL 3 np gp gp' ∧ EqL 3 nt gt gt' ∧ EqL 4 nb gb gb' := by
  simp only [sameB, Bool.and_eq_true, decide_eq_true_eq, sameL_iff]
theorem bytes_same {np nt nb np' nt' nb' : Nat} {gp gt gb gp' gt' gb' : Nat → Nat → D} (h : Okay np nt nb gp gt gb) (h' : Okay np' nt' nb' gp' gt' gb') :
    meshB np nt nb gp gt gb = meshB np' nt' nb' gp' gt' gb' ↔ sameB np nt nb gp gt gb np' nt' nb' gp' gt' gb' = true := by
  rw [sameB_iff]
  constructor
  · intro e
    have r := reads h
    have r' := reads h'
    rw [← e] at r'
    have e0 : np = np' := r.c0.symm.trans r'.c0
    have e1 : nt = nt' := r.c1.symm.trans r'.c1
    have e2 : nb = nb' := r.c2.symm.trans r'.c2
    subst e0; subst e1; subst e2
    exact ⟨⟨rfl, rfl, rfl⟩, r.p.symm.trans r'.p, r.t.symm.trans r'.t, r.b.symm.trans r'.b⟩
  · rintro ⟨⟨rfl, rfl, rfl⟩, h1, h2, h3⟩
    exact meshB_congr h1 h2 h3
/-! ## What is cut, and what has a byte more -/
theorem num4_take {l : List UInt8} {k o : Nat} (h : o + 4 ≤ k) : num4 (l.take k) o = num4 l o := by
  unfold num4
  rw [List.drop_take, List.take_take, Nat.min_eq_left (by omega)]
theorem num4_app {l m : List UInt8} {o : Nat} (h : o + 4 ≤ l.length) : num4 (l ++ m) o = num4 l o := by
  have := num4_take (l := l ++ m) (k := l.length) h
  rw [List.take_left] at this
  exact this.symm
theorem readE_cut {np nt nb k : Nat} {gp gt gb : Nat → Nat → D} (h : Okay np nt nb gp gt gb) (hk : k < (meshB np nt nb gp gt gb).length) : readE ((meshB np nt nb gp gt gb).take k) = 12 := by
  have r := reads h
  have hl := meshB_len np nt nb gp gt gb
  generalize meshB np nt nb gp gt gb = l at *
  have hlk : (l.take k).length = k := by rw [List.length_take]; omega
  unfold readE
  by_cases h12 : k < 12
  · rw [if_pos (by omega)]
  · have e : ∀ i, i < 3 → cnt (l.take k) i = cnt l i := fun i hi => by unfold cnt; rw [num4_take (by omega)]
    rw [e 0 (by omega), e 1 (by omega), e 2 (by omega), r.c0, r.c1, r.c2, if_neg (by omega), if_neg (by have := h.c1; have := h.c2; have := h.c3; omega), if_pos (by omega)]
theorem readE_more {np nt nb : Nat} {gp gt gb : Nat → Nat → D} (h : Okay np nt nb gp gt gb) (b : UInt8) : readE (meshB np nt nb gp gt gb ++ [b]) = 10 := by
  have r := reads h
  have hl := meshB_len np nt nb gp gt gb
  generalize meshB np nt nb gp gt gb = l at *
  have hlk : (l ++ [b]).length = l.length + 1 := by rw [List.length_append]; rfl
  unfold readE
  have e : ∀ i, i < 3 → cnt (l ++ [b]) i = cnt l i := fun i hi => by unfold cnt; rw [num4_app (by omega)]
  rw [e 0 (by omega), e 1 (by omega), e 2 (by omega), r.c0, r.c1, r.c2, if_neg (by omega), if_neg (by have := h.c1; have := h.c2; have := h.c3; omega), if_neg (by omega), if_pos (by omega)]
/-! ## What is read has those bytes -/
theorem fourB_beN {s : List UInt8} (h : s.length = 4) : fourB (beN s) = s := by
  match s, h with
  | [a, b, c, d], _ =>
    have ha := a.toNat_lt; have hb := b.toNat_lt; have hc := c.toNat_lt; have hd := d.toNat_lt
    have e : beN [a, b, c, d] = 16777216 * (a.toNat : Int) + 65536 * (b.toNat : Int) + 256 * (c.toNat : Int) + (d.toNat : Int) := by
      simp only [beN, List.foldl_cons, List.foldl_nil]; omega
    have key : ∀ (z : Int) (x : UInt8), z % 256 = (x.toNat : Int) → b8 z = x := fun z x hz => by
      unfold b8; rw [hz]; simp
    unfold fourB
    rw [e, key _ a (by omega), key _ b (by omega), key _ c (by omega), key _ d (by omega)]
theorem eightB_beN {s : List UInt8} (h : s.length = 8) : eightB (IntKind.i64.wrap (beN s)) = s := by
  have hs : s = s.take 4 ++ s.drop 4 := (List.take_append_drop 4 s).symm
  have h1 : (s.take 4).length = 4 := by rw [List.length_take]; omega
  have h2 : (s.drop 4).length = 4 := by rw [List.length_drop]; omega
  obtain ⟨a1, a2⟩ := beN_range (s.take 4)
  obtain ⟨b1, b2⟩ := beN_range (s.drop 4)
  rw [h1] at a2; rw [h2] at b2
  have e : beN s = beN (s.take 4) * 4294967296 + beN (s.drop 4) := by
    rw [hs, beN_app, List.take_append_drop, h2]; rfl
  unfold eightB
  have e1 : IntKind.i64.wrap (beN s) % 18446744073709551616 / 4294967296 = beN (s.take 4) := by rw [IntKind.wrap_i64, e]; omega
  have e2 : IntKind.i64.wrap (beN s) % 4294967296 = beN (s.drop 4) := by rw [IntKind.wrap_i64, e]; omega
  rw [e1, e2, fourB_beN h1, fourB_beN h2]
  exact hs.symm
theorem take_len {l : List UInt8} {o c : Nat} (h : o + c ≤ l.length) : ((l.drop o).take c).length = c := by
  rw [List.length_take, List.length_drop]; omega
theorem take_split (l : List UInt8) (o a b : Nat) : (l.drop o).take (a + b) = (l.drop o).take a ++ (l.drop (o + a)).take b := by
  rw [List.take_add, List.drop_drop]
theorem num8_bytes {l : List UInt8} {o : Nat} (h : o + 8 ≤ l.length) : eightB (num8 l o) = (l.drop o).take 8 := eightB_beN (take_len h)
theorem num4_bytes {l : List UInt8} {o : Nat} (h : o + 4 ≤ l.length) : fourB (num4 l o % 4294967296) = (l.drop o).take 4 := by
  have := num4_in l o
  rw [Int.emod_eq_of_lt this.1 this.2]
  exact fourB_beN (take_len h)
theorem seq_bytes {l : List UInt8} {f : Nat → List UInt8} {c o : Nat} : ∀ {n : Nat}, (∀ i, i < n → f i = (l.drop (o + c * i)).take c) → seqB f n = (l.drop o).take (c * n)
  | 0, _ => by simp [seqB]
  | n + 1, h => by
    unfold seqB
    rw [seq_bytes fun i hi => h i (by omega), h n (by omega), Nat.mul_succ, take_split]
theorem read_back {l : List UInt8} (h : readE l = 0) : Okay (cnt l 0) (cnt l 1) (cnt l 2) (readP l) (readT l (cnt l 0)) (readQ l (cnt l 0) (cnt l 1)) ∧ meshB (cnt l 0) (cnt l 1) (cnt l 2) (readP l) (readT l (cnt l 0)) (readQ l (cnt l 0) (cnt l 1)) = l := by
  unfold readE at h
  split at h
  · cases h
  rename_i c1
  split at h
  · cases h
  rename_i c2
  split at h
  · cases h
  rename_i c3
  split at h
  · cases h
  rename_i c4
  split at h
  rotate_left
  · cases h
  rename_i c5
  refine ⟨okB_iff.1 c5, ?_⟩
  have hl : l.length = 12 + 24 * cnt l 0 + 12 * cnt l 1 + 32 * cnt l 2 := by omega
  have hc : ∀ i, i < 3 → fourB ((cnt l i : Nat) : Int) = (l.drop (4 * i)).take 4 := fun i hi => by
    have h1 := num4_bytes (l := l) (o := 4 * i) (by omega)
    have h2 := num4_in l (4 * i)
    unfold cnt
    rw [Int.toNat_of_nonneg h2.1]
    rw [Int.emod_eq_of_lt h2.1 h2.2] at h1
    exact h1
  have hH : headB (cnt l 0) (cnt l 1) (cnt l 2) = (l.drop 0).take 12 := by
    unfold headB
    rw [hc 0 (by omega), hc 1 (by omega), hc 2 (by omega), show (12 : Nat) = 4 + 4 + 4 from rfl, take_split, take_split]
  have hP : ptsB (readP l) (cnt l 0) = (l.drop 12).take (24 * cnt l 0) := seq_bytes fun i hi => by
    unfold vecB
    rw [show (24 : Nat) = 8 + 8 + 8 from rfl, take_split, take_split]
    have q : ∀ j, j < 3 → eightB (dI (readP l i j)) = (l.drop (12 + (8 + 8 + 8) * i + 8 * j)).take 8 := fun j hj => num8_bytes (by omega)
    exact congr (congrArg _ (congr (congrArg _ (q 0 (by omega))) (q 1 (by omega)))) (q 2 (by omega))
  have hT : trisB (readT l (cnt l 0)) (cnt l 1) = (l.drop (12 + 24 * cnt l 0)).take (12 * cnt l 1) := seq_bytes fun i hi => by
    unfold triB
    rw [show (12 : Nat) = 4 + 4 + 4 from rfl, take_split, take_split]
    have q : ∀ j, j < 3 → fourB (dI (readT l (cnt l 0) i j) % 4294967296) = (l.drop (4 + 4 + 4 + 24 * cnt l 0 + (4 + 4 + 4) * i + 4 * j)).take 4 := fun j hj => num4_bytes (by omega)
    exact congr (congrArg _ (congr (congrArg _ (q 0 (by omega))) (q 1 (by omega)))) (q 2 (by omega))
  have hB : ballsB (readQ l (cnt l 0) (cnt l 1)) (cnt l 2) = (l.drop (12 + 24 * cnt l 0 + 12 * cnt l 1)).take (32 * cnt l 2) := seq_bytes fun i hi => by
    unfold vecB
    rw [show (32 : Nat) = 8 + 8 + 8 + 8 from rfl, take_split, take_split, take_split]
    have q : ∀ j, j < 4 → eightB (dI (readQ l (cnt l 0) (cnt l 1) i j)) = (l.drop (12 + 24 * cnt l 0 + 12 * cnt l 1 + (8 + 8 + 8 + 8) * i + 8 * j)).take 8 := fun j hj => num8_bytes (by omega)
    exact congr (congrArg _ (congr (congrArg _ (congr (congrArg _ (q 0 (by omega))) (q 1 (by omega)))) (q 2 (by omega)))) (q 3 (by omega))
  unfold meshB
  rw [hH, hP, hT, hB]
  have t1 := take_split l 0 12 (24 * cnt l 0)
  have t2 := take_split l 0 (12 + 24 * cnt l 0) (12 * cnt l 1)
  have t3 := take_split l 0 (12 + 24 * cnt l 0 + 12 * cnt l 1) (32 * cnt l 2)
  simp only [Nat.zero_add] at t1 t2 t3
  rw [← t1, ← t2, ← t3, ← hl, List.drop_zero, List.take_length]
attribute [local irreducible] evFunc
theorem BR_nbM {b : Bool} {A B : Prop} : BR (!b) A B = BR b B A := by cases b <;> simp [BR]
theorem within_ok {x y z a b c d e f : Int} {K : Out → Prop} (h : K (.val (Bo (withinB (x, y, z) (a, b, c) (d, e, f))))) : evFunc Try.prog ΓG noAnn 10 9 14 [V3 x y z, .agg [I64 a, I64 b, I64 c, I64 d, I64 e, I64 f]] [] (inK none K) := by
  rw [vcWithin]
  have key : ∀ q : Bool, withinB (x, y, z) (a, b, c) (d, e, f) = q → K (.val (Bo q)) := fun q hq => hq ▸ h
  refine BR_d (fun e1 => BR_d (fun e2 => BR_d (fun e3 => BR_d (fun e4 => BR_d (fun e5 => BR_d (fun e6 => ⟨trivial, key _ ?_⟩) fun e6 => ⟨trivial, key _ ?_⟩) fun e5 => ⟨trivial, key _ ?_⟩) fun e4 => ⟨trivial, key _ ?_⟩) fun e3 => ⟨trivial, key _ ?_⟩) fun e2 => ⟨trivial, key _ ?_⟩) fun e1 => ⟨trivial, key _ ?_⟩
  all_goals simp only [withinB, decide_true, decide_false, Bool.and_true, Bool.and_false, Bool.false_and, Bool.true_and, *]
theorem pick_ok {n m : Int} {K : Out → Prop} (hn : In64 n) (hm : In64 m) (h : ∀ r, r = pickZ n m → K (.val (I64 r))) : evFunc Try.prog ΓG noAnn 10 9 13 [I64 n, I64 m] [] (inK none K) := by
  rw [vcPick]
  refine BR_d (fun c => ⟨trivial, h _ (by unfold pickZ; rw [if_pos c])⟩) fun c => BR_d (fun c1 => BR_n (by omega) ⟨trivial, h _ ?_⟩) fun c1 => BR_n (by omega) ⟨trivial, h _ ?_⟩
  · unfold In64 at hn hm
    have hb := Int.tmod_lt_of_pos (-(n + 1)) (show 0 < m by omega)
    have hc := Int.tmod_nonneg m (show 0 ≤ -(n + 1) by omega)
    unfold pickZ
    rw [if_neg c, if_pos c1, w64 (n := m - 1) (by unfold In64; omega), w64 (n := n + 1) (by unfold In64; omega), w64 (n := 0 - (n + 1)) (by unfold In64; omega), show 0 - (n + 1) = -(n + 1) by omega, w64 (by unfold In64; omega)]
  · unfold pickZ
    rw [if_neg c, if_neg c1]
theorem sameBytes_ok {a b : List UInt8} {K : Out → Prop} (h : K (.val (Bo (a == b)))) : evFunc Try.prog ΓG noAnn 10 9 20 [.d (.bytes a), .d (.bytes b)] [] (inK none K) := by
  rw [vcSameBytes]
  exact BR_b (fun e => ⟨trivial, by rw [e] at h; exact h⟩) fun e => ⟨trivial, by rw [e] at h; exact h⟩
theorem sameL_zero {sz : Nat} {g h : Nat → Nat → D} : sameL sz 0 g h = true := rfl
theorem sameL_succ {sz n : Nat} {g h : Nat → Nat → D} (e : sameL sz n g h = true) (e2 : allB (fun j => decide (dI (g n j) = dI (h n j))) sz = true) : sameL sz (n + 1) g h = true := allB_succ e e2
theorem sameL_fail {sz n k : Nat} {g h : Nat → Nat → D} (hk : k < n) (e2 : allB (fun j => decide (dI (g k j) = dI (h k j))) sz = false) : sameL sz n g h = false := allB_not hk e2
theorem and3 {a b c : Bool} : (a && (b && (c && true))) = (a && (b && c)) := by simp
theorem row3 {p q : Nat → Int} : (decide (p 0 = q 0) && (decide (p 1 = q 1) && (decide (p 2 = q 2) && true))) = allB (fun j => decide (p j = q j)) 3 := by
  simp only [allB, Bool.true_and, Bool.and_true]
  cases decide (p 0 = q 0) <;> cases decide (p 1 = q 1) <;> cases decide (p 2 = q 2) <;> rfl
theorem row4 {p q : Nat → Int} : (allB (fun j => decide (p j = q j)) 3 && (decide (p 3 = q 3) && true)) = allB (fun j => decide (p j = q j)) 4 := by
  rw [Bool.and_true, Bool.and_comm]; rfl
theorem loopL {sz n : Nat} {g h : Nat → Nat → D} {F : Nat → Bool} (hF : ∀ k, F k = allB (fun j => decide (dI (g k j) = dI (h k j))) sz) {P Q : Prop} (hP : sameL sz n g h = false → P) (hQ : sameL sz n g h = true → Q) :
    (∃ s : { k : Nat // k ≤ n ∧ sameL sz k g h = true }, (0 : Int) = (s.val : Int)) ∧ ∀ s : { k : Nat // k ≤ n ∧ sameL sz k g h = true }, n ≤ 9223372036854775807 →
      BR (decide ((s.val : Int) < (n : Int))) (BR (decide ((0 : Int) ≤ (s.val : Int) ∧ (s.val : Int) < (n : Int))) (BR (decide ((0 : Int) ≤ (s.val : Int) ∧ (s.val : Int) < (n : Int))) (BR (!F s.val) P (∃ s' : { k : Nat // k ≤ n ∧ sameL sz k g h = true }, n - s'.val < n - s.val ∧ IntKind.i64.wrap ((s.val : Int) + 1) = (s'.val : Int))) False) False) Q := by
  refine ⟨⟨⟨0, by omega, rfl⟩, rfl⟩, fun ⟨k, hk, hs⟩ hx => ?_⟩
  refine BR_d (fun lt => BR_y ⟨by omega, lt⟩ (BR_y ⟨by omega, lt⟩ ?_)) fun ge => ?_
  · have lt : (k : Int) < n := lt
    have hw : IntKind.i64.wrap ((k : Int) + 1) = ((k + 1 : Nat) : Int) := by rw [w64 (by unfold In64; omega)]; omega
    rw [BR_nbM, hF]
    exact BR_b (fun e => ⟨⟨k + 1, by omega, sameL_succ hs e⟩, by show n - (k + 1) < n - k; omega, hw⟩) fun e => hP (sameL_fail (k := k) (by omega) e)
  · have ge : ¬ (k : Int) < n := ge
    obtain rfl : k = n := by omega
    exact hQ hs
set_option maxHeartbeats 1000000 in
theorem sameMesh_ok {np nt nb np' nt' nb' : Nat} {p t b p' t' b' : Nat → Nat → Int} {K : Out → Prop}
    (h : K (.val (Bo (sameB np nt nb (fun i j => .int .i64 (p i j)) (fun i j => .int .i64 (t i j)) (fun i j => .int .i64 (b i j)) np' nt' nb' (fun i j => .int .i64 (p' i j)) (fun i j => .int .i64 (t' i j)) (fun i j => .int .i64 (b' i j)))))) :
    evFunc Try.prog ΓG annMl 10 9 21 [.agg [NL 3 np p, NL 3 nt t, NL 4 nb b], .agg [NL 3 np' p', NL 3 nt' t', NL 4 nb' b']] [] (inK none K) := by
  rw [vcSameMesh]
  simp only [row3, row4, Int.toNat_natCast, true_and, and_true, implies_true]
  have key : ∀ q : Bool, sameB np nt nb (fun i j => .int .i64 (p i j)) (fun i j => .int .i64 (t i j)) (fun i j => .int .i64 (b i j)) np' nt' nb' (fun i j => .int .i64 (p' i j)) (fun i j => .int .i64 (t' i j)) (fun i j => .int .i64 (b' i j)) = q → K (.val (Bo q)) := fun q hq => hq ▸ h
  unfold sameB at key
  intro _ _
  rw [BR_nbM]
  refine BR_d (fun c1 => ?_) fun c1 => key _ ?_
  rotate_left
  · rw [decide_eq_false (show ¬ np = np' by omega)]; rfl
  obtain rfl : np = np' := by omega
  intro _ _
  rw [BR_nbM]
  refine BR_d (fun c2 => ?_) fun c2 => key _ ?_
  rotate_left
  · rw [decide_eq_false (show ¬ nt = nt' by omega)]; simp
  obtain rfl : nt = nt' := by omega
  intro _ _
  rw [BR_nbM]
  refine BR_d (fun c3 => ?_) fun c3 => key _ ?_
  rotate_left
  · rw [decide_eq_false (show ¬ nb = nb' by omega)]; simp
  obtain rfl : nb = nb' := by omega
  simp only [decide_true, Bool.true_and] at key
  refine loopL (F := fun k => allB (fun j => decide (p k j = p' k j)) 3) (fun k => rfl) (fun e => key _ (by rw [e]; rfl)) fun e1 => ?_
  rw [e1, Bool.true_and] at key
  refine loopL (F := fun k => allB (fun j => decide (t k j = t' k j)) 3) (fun k => rfl) (fun e => key _ (by rw [e]; rfl)) fun e2 => ?_
  rw [e2, Bool.true_and] at key
  exact loopL (F := fun k => allB (fun j => decide (b k j = b' k j)) 4) (fun k => rfl) (fun e => key _ e) fun e3 => key _ e3
theorem ΓL0_ok : GammaOK Try.prog ΓL0 := by
  intro f s h
  unfold ΓL0 at h
  split at h
  · cases h
  · cases h
    exact ΓE2_ok 16 bytesSpec rfl
  · cases h
    exact ΓE2_ok 18 mreadSpec rfl
  · cases h -- @n{mesh.Box}@
    refine ⟨pure_mono (ΓM1_ok 12 mboxSpec rfl).1 fun xs K hb => ?_, pureSpec_calm fun xs => ?_⟩
    · split at hb
      · exact ⟨hb.1, hb.2 _ rfl⟩
      · exact hb.elim
    · split
      · exact kd_and (kd_all (E := fun B K => K (.val (.agg [_, _, _, _, _, _]))) (kd_ret _))
      · exact kd_false
  · cases h
    exact ΓQ_ok 19 copySpec rfl
  · cases h -- @n{lightwelllow.SameBytes}@
    refine ⟨pureSpec_ok (nl := none) (evFunc_sound ΓG_ok noAnn 10 9) fun xs K h => ?_, pureSpec_calm fun xs => ?_⟩
    · split at h
      · exact sameBytes_ok h
      · exact h.elim
    · repeat' (first | exact kd_ret _ | exact kd_false | split)
  · cases h -- @n{lightwelllaw12.within}@
    refine ⟨pureSpec_ok (nl := none) (evFunc_sound ΓG_ok noAnn 10 9) fun xs K h => ?_, pureSpec_calm fun xs => ?_⟩
    · split at h
      · exact within_ok h
      · exact h.elim
    · repeat' (first | exact kd_ret _ | exact kd_false | split)
  · cases h -- @n{lightwelllow.Pick}@
    refine ⟨pureSpec_ok (nl := none) (evFunc_sound ΓG_ok noAnn 10 9) fun xs K h => ?_, pureSpec_calm fun xs => ?_⟩
    · split at h
      · obtain ⟨h1, h⟩ := req h
        obtain ⟨h2, h⟩ := req h
        exact pick_ok (of_inI64 h1) (of_inI64 h2) h
      · exact h.elim
    · split
      · exact kd_br (kd_br (kd_all (E := fun r K => K (.val (I64 r))) (kd_ret _)) kd_false) kd_false
      · exact kd_false
  · cases h
    exact ΓQa_ok 10 trueSpec rfl
  · exact ΓE1_ok _ _ h
theorem ΓL1_ok : GammaOK Try.prog ΓL1 := by
  intro f s h
  unfold ΓL1 at h
  split at h
  · cases h
  · cases h -- @n{lightwelllow.SameMesh}@
    refine ⟨pureSpec_ok (nl := none) (evN_sound (evFunc_sound ΓG_ok annMl 10 9)) fun xs K h => ?_, pureSpec_calm fun xs => ?_⟩
    · split at h
      · rename_i np gp nt gt nb gb np' gp' nt' gt' nb' gb'
        obtain ⟨hm, hm', h⟩ := h
        refine ⟨[.agg [NL 3 np fun i j => dI (gp i j), NL 3 nt fun i j => dI (gt i j), NL 4 nb fun i j => dI (gb i j)], .agg [NL 3 np' fun i j => dI (gp' i j), NL 3 nt' fun i j => dI (gt' i j), NL 4 nb' fun i j => dI (gb' i j)]], fun c vs hd => dens_head (fun v => dens_mesh hm) (fun vs => dens_head (fun v => dens_mesh hm') fun vs h => h) hd, ?_⟩
        refine sameMesh_ok ?_
        exact h
      · exact h.elim
    · repeat' (first | exact kd_ret _ | exact kd_false | refine kd_and ?_ | refine kd_br ?_ ?_ | split)
  · exact ΓL0_ok _ _ h
/-! ## What is handed in -/
theorem wfI {n : Int} (h : (Lit.int .i64 n).wf = true) : In64 n := by have := wf_i64' h; unfold In64; omega
theorem okL3 {n : Nat} {g : Nat → Nat → D} (h : ∀ i, i < n → fitsAll [.int .i64, .int .i64, .int .i64] (g i)) : okL 3 n g := by
  intro i hi j hj
  obtain ⟨⟨a, e0, q0⟩, ⟨b, e1, q1⟩, ⟨c, e2, q2⟩, _⟩ := h i hi
  rcases j with _ | _ | _ | j
  · rw [e0]; exact ⟨rfl, wfI q0⟩
  · rw [show g i 1 = _ from e1]; exact ⟨rfl, wfI q1⟩
  · rw [show g i 2 = _ from e2]; exact ⟨rfl, wfI q2⟩
  · omega
theorem okL4 {n : Nat} {g : Nat → Nat → D} (h : ∀ i, i < n → fitsAll [.int .i64, .int .i64, .int .i64, .int .i64] (g i)) : okL 4 n g := by
  intro i hi j hj
  obtain ⟨⟨a, e0, q0⟩, ⟨b, e1, q1⟩, ⟨c, e2, q2⟩, ⟨d, e3, q3⟩, _⟩ := h i hi
  rcases j with _ | _ | _ | _ | j
  · rw [e0]; exact ⟨rfl, wfI q0⟩
  · rw [show g i 1 = _ from e1]; exact ⟨rfl, wfI q1⟩
  · rw [show g i 2 = _ from e2]; exact ⟨rfl, wfI q2⟩
  · rw [show g i 3 = _ from e3]; exact ⟨rfl, wfI q3⟩
  · omega
theorem in_mesh {v : Value} {w : World} (h : InArg Try.prog w 26 v) : ∃ (np nt nb : Nat) (p t b : Nat → Nat → Int), ((∀ i, i < np → ∀ j, j < 3 → In64 (p i j)) ∧ (∀ i, i < nt → ∀ j, j < 3 → In64 (t i j)) ∧ (∀ i, i < nb → ∀ j, j < 4 → In64 (b i j))) ∧
    den ⟨w, [], []⟩ (.agg [NL 3 np p, NL 3 nt t, NL 4 nb b]) v := by
  obtain ⟨g, h1, h2⟩ := in_agg (ss := [.list [.int .i64, .int .i64, .int .i64], .list [.int .i64, .int .i64, .int .i64], .list [.int .i64, .int .i64, .int .i64, .int .i64]]) (by kernel_rfl) (by kernel_rfl) h
  obtain ⟨⟨np, gp, e0, _, f0⟩, ⟨nt, gt, e1, _, f1⟩, ⟨nb, gb, e2, _, f2⟩, _⟩ := h1
  have k0 := okL3 f0
  have k1 := okL3 f1
  have k2 := okL4 f2
  have e : ((List.range 3).map g).map SV.d = [.d (.list 3 np gp), .d (.list 3 nt gt), .d (.list 4 nb gb)] := by
    show [SV.d (g 0), .d (g 1), .d (g 2)] = _
    rw [e0, show g 1 = _ from e1, show g 2 = _ from e2]
    rfl
  have h3 : den ⟨w, [], []⟩ (.agg (((List.range 3).map g).map SV.d)) v := h2
  rw [e] at h3
  exact ⟨np, nt, nb, fun i j => dI (gp i j), fun i j => dI (gt i j), fun i j => dI (gb i j), ⟨fun i hi j hj => (k0 i hi j hj).2, fun i hi j hj => (k1 i hi j hj).2, fun i hi j hj => (k2 i hi j hj).2⟩,
    dens_agg (fun vs => dens_head (fun v => den_nums k0) (fun vs => dens_head (fun v => den_nums k1) (fun vs => dens_head (fun v => den_nums k2) fun vs h => h))) h3⟩
end Go.Proofs.Ytmadffhjgbpojaa.Fix

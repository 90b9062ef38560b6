/- Changes of bytes as plain data: their order, what they make, what leads back. No program in sight. -/
import Derived.Test.YtdfipecgalnioaaSplP
namespace Go.Proofs.Ytdfipecgalnioaa

/-- A change: its place, and the bytes that stand there then. -/
structure Kc where
  f : Int
  t : Int
  b : List Int
deriving DecidableEq

instance : Inhabited Kc := ⟨⟨0, 0, []⟩⟩

def aheadK (a b : Kc) : Bool := decide (a.f < b.f) || (a.f == b.f && decide (a.t < b.t))
def okK (c : Kc) : Bool := !(decide (c.f < 0) || decide (c.t < c.f))
/-- Does one begin ahead of the end of the one before? -/
def meetK : List Kc → Bool
  | [] => false
  | [_] => false
  | y :: c :: l => decide (c.f < y.t) || meetK (c :: l)
def srt (l : List Kc) : List Kc := sortF aheadK l
def errK (l : List Kc) : Int := if l.all okK then (if meetK (srt l) then 9 else 0) else 3

/-- The bytes from a place on, with changes from there on. -/
def outF (b : List Int) : Nat → List Kc → List Int
  | a, [] => b.drop a
  | a, c :: l => (b.drop a).take (c.f.toNat - a) ++ c.b ++ outF b c.t.toNat l
/-- The changes that lead back: n bytes have been put. -/
def backF (b : List Int) : Nat → Nat → List Kc → List Kc
  | _, _, [] => []
  | n, a, c :: l => ⟨(n + (c.f.toNat - a) : Nat), (n + (c.f.toNat - a) + c.b.length : Nat), (b.drop c.f.toNat).take (c.t.toNat - c.f.toNat)⟩ :: backF b (n + (c.f.toNat - a) + c.b.length) c.t.toNat l
/-- One behind the other, from a place on, up to another one. -/
def Lies : Nat → List Kc → Nat → Prop
  | a, [], n => a ≤ n
  | a, c :: l, n => (a : Int) ≤ c.f ∧ c.f ≤ c.t ∧ Lies c.t.toNat l n

def lastT : List Kc → Option Int
  | [] => none
  | [c] => some c.t
  | _ :: c :: l => lastT (c :: l)

theorem lies_of : ∀ (l : List Kc) (a : Nat) (n : Nat), l.all okK = true → meetK l = false → (∀ c, l.head? = some c → (a : Int) ≤ c.f) → a ≤ n → (∀ z, lastT l = some z → z ≤ n) → Lies a l n
  | [], a, n, _, _, _, h, _ => h
  | [c], a, n, ho, _, hh, _, hl => by
    simp [okK] at ho
    have h1 := hh c rfl
    have h2 := hl c.t rfl
    refine ⟨h1, by omega, ?_⟩
    show c.t.toNat ≤ n
    omega
  | c :: d :: l, a, n, ho, hm, hh, hn, hl => by
    have h1 := hh c rfl
    have ho' := ho
    simp only [List.all_cons, Bool.and_eq_true] at ho'
    have hc : okK c = true := ho'.1
    simp [okK] at hc
    simp only [meetK, Bool.or_eq_false_iff, decide_eq_false_iff_not] at hm
    refine ⟨h1, by omega, ?_⟩
    have hk : ∀ (l : List Kc) (c : Kc), (c :: l).all okK = true → meetK (c :: l) = false → ∃ z, lastT (c :: l) = some z ∧ c.t ≤ z := by
      intro l
      induction l with
      | nil => intro c _ _; exact ⟨_, rfl, Int.le_refl _⟩
      | cons e l ih =>
        intro c ho hm
        simp only [meetK, Bool.or_eq_false_iff, decide_eq_false_iff_not] at hm
        have ho1 : (e :: l).all okK = true := by rw [List.all_cons, Bool.and_eq_true] at ho; exact ho.2
        obtain ⟨z, hz, hle⟩ := ih e ho1 hm.2
        have he : okK e = true := by rw [List.all_cons, Bool.and_eq_true] at ho1; exact ho1.1
        simp [okK] at he
        exact ⟨z, hz, by omega⟩
    obtain ⟨z, hz, hle⟩ := hk (d :: l) c ho (by simp only [meetK, Bool.or_eq_false_iff, decide_eq_false_iff_not]; exact hm)
    have hzn := hl z hz
    refine lies_of (d :: l) c.t.toNat n (by rw [List.all_cons, Bool.and_eq_true] at ho; exact ho.2) hm.2 ?_ (by omega) (fun z' hz' => hl z' hz')
    intro e he
    simp at he
    subst he
    omega

theorem lies_le : ∀ (l : List Kc) (a n : Nat), Lies a l n → a ≤ n
  | [], _, _, h => h
  | c :: l, a, n, h => by
    have := lies_le l _ _ h.2.2
    have h1 := h.1
    have h2 := h.2.1
    omega
theorem lies_ok : ∀ (l : List Kc) (a n : Nat), Lies a l n → l.all okK = true
  | [], _, _, _ => rfl
  | c :: l, a, n, h => by
    rw [List.all_cons, Bool.and_eq_true]
    refine ⟨?_, lies_ok l _ n h.2.2⟩
    have h1 := h.1
    have h2 := h.2.1
    simp [okK]
    omega
theorem lies_meet : ∀ (l : List Kc) (a n : Nat), Lies a l n → meetK l = false
  | [], _, _, _ => rfl
  | [_], _, _, _ => rfl
  | c :: d :: l, a, n, h => by
    simp only [meetK, Bool.or_eq_false_iff, decide_eq_false_iff_not]
    have h1 := h.2.2.1
    have h0 := h.1
    have h2 := h.2.1
    exact ⟨by omega, lies_meet (d :: l) c.t.toNat n h.2.2⟩
theorem lies_chain : ∀ (l : List Kc) (a n : Nat), Lies a l n → ChainR aheadK l
  | [], _, _, _ => trivial
  | [_], _, _, _ => trivial
  | c :: d :: l, a, n, h => by
    refine ⟨?_, lies_chain (d :: l) c.t.toNat n h.2.2⟩
    have h0 := h.1
    have h1 := h.2.1
    have h2 := h.2.2.1
    have h3 := h.2.2.2.1
    simp only [aheadK, Bool.or_eq_false_iff, decide_eq_false_iff_not, Bool.and_eq_false_iff]
    refine ⟨by omega, ?_⟩
    by_cases e : d.f = c.f
    · right
      omega
    · left
      simpa using e
theorem lies_last : ∀ (l : List Kc) (a n : Nat), Lies a l n → ∀ z, lastT l = some z → z ≤ n
  | [], _, _, _, _, h => by cases h
  | [c], a, n, h, z, hz => by
    injection hz with hz
    subst hz
    have h2 : c.t.toNat ≤ n := h.2.2
    omega
  | c :: d :: l, a, n, h, z, hz => lies_last (d :: l) _ n h.2.2 z hz
theorem lies_srt {l : List Kc} {a n : Nat} (h : Lies a l n) : srt l = l := sortF_stays aheadK (lies_chain l a n h)
theorem lies_err {l : List Kc} {a n : Nat} (h : Lies a l n) : errK l = 0 := by
  unfold errK
  rw [lies_ok l a n h, lies_srt h, lies_meet l a n h]
  rfl

theorem outF_len : ∀ (l : List Kc) (b : List Int) (a : Nat), Lies a l b.length → (outF b a l).length ≤ b.length - a + (l.map (fun c => c.b.length)).sum
  | [], b, a, h => by simp [outF]
  | c :: l, b, a, h => by
    have h1 := h.1
    have h2 := h.2.1
    have h3 := outF_len l b _ h.2.2
    have h4 := lies_le l _ _ h.2.2
    unfold outF
    rw [List.length_append, List.length_append, List.length_take, List.length_drop, List.map_cons, List.sum_cons]
    omega

/-- The changes that lead back lie one behind the other. -/
theorem back_lies : ∀ (l : List Kc) (b : List Int) (n a : Nat), Lies a l b.length → Lies n (backF b n a l) (n + (outF b a l).length)
  | [], b, n, a, h => by
    show n ≤ _
    omega
  | c :: l, b, n, a, h => by
    have h1 := h.1
    have h2 := h.2.1
    have h3 := back_lies l b (n + (c.f.toNat - a) + c.b.length) c.t.toNat h.2.2
    have h4 := lies_le l _ _ h.2.2
    unfold backF outF
    refine ⟨by dsimp only; omega, by dsimp only; omega, ?_⟩
    dsimp only
    rw [List.length_append, List.length_append, List.length_take, List.length_drop]
    rw [Int.toNat_natCast]
    have e : n + (c.f.toNat - a) + c.b.length + (outF b c.t.toNat l).length = n + (min (c.f.toNat - a) (b.length - a) + c.b.length + (outF b c.t.toNat l).length) := by omega
    rw [← e]
    exact h3
/-- And make the bytes again. -/
theorem back_out : ∀ (l : List Kc) (b pre : List Int) (n a : Nat), pre.length = n → Lies a l b.length → outF (pre ++ outF b a l) n (backF b n a l) = b.drop a
  | [], b, pre, n, a, hp, h => by
    unfold backF outF
    rw [← hp, List.drop_left]
    rfl
  | c :: l, b, pre, n, a, hp, h => by
    have h1 := h.1
    have h2 := h.2.1
    have h4 := lies_le l _ _ h.2.2
    have hA : ((b.drop a).take (c.f.toNat - a)).length = c.f.toNat - a := by
      rw [List.length_take, List.length_drop]
      omega
    have h3 := back_out l b (pre ++ ((b.drop a).take (c.f.toNat - a) ++ c.b)) (n + (c.f.toNat - a) + c.b.length) c.t.toNat (by rw [List.length_append, List.length_append, hA, hp]; omega) h.2.2
    rw [show outF b a (c :: l) = (b.drop a).take (c.f.toNat - a) ++ c.b ++ outF b c.t.toNat l from rfl]
    rw [List.append_assoc] at h3
    unfold backF
    unfold outF
    dsimp only
    rw [Int.toNat_natCast, Int.toNat_natCast, h3]
    rw [← hp, List.drop_left, List.append_assoc, List.append_assoc ((b.drop a).take (c.f.toNat - a)) c.b, List.take_append_of_le_length (by rw [hA]; omega), List.take_of_length_le (by rw [hA]; omega)]
    have e1 : (b.drop a).take (c.f.toNat - a) ++ b.drop c.f.toNat = b.drop a := by
      conv => rhs; rw [← List.take_append_drop (c.f.toNat - a) (b.drop a)]
      rw [List.drop_drop, show a + (c.f.toNat - a) = c.f.toNat by omega]
    have e2 : (b.drop c.f.toNat).take (c.t.toNat - c.f.toNat) ++ b.drop c.t.toNat = b.drop c.f.toNat := by
      conv => rhs; rw [← List.take_append_drop (c.t.toNat - c.f.toNat) (b.drop c.f.toNat)]
      rw [List.drop_drop, show c.f.toNat + (c.t.toNat - c.f.toNat) = c.t.toNat by omega]
    rw [e2, e1]

/-- From the last one to the first one, each where it stands. -/
def refF (b : List Int) : List Kc → List Int
  | [] => b
  | c :: l => (refF b l).take c.f.toNat ++ c.b ++ (refF b l).drop c.t.toNat
theorem ref_out : ∀ (l : List Kc) (b : List Int) (a : Nat), Lies a l b.length → refF b l = b.take a ++ outF b a l
  | [], b, a, h => by
    unfold refF outF
    rw [List.take_append_drop]
  | c :: l, b, a, h => by
    have h1 := h.1
    have h2 := h.2.1
    have h4 := lies_le l _ _ h.2.2
    unfold refF outF
    have hl : (b.take c.t.toNat).length = c.t.toNat := by rw [List.length_take]; omega
    rw [ref_out l b c.t.toNat h.2.2, List.take_append_of_le_length (by rw [hl]; omega), List.take_take, Nat.min_eq_left (by omega)]
    rw [show (b.take c.t.toNat ++ outF b c.t.toNat l).drop c.t.toNat = outF b c.t.toNat l by
      conv => lhs; rw [show c.t.toNat = (b.take c.t.toNat).length from hl.symm]
      rw [hl, List.drop_append_of_le_length (by rw [hl]; omega), List.drop_eq_nil_of_le (by rw [hl]; omega), List.nil_append]]
    rw [← List.append_assoc, ← List.append_assoc]
    congr 2
    have : b.take c.f.toNat = b.take (a + (c.f.toNat - a)) := by congr 1; omega
    rw [this, List.take_add]

/-- How many at the beginning are the same. -/
def sameN : List Int → List Int → Nat
  | x :: a, y :: b => if x = y then 1 + sameN a b else 0
  | _, _ => 0
end Go.Proofs.Ytdfipecgalnioaa

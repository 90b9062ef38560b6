/- Layer 9: the document's Read in plain words gives what the program's does: plain laws. -/
import Derived.Test.YtnfcfpcpfnhcnaaDtdI
import Derived.Test.YtnfcfpcpfnhcnaaDtdL
namespace Go.Proofs.Ytnfcfpcpfnhcnaa
open Go.RowKit

theorem tk_one (P : List Prt) (a : Nat) {x : Int} (hx : x ≠ 0) : tk P a [x] = decide (kindN P a = x) := by
  unfold tk kindN
  rcases h : P[a]? with _ | p
  · have : P.drop a = [] := List.drop_eq_nil_of_le (List.getElem?_eq_none_iff.mp h)
    rw [this]
    simp
    omega
  · rw [drop_get h]
    simp
theorem tk_cons (P : List Prt) (a : Nat) {x y : Int} (hx : x ≠ 0) (ks : List Int) : tk P a (x :: y :: ks) = (decide (kindN P a = x) && tk P (a + 1) (y :: ks)) := by
  unfold tk kindN
  rcases h : P[a]? with _ | p
  · have : P.drop a = [] := List.drop_eq_nil_of_le (List.getElem?_eq_none_iff.mp h)
    rw [this]
    simp
    omega
  · rw [drop_get h]
    simp
def finN (P : List Prt) (nm pb sy sb : Prt) (k : Nat) : Hd := if kindN P k = 7 ∧ k + 1 = P.length then ⟨nm, pb, sy, sb, true⟩ else Hd.none_
def docIn (P : List Prt) (nm pb sy : Prt) (k : Nat) : Hd :=
  if kindN P k = 5 then
    (if kindN P (k + 1) = 6 then (if kindN P (k + 2) = 5 then finN P nm pb sy (nthP P (k + 1)) (blankN P (k + 3)) else Hd.none_)
    else if kindN P (k + 1) = 5 then finN P nm pb sy Prt.none_ (blankN P (k + 2)) else Hd.none_)
  else finN P nm pb sy Prt.none_ k
theorem kindN_lt {P : List Prt} {k : Nat} (h : kindN P k ≠ 0) : k < P.length := by
  unfold kindN at h
  rcases h1 : P[k]? with _ | p
  · rw [h1] at h
    exact absurd rfl h
  · exact (List.getElem?_eq_some_iff.mp h1).1
theorem after_blank (P : List Prt) (k : Nat) : afterSp P k = blankN P k := by
  unfold afterSp blankN
  rw [tk_one P k (by decide)]
  simp
theorem docIn_eq (P : List Prt) (nm pb sy : Prt) (k : Nat) : restF P nm pb sy k = docIn P nm pb sy k := by
  have e7 : ∀ k, (tk P k [7] = true ∧ P.length ≤ k + 1) = (kindN P k = 7 ∧ k + 1 = P.length) := fun k => by
    rw [tk_one P k (by decide), decide_eq_true_iff]
    apply propext
    constructor
    · rintro ⟨h1, h2⟩
      have := kindN_lt (P := P) (k := k) (by omega)
      exact ⟨h1, by omega⟩
    · rintro ⟨h1, h2⟩
      exact ⟨h1, by omega⟩
  unfold restF docIn finN inD inSub inEnd blankN
  simp only [tk_one P _ (show (5 : Int) ≠ 0 by decide), tk_one P _ (show (6 : Int) ≠ 0 by decide), tk_one P _ (show (3 : Int) ≠ 0 by decide), decide_eq_true_iff]
  by_cases h5 : kindN P k = 5
  · simp only [if_pos h5]
    by_cases h6 : kindN P (k + 1) = 6
    · simp only [if_pos h6]
      by_cases h55 : kindN P (k + 2) = 5
      · simp only [show k + 1 + 1 = k + 2 from rfl, if_pos h55, show k + 2 + 1 = k + 3 from rfl, true_and, e7]
      · simp [show k + 1 + 1 = k + 2 from rfl, h55]
    · simp only [if_neg h6]
      by_cases h55 : kindN P (k + 1) = 5
      · simp only [if_pos h55, show k + 1 + 1 = k + 2 from rfl, true_and, e7]
      · simp [h55]
  · simp only [if_neg h5, true_and, e7]
theorem strNums_inj : ∀ (a b : List Int), (∀ x ∈ a, 0 ≤ x ∧ x < 128) → (∀ x ∈ b, 0 ≤ x ∧ x < 128) → strOfNums a = strOfNums b → a = b := by
  have key : ∀ (a b : List Int), (∀ x ∈ a, 0 ≤ x ∧ x < 128) → (∀ x ∈ b, 0 ≤ x ∧ x < 128) → (a.map fun n => UInt8.ofNat n.toNat) = (b.map fun n => UInt8.ofNat n.toNat) → a = b := by
    intro a
    induction a with
    | nil => intro b _ _ h; cases b with
      | nil => rfl
      | cons y b => simp at h
    | cons x a ih =>
      intro b ha hb h
      cases b with
      | nil => simp at h
      | cons y b =>
        rw [List.map_cons, List.map_cons] at h
        injection h with h1 h2
        have hx := ha x (List.mem_cons_self ..)
        have hy := hb y (List.mem_cons_self ..)
        have h3 := congrArg UInt8.toNat h1
        rw [UInt8.toNat_ofNat', UInt8.toNat_ofNat'] at h3
        have h4 : x = y := by omega
        rw [h4, ih b (fun z hz => ha z (List.mem_cons_of_mem _ hz)) (fun z hz => hb z (List.mem_cons_of_mem _ hz)) h2]
  intro a b ha hb h
  refine key a b ha hb ?_
  rw [← strOfNums_data, ← strOfNums_data, h]
/-- A text of plain runes is a word: as many runes, and it starts with it. -/
theorem isW_text {l : List Int} {K : Int} {F T : Nat} {s : ByteArray} (hT : T ≤ l.length) (hFT : F ≤ T) (hs : ∀ x ∈ strI s, 0 < x ∧ x < 128) (hlen : (strI s).length = s.size) (hback : strOfNums (strI s) = s) (hinj : ∀ a : List Int, (∀ x ∈ a, 0 ≤ x ∧ x < 128) → strOfNums a = s → a = strI s) :
    isW l ⟨K, F, T⟩ s = decide (strOfNums (textL l F T) = s) := by
  have hTL : (textL l F T).length = T - F := by unfold textL; rw [List.length_map, List.length_take, List.length_drop]; omega
  have hb : ∀ x ∈ textL l F T, 0 ≤ x ∧ x < 128 := by
    intro x hx
    unfold textL at hx
    obtain ⟨y, _, rfl⟩ := List.mem_map.mp hx
    unfold byF
    split <;> omega
  have hst : ∀ (p : List Int) (u : List Int), startsF p u = decide (u.take p.length = p) := by
    intro p
    induction p with
    | nil => intro u; cases u <;> simp [startsF]
    | cons a p ih =>
      intro u
      cases u with
      | nil => simp [startsF]
      | cons b u =>
        have h := ih u
        unfold startsF at h ⊢
        rw [List.isPrefixOf, h]
        simp [Bool.decide_and, eq_comm, Bool.beq_eq_decide_eq]
  unfold isW
  rw [hst]
  dsimp only
  rw [Int.toNat_natCast, hlen, ← Bool.decide_and, decide_eq_decide]
  constructor
  · rintro ⟨h1, h2⟩
    have e1 : s.size = T - F := by omega
    rw [e1] at h2
    unfold textL
    rw [h2, show (strI s).map byF = strI s from (List.map_congr_left (g := id) (fun x hx => by unfold byF; rw [if_pos (hs x hx)]; rfl)).trans (List.map_id _)]
    exact hback
  · intro h
    have h1 := hinj _ hb h
    have h2 : s.size = T - F := by rw [← hlen, ← h1, hTL]
    refine ⟨by omega, ?_⟩
    rw [h2, ← h1]
    unfold textL
    refine ((List.map_congr_left (g := id) (fun x hx => ?_)).trans (List.map_id _)).symm
    have h3 : byF x ∈ strI s := by rw [← h1]; exact List.mem_map_of_mem hx
    have h4 := (hs _ h3).1
    unfold byF at h4 ⊢
    split
    · rfl
    · rename_i hn
      rw [if_neg hn] at h4
      omega
theorem word_facts {s : ByteArray} (h : (strI s).all (fun x => decide (0 < x) && decide (x < 128)) = true) (hl : (strI s).length = s.size) (hb : strOfNums (strI s) = s) {l : List Int} {K : Int} {F T : Nat} (hT : T ≤ l.length) (hFT : F ≤ T) :
    isW l ⟨K, F, T⟩ s = decide (strOfNums (textL l F T) = s) := by
  have h' : ∀ x ∈ strI s, 0 < x ∧ x < 128 := fun x hx => by
    have := List.all_eq_true.mp h x hx
    simpa using this
  refine isW_text hT hFT h' hl hb (fun a ha he => strNums_inj a _ ha (fun x hx => ⟨by have := h' x hx; omega, (h' x hx).2⟩) (by rw [he, hb]))
theorem isW_sys {l : List Int} {K : Int} {F T : Nat} (hT : T ≤ l.length) (hFT : F ≤ T) : isW l ⟨K, F, T⟩ bSYS = decide (strOfNums (textL l F T) = bSYS) :=
  word_facts (by decide +kernel) (by decide +kernel) (by decide +kernel) hT hFT
theorem isW_pub {l : List Int} {K : Int} {F T : Nat} (hT : T ≤ l.length) (hFT : F ≤ T) : isW l ⟨K, F, T⟩ bPUB = decide (strOfNums (textL l F T) = bPUB) :=
  word_facts (by decide +kernel) (by decide +kernel) (by decide +kernel) hT hFT
def txN (l : List Int) (p : Prt) : ByteArray := strOfNums (textL l p.f.toNat p.t.toNat)
def docOut (l : List Int) (P : List Prt) : OutR :=
  if kindN P 3 = 3 ∧ kindN P 4 = 2 then
    (if kindN P 5 = 3 ∧ kindN P 6 = 4 ∧ (txN l (nthP P 4) = bSYS ∨ txN l (nthP P 4) = bPUB) then
      (if txN l (nthP P 4) = bPUB then
        (if kindN P 7 = 3 ∧ kindN P 8 = 4 ∧ pubOK l (nthP P 6) = true then ⟨true, 9, nthP P 6, nthP P 8⟩ else ⟨false, 0, Prt.none_, Prt.none_⟩)
      else ⟨true, 7, Prt.none_, nthP P 6⟩)
    else ⟨false, 0, Prt.none_, Prt.none_⟩)
  else ⟨true, 3, Prt.none_, Prt.none_⟩
def docF (l : List Int) (P : List Prt) : Hd :=
  if kindN P 0 = 1 ∧ kindN P 1 = 3 ∧ kindN P 2 = 2 then
    (if (docOut l P).ok = true then docIn P (nthP P 2) (docOut l P).pb (docOut l P).sy (blankN P (docOut l P).a) else Hd.none_)
  else Hd.none_
theorem docOut_eq {l : List Int} {P : List Prt} (hw : kindN P 4 = 2 → isW l (nthP P 4) bSYS = decide (txN l (nthP P 4) = bSYS) ∧ isW l (nthP P 4) bPUB = decide (txN l (nthP P 4) = bPUB)) :
    (outD l P 3).ok = (docOut l P).ok ∧ ((docOut l P).ok = true → outD l P 3 = docOut l P) := by
  have hne : bSYS ≠ bPUB := by decide +kernel
  unfold outD docOut
  simp only [tk_cons P _ (show (3 : Int) ≠ 0 by decide), tk_cons P _ (show (4 : Int) ≠ 0 by decide), tk_one P _ (show (2 : Int) ≠ 0 by decide), tk_one P _ (show (4 : Int) ≠ 0 by decide), Bool.and_eq_true, decide_eq_true_iff, Nat.reduceAdd]
  by_cases h34 : kindN P 3 = 3 ∧ kindN P 4 = 2
  · obtain ⟨w1, w2⟩ := hw h34.2
    simp only [if_pos h34, w1, w2, decide_eq_true_iff]
    by_cases hS : txN l (nthP P 4) = bSYS
    · have hP : ¬ txN l (nthP P 4) = bPUB := fun e => hne (hS.symm.trans e)
      simp only [if_pos hS, if_neg hP, hS, true_or, and_true]
      by_cases h56 : kindN P 5 = 3 ∧ kindN P 6 = 4
      · simp [h56, hne]
      · simp [h56]
    · by_cases hP : txN l (nthP P 4) = bPUB
      · have hn2 : ¬ bPUB = bSYS := fun e => hne e.symm
        simp only [if_neg hS, if_pos hP, hP, or_true, and_true]
        by_cases h5 : kindN P 5 = 3 <;> by_cases h6 : kindN P 6 = 4 <;> by_cases h7 : kindN P 7 = 3 <;> by_cases h8 : kindN P 8 = 4 <;> cases hb : pubOK l (nthP P 6) <;> simp [h5, h6, h7, h8, hn2, hb]
      · simp [hS, hP]
  · simp [if_neg h34]
theorem docF_eq {l : List Int} {P : List Prt} (hok : PartsOk l.length P) : readF l P = docF l P := by
  have hw : kindN P 4 = 2 → isW l (nthP P 4) bSYS = decide (txN l (nthP P 4) = bSYS) ∧ isW l (nthP P 4) bPUB = decide (txN l (nthP P 4) = bPUB) := by
    intro h4
    have hlt := kindN_lt (P := P) (k := 4) (by omega)
    have hp : P[4]? = some (nthP P 4) := by unfold nthP; rw [List.getElem?_eq_getElem hlt]; simp [List.getD, List.getElem?_eq_getElem hlt]
    obtain ⟨h1, h2, h3, _⟩ := hok _ (List.mem_of_getElem? hp)
    generalize nthP P 4 = p at h1 h2 h3 ⊢
    obtain ⟨pk, pf, pt⟩ := p
    dsimp only at h1 h2 h3
    obtain ⟨F, rfl⟩ := Int.eq_ofNat_of_zero_le h1
    obtain ⟨T, rfl⟩ := Int.eq_ofNat_of_zero_le (show 0 ≤ pt by omega)
    unfold txN
    dsimp only
    rw [Int.toNat_natCast, Int.toNat_natCast]
    exact ⟨isW_sys (by omega) (by omega), isW_pub (by omega) (by omega)⟩
  obtain ⟨e1, e2⟩ := docOut_eq hw
  unfold readF docF
  simp only [tk_cons P _ (show (1 : Int) ≠ 0 by decide), tk_cons P _ (show (3 : Int) ≠ 0 by decide), tk_one P _ (show (2 : Int) ≠ 0 by decide), Bool.and_eq_true, decide_eq_true_iff, Nat.reduceAdd]
  by_cases h0 : kindN P 0 = 1 ∧ kindN P 1 = 3 ∧ kindN P 2 = 2
  · rw [if_pos h0]
    by_cases hd : (docOut l P).ok = true
    · rw [if_pos hd, if_pos ⟨h0, e1.trans hd⟩, e2 hd, docIn_eq, after_blank]
    · rw [if_neg hd, if_neg (fun e => hd (e1 ▸ e.2))]
  · rw [if_neg h0, if_neg (fun e => h0 e.1)]
end Go.Proofs.Ytnfcfpcpfnhcnaa

/- Steps as lines, and read as they were, in plain words. No program in sight. -/
import Derived.Test.YtmcmicgdkdbgjaaDoorScrV
import Derived.Test.YtmcmicgdkdbgjaaDoorScrQ
import Derived.Test.YtmcmicgdkdbgjaaDoorScrI
namespace Go.Proofs.YtmcmicgdkdbgjaaDoor

def pathT : List Nat → Bs
  | [] => [46]
  | n :: l => decF n ++ l.flatMap fun m => 47 :: decF m
def pieceF (s : St) (c : UInt8) : Bs := if c = 112 then pathT s.p else if c = 113 then pathT s.q else if c = 110 then pathT [s.n] else if c = 97 then quotedF s.a else quotedF s.t
def fieldsT (s : St) (cs : Bs) : Bs := cs.flatMap fun c => 32 :: pieceF s c
def lineF (s : St) : Bs := wordOf s.k ++ fieldsT s (signOf s.k)
/-- A number that can be said. -/
def okN (x : Int) : Bool := decide (0 ≤ x ∧ x ≤ 999999999)
theorem okNat {n : Nat} : okN (n : Int) = true ↔ n < 1000000000 := by
  unfold okN
  rw [decide_eq_true_eq]
  omega
def hasC (sg : Bs) (c : UInt8) : Bool := sg.contains c
def restF (sg : Bs) (q0 n0 a0 t0 : Bool) : Bool := (hasC sg 113 || q0) && ((hasC sg 110 || n0) && ((hasC sg 97 || a0) && (hasC sg 116 || t0)))
theorem dec_byte {n : Nat} {b : UInt8} (h : b ∈ decF n) : 48 ≤ b.toNat ∧ b.toNat ≤ 57 := by
  have := dec_digits n b h
  rw [← sdig_eq] at this
  unfold sdig at this
  rwa [decide_eq_true_eq] at this
theorem numF_back {n : Nat} (h : n < 1000000000) : numF (decF n) = some n := by
  rw [numF_eq, if_neg, val_dec]
  rintro (h1 | h1 | h1 | h1)
  · have : (decF n).all isD = true := List.all_eq_true.2 (dec_digits n)
    rw [this] at h1
    cases h1
  · have := dec_max n 8 (by omega)
    omega
  · exact dec_ne n h1
  · rw [val_dec] at h1
    exact h1 rfl
theorem split_free {c : UInt8} : ∀ {w : Bs}, (∀ b ∈ w, b ≠ c) → splitF c w = [w]
  | [], _ => rfl
  | b :: w, h => by
    rw [splitF, if_neg (h b (by simp)), split_free fun x hx => h x (by simp [hx])]
theorem split_app {c : UInt8} {r : Bs} : ∀ {w : Bs}, (∀ b ∈ w, b ≠ c) → splitF c (w ++ c :: r) = w :: splitF c r
  | [], _ => by rw [List.nil_append, splitF, if_pos rfl]
  | b :: w, h => by
    rw [List.cons_append, splitF, if_neg (h b (by simp)), split_app fun x hx => h x (by simp [hx])]
theorem split_path : ∀ (l : List Nat) (n : Nat), splitF 47 (pathT (n :: l)) = decF n :: l.map decF
  | [], n => by
    have e : pathT [n] = decF n := by simp [pathT]
    rw [e, split_free (fun b hb e => by have := dec_byte hb; rw [e] at this; exact absurd this (by decide))]
    rfl
  | m :: l, n => by
    have e : pathT (n :: m :: l) = decF n ++ 47 :: pathT (m :: l) := by simp [pathT]
    rw [e, split_app (fun b hb e => by have := dec_byte hb; rw [e] at this; exact absurd this (by decide)), split_path l m]
    rfl
theorem all_back : ∀ l : List Nat, (∀ n ∈ l, n < 1000000000) → allF (l.map decF) = some l
  | [], _ => rfl
  | n :: l, h => by
    rw [List.map_cons, allF, numF_back (h n (by simp)), all_back l fun x hx => h x (by simp [hx])]
    rfl
theorem path_byte : ∀ (l : List Nat) (b : UInt8), b ∈ pathT l → 46 ≤ b.toNat ∧ b.toNat ≤ 57
  | [], b, h => by
    have : b = 46 := by simpa [pathT] using h
    rw [this]
    decide
  | n :: l, b, h => by
    unfold pathT at h
    rcases List.mem_append.1 h with h | h
    · have := dec_byte h
      omega
    · obtain ⟨m, _, h⟩ := List.mem_flatMap.1 h
      rcases List.mem_cons.1 h with h | h
      · rw [h]
        decide
      · have := dec_byte h
        omega
theorem path_back (l : List Nat) (h : ∀ n ∈ l, n < 1000000000) : pathF (pathT l) = some l := by
  cases l with
  | nil => rfl
  | cons n l =>
    unfold pathF
    rw [if_neg, split_path, show decF n :: l.map decF = (n :: l).map decF from rfl, all_back _ h]
    intro e
    have e : decF n ++ (l.flatMap fun m => 47 :: decF m) = [46] := e
    cases hd : decF n with
    | nil => exact dec_ne n hd
    | cons b r =>
      rw [hd, List.cons_append] at e
      have hb : b = 46 := (List.cons.inj e).1
      have := dec_byte (n := n) (b := b) (by rw [hd]; simp)
      rw [hb] at this
      exact absurd this (by decide)
theorem esc_byte {b x : UInt8} (h : x ∈ escOf b) : 32 ≤ x.toNat ∧ x.toNat ≤ 126 := by
  unfold escOf at h
  have hx : ∀ d : Fin 16, 32 ≤ (hexL d.val).toNat ∧ (hexL d.val).toNat ≤ 126 := by decide
  have hb := b.toNat_lt
  split at h
  · rename_i hc
    rcases List.mem_cons.1 h with h | h
    · rw [h]; decide
    · have h : x = b := by simpa using h
      rw [h]
      rcases hc with rfl | rfl <;> decide
  · split at h
    · simp only [List.mem_cons, List.not_mem_nil, or_false] at h
      rcases h with h | h | h | h
      · rw [h]; decide
      · rw [h]; decide
      · rw [h]; exact hx ⟨b.toNat / 16, by omega⟩
      · rw [h]; exact hx ⟨b.toNat % 16, by omega⟩
    · have h : x = b := by simpa using h
      rw [h]
      omega
theorem quoted_byte {s : Bs} {x : UInt8} (h : x ∈ quotedF s) : 32 ≤ x.toNat ∧ x.toNat ≤ 126 := by
  unfold quotedF at h
  rcases List.mem_cons.1 h with h | h
  · rw [h]; decide
  · rcases List.mem_append.1 h with h | h
    · obtain ⟨b, _, h⟩ := List.mem_flatMap.1 h
      exact esc_byte h
    · have h : x = 34 := by simpa using h
      rw [h]; decide
theorem piece_byte {s : St} {c x : UInt8} (h : x ∈ pieceF s c) : 32 ≤ x.toNat ∧ x.toNat ≤ 126 := by
  unfold pieceF at h
  split at h
  · have := path_byte _ _ h; omega
  · split at h
    · have := path_byte _ _ h; omega
    · split at h
      · have := path_byte _ _ h; omega
      · split at h <;> exact quoted_byte h
theorem toBlank_app {w r : Bs} (h : ∀ b ∈ w, b ≠ 32) (hr : r = [] ∨ r.head? = some 32) : toBlank (w ++ r) = w.length := by
  induction w with
  | nil =>
    cases r with
    | nil => rfl
    | cons b r =>
      have : b = 32 := by simpa using hr
      show toBlank (b :: r) = 0
      rw [toBlank, if_pos this]
  | cons b w ih =>
    rw [List.cons_append, toBlank, if_neg (h b (by simp)), ih fun x hx => h x (by simp [hx])]
    rfl
theorem fields_head (s : St) (cs : Bs) : fieldsT s cs = [] ∨ (fieldsT s cs).head? = some 32 := by
  cases cs with
  | nil => exact .inl rfl
  | cons c cs => exact .inr rfl
/-- A step in which what a sign names is another one's. -/
def upd (s o : St) (c : UInt8) : St := if c = 97 then { o with a := s.a } else if c = 116 then { o with t := s.t } else if c = 112 then { o with p := s.p } else if c = 113 then { o with q := s.q } else { o with n := s.n }
def St.okN (s : St) : Prop := (∀ n ∈ s.p, n < 1000000000) ∧ (∀ n ∈ s.q, n < 1000000000) ∧ s.n < 1000000000
theorem field_back (s o : St) (c : UInt8) (cs : Bs) (hs : s.okN) (hc : c = 112 ∨ c = 113 ∨ c = 110 ∨ c = 97 ∨ c = 116) : fieldF o c (32 :: (pieceF s c ++ fieldsT s cs)) = some (upd s o c, fieldsT s cs) := by
  obtain ⟨h1, h2, h3⟩ := hs
  have hr := fields_head s cs
  generalize fieldsT s cs = r at hr ⊢
  have hp : ∀ l : List Nat, toBlank (pathT l ++ r) = (pathT l).length := fun l => toBlank_app (fun b hb e => by have := path_byte l b hb; rw [e] at this; exact absurd this (by decide)) hr
  have ht : ∀ x : Bs, (x ++ r).take x.length = x := fun x => List.take_left' rfl
  have hd : ∀ x : Bs, (x ++ r).drop x.length = r := fun x => List.drop_left' rfl
  unfold fieldF
  dsimp only
  rw [if_neg (by simp)]
  rcases hc with rfl | rfl | rfl | rfl | rfl
  · rw [if_neg (by decide), if_neg (by decide), show pieceF s 112 = pathT s.p from rfl, hp, ht, hd, path_back _ h1]
    rfl
  · rw [if_neg (by decide), if_neg (by decide), show pieceF s 113 = pathT s.q from rfl, hp, ht, hd, path_back _ h2]
    rfl
  · rw [if_neg (by decide), if_neg (by decide), show pieceF s 110 = pathT [s.n] from rfl, hp, ht, hd, path_back _ (by simpa using h3)]
    rfl
  · rw [if_pos rfl, show pieceF s 97 = quotedF s.a from rfl, read_quoted]
    show some (_, (quotedF s.a ++ r).drop (quotedF s.a).length) = _
    rw [hd]
    rfl
  · rw [if_neg (by decide), if_pos rfl, show pieceF s 116 = quotedF s.t from rfl, read_quoted]
    show some (_, (quotedF s.t ++ r).drop (quotedF s.t).length) = _
    rw [hd]
    rfl
theorem fields_back (s : St) (hs : s.okN) : ∀ (cs : Bs) (o : St), (∀ c ∈ cs, c = 112 ∨ c = 113 ∨ c = 110 ∨ c = 97 ∨ c = 116) → fieldsF o cs (fieldsT s cs) = some (cs.foldl (upd s) o, [])
  | [], _, _ => rfl
  | c :: cs, o, h => by
    rw [fieldsF, show fieldsT s (c :: cs) = 32 :: (pieceF s c ++ fieldsT s cs) by simp [fieldsT], field_back s o c cs hs (h c (by simp))]
    exact fields_back s hs cs _ fun x hx => h x (by simp [hx])
def St.rest (s : St) (sg : Bs) : Bool := restF sg s.q.isEmpty (s.n == 0) s.a.isEmpty s.t.isEmpty
theorem word_byte : ∀ k : Fin 10, ∀ b ∈ wordOf k.val, 97 ≤ b.toNat ∧ b.toNat ≤ 122 := by decide
theorem sign_all : ∀ k : Fin 10, ∀ c ∈ signOf k.val, c = 112 ∨ c = 113 ∨ c = 110 ∨ c = 97 ∨ c = 116 := by decide
theorem line_take (s : St) (h9 : s.k ≤ 9) : toBlank (lineF s) = (wordOf s.k).length :=
  toBlank_app (fun b hb e => by have := word_byte ⟨s.k, by omega⟩ b hb; rw [e] at this; exact absurd this (by decide)) (fields_head s _)
theorem step_back (s : St) (h1 : 1 ≤ s.k) (h9 : s.k ≤ 9) (hs : s.okN) (hr : s.rest (signOf s.k) = true) : stepF (lineF s) = some s := by
  have ht : (lineF s).take (wordOf s.k).length = wordOf s.k := List.take_left' rfl
  have hd : (lineF s).drop (wordOf s.k).length = fieldsT s (signOf s.k) := List.drop_left' rfl
  unfold stepF
  rw [line_take s h9, ht, hd, kind_hit s.k h1 h9]
  dsimp only
  rw [if_neg (by omega), show signsL.getD s.k [] = signOf s.k from rfl, fields_back s hs _ _ (sign_all ⟨s.k, by omega⟩)]
  show some _ = _
  congr 1
  obtain ⟨k, p, q, n, a, t⟩ := s
  dsimp only at h1 h9 hr ⊢
  unfold St.rest restF at hr
  dsimp only at hr
  have hc : k = 1 ∨ k = 2 ∨ k = 3 ∨ k = 4 ∨ k = 5 ∨ k = 6 ∨ k = 7 ∨ k = 8 ∨ k = 9 := by omega
  rcases hc with rfl | rfl | rfl | rfl | rfl | rfl | rfl | rfl | rfl <;>
    · simp [hasC, signOf, signsL] at hr
      simp [signOf, signsL, upd, hr]
theorem line_byte {s : St} (h9 : s.k ≤ 9) {b : UInt8} (h : b ∈ lineF s) : 32 ≤ b.toNat ∧ b.toNat ≤ 126 := by
  rcases List.mem_append.1 h with h | h
  · have := word_byte ⟨s.k, by omega⟩ b h
    omega
  · obtain ⟨c, _, h⟩ := List.mem_flatMap.1 h
    rcases List.mem_cons.1 h with h | h
    · rw [h]; decide
    · exact piece_byte h
def textF (L : List St) : Bs := L.flatMap fun s => lineF s ++ [10]
theorem split_text : ∀ L : List St, (∀ s ∈ L, s.k ≤ 9) → splitF 10 (textF L) = L.map lineF ++ [[]]
  | [], _ => rfl
  | s :: L, h => by
    have e : textF (s :: L) = lineF s ++ 10 :: textF L := by simp [textF]
    rw [e, split_app (fun b hb e => by have := line_byte (h s (by simp)) hb; rw [e] at this; exact absurd this (by decide)), split_text L fun x hx => h x (by simp [hx])]
    rfl
def St.may (s : St) : Prop := 1 ≤ s.k ∧ s.k ≤ 9 ∧ s.okN ∧ s.rest (signOf s.k) = true
theorem word_ne : ∀ k : Fin 10, 1 ≤ k.val → wordOf k.val ≠ [] := by decide
theorem lines_back : ∀ (L : List St) (i : Nat), (∀ s ∈ L, s.may) → linesF i (L.map lineF ++ [[]]) = .ok L
  | [], i, _ => rfl
  | s :: L, i, h => by
    obtain ⟨h1, h9, h3, h4⟩ := h s (by simp)
    have hne : lineF s ≠ [] := fun e => word_ne ⟨s.k, by omega⟩ h1 (List.append_eq_nil_iff.1 e).1
    rw [List.map_cons, List.cons_append, linesF, if_neg hne, step_back s h1 h9 h3 h4]
    dsimp only
    rw [lines_back L (i + 1) fun x hx => h x (by simp [hx])]
theorem parse_back (L : List St) (h : ∀ s ∈ L, s.may) : parseF (textF L) = .ok L := by
  unfold parseF
  rw [split_text L fun s hs => (h s hs).2.1, lines_back L 1 h]
theorem path_len : ∀ l : List Nat, (∀ n ∈ l, n < 1000000000) → (pathT l).length ≤ 10 * l.length + 1
  | [], _ => by simp [pathT]
  | n :: l, h => by
    have h1 : ∀ l : List Nat, (∀ n ∈ l, n < 1000000000) → (l.flatMap fun m => 47 :: decF m).length ≤ 10 * l.length := by
      intro l
      induction l with
      | nil => intro _; simp
      | cons m l ih =>
        intro h
        have := ih fun x hx => h x (by simp [hx])
        have := dec_max m 8 (by have := h m (by simp); omega)
        rw [List.flatMap_cons, List.length_append, List.length_cons, List.length_cons]
        omega
    have := h1 l fun x hx => h x (by simp [hx])
    have := dec_max n 8 (by have := h n (by simp); omega)
    unfold pathT
    rw [List.length_append, List.length_cons]
    omega
end Go.Proofs.YtmcmicgdkdbgjaaDoor

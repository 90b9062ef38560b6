/- What a document says, al plain data: nodes al they lie in memory ('Nd'), al trees ('Tr'), and what the chapter says of them. No program in sight. -/
import Derived.Test.YtnlncamiaddhfaaBlk
namespace Go.Proofs.Ytnlncamiaddhfaa
open Go.RowKit

def eqS (x y : ByteArray) : Bool := x.toList == y.toList
theorem eqS_iff {x y : ByteArray} : eqS x y = true ↔ x = y := by
  unfold eqS
  rw [beq_iff_eq, ByteArray.toList_eq, ByteArray.toList_eq]
  exact ⟨fun h => ByteArray.ext (Array.toList_inj.1 h), fun h => by rw [h]⟩
theorem eqS_self (x : ByteArray) : eqS x x = true := eqS_iff.2 rfl

structure Bd where
  p : ByteArray
  u : ByteArray
def Bd.cells (x : Bd) : List Value := [.string x.p, .string x.u]
structure Nm where
  u : ByteArray
  l : ByteArray
  p : ByteArray
structure Att where
  n : Nm
  v : ByteArray
  h : Bool
def Att.cells (a : Att) : List Value := [.string a.n.u, .string a.n.l, .string a.n.p, .string a.v, .bool a.h]
def Nm.none_ : Nm := ⟨⟨#[]⟩, ⟨#[]⟩, ⟨#[]⟩⟩

/-- A node, its lists' places left out. -/
inductive Tr where
  | mk (k : Int) (n : Nm) (bs : List Bd) (al : List Att) (t g : ByteArray) (ks : List Tr)
/-- A node al it lies in memory. -/
inductive Nd where
  | mk (k : Int) (n : Nm) (bA : Option Addr) (bn bc : Nat) (bs : List Bd) (aA : Option Addr) (an ac : Nat) (al : List Att) (t g : ByteArray) (kA : Option Addr) (kn kc : Nat) (ks : List Nd)

noncomputable def Nd.tr (x : Nd) : Tr := Nd.rec (motive_1 := fun _ => Tr) (motive_2 := fun _ => List Tr) (fun k n _ _ _ bs _ _ _ al t g _ _ _ _ ih => .mk k n bs al t g ih) [] (fun _ _ a b => a :: b) x
theorem Nd.tr_mk (k : Int) (n : Nm) (bA : Option Addr) (bn bc : Nat) (bs : List Bd) (aA : Option Addr) (an ac : Nat) (al : List Att) (t g : ByteArray) (kA : Option Addr) (kn kc : Nat) (ks : List Nd) :
    (Nd.mk k n bA bn bc bs aA an ac al t g kA kn kc ks).tr = .mk k n bs al t g (ks.map Nd.tr) := by
  show Tr.mk k n bs al t g _ = _
  congr 1
  induction ks with
  | nil => rfl
  | cons y ys ih => exact congrArg (y.tr :: ·) ih
def Nd.cells : Nd → List Value
  | .mk k n bA bn bc _ aA an ac _ t g kA kn kc _ => [.int .i64 k, .string n.u, .string n.l, .string n.p, .slice bA bn bc, .slice aA an ac, .string t, .string g, .slice kA kn kc]
def Nd.val (x : Nd) : Value := .agg x.cells.toArray
theorem Nd.cells_len : ∀ x : Nd, x.cells.length = 9
  | .mk .. => rfl

theorem Nd.ind {P : Nd → Prop} (h : ∀ k n bA bn bc bs aA an ac al t g kA kn kc ks, (∀ x ∈ ks, P x) → P (.mk k n bA bn bc bs aA an ac al t g kA kn kc ks)) (x : Nd) : P x :=
  Nd.rec (motive_1 := P) (motive_2 := fun ks => ∀ x ∈ ks, P x) (fun k n bA bn bc bs aA an ac al t g kA kn kc ks ih => h k n bA bn bc bs aA an ac al t g kA kn kc ks ih) (by simp) (fun x xs hx hxs => by
    intro y hy
    rcases List.mem_cons.1 hy with rfl | hy
    · exact hx
    · exact hxs y hy) x
theorem Tr.ind {P : Tr → Prop} (h : ∀ k n bs al t g ks, (∀ x ∈ ks, P x) → P (.mk k n bs al t g ks)) (x : Tr) : P x :=
  Tr.rec (motive_1 := P) (motive_2 := fun ks => ∀ x ∈ ks, P x) (fun k n bs al t g ks ih => h k n bs al t g ks ih) (by simp) (fun x xs hx hxs => by
    intro y hy
    rcases List.mem_cons.1 hy with rfl | hy
    · exact hx
    · exact hxs y hy) x

/-- The node's lists lie where it says. -/
inductive Nd.ok (w : World) : Nd → Prop
  | mk {k n bA bn bc bs aA an ac al t g kA kn kc ks} : Sl w 2 bA bn bc (bs.flatMap Bd.cells) → Sl w 5 aA an ac (al.flatMap Att.cells) → Sl w 9 kA kn kc (ks.flatMap Nd.cells) → (∀ x, x ∈ ks → Nd.ok w x) → Nd.ok w (.mk k n bA bn bc bs aA an ac al t g kA kn kc ks)
theorem Nd.ok.kept {w w' : World} (kk : Kept w w') {x : Nd} (h : x.ok w) : x.ok w' := by
  induction h with
  | mk h1 h2 h3 _ ih => exact .mk (h1.kept kk) (h2.kept kk) (h3.kept kk) ih
theorem Nd.ok.parts {w : World} {k n bA bn bc bs aA an ac al t g kA kn kc ks} (h : Nd.ok w (.mk k n bA bn bc bs aA an ac al t g kA kn kc ks)) :
    Sl w 2 bA bn bc (bs.flatMap Bd.cells) ∧ Sl w 5 aA an ac (al.flatMap Att.cells) ∧ Sl w 9 kA kn kc (ks.flatMap Nd.cells) ∧ ∀ x, x ∈ ks → Nd.ok w x := by
  cases h with
  | mk h1 h2 h3 h4 => exact ⟨h1, h2, h3, h4⟩
/-- A node of a text. -/
def Nd.text (t : ByteArray) : Nd := .mk 3 .none_ none 0 0 [] none 0 0 [] t ⟨#[]⟩ none 0 0 []
def Tr.text (t : ByteArray) : Tr := .mk 3 .none_ [] [] t ⟨#[]⟩ []
theorem Nd.text_ok (w : World) (t : ByteArray) : (Nd.text t).ok w := .mk Sl.nil_ Sl.nil_ Sl.nil_ (by simp)
theorem Nd.text_tr (t : ByteArray) : (Nd.text t).tr = Tr.text t := by simp [Nd.text, Tr.text, Nd.tr_mk]
def Nd.none_ : Nd := .mk 0 .none_ none 0 0 [] none 0 0 [] ⟨#[]⟩ ⟨#[]⟩ none 0 0 []
theorem Nd.none_ok (w : World) : Nd.none_.ok w := .mk Sl.nil_ Sl.nil_ Sl.nil_ (by simp)

def Tr.kind : Tr → Int
  | .mk k _ _ _ _ _ _ => k
def Tr.txt : Tr → ByteArray
  | .mk _ _ _ _ t _ _ => t
def Tr.kids : Tr → List Tr
  | .mk _ _ _ _ _ _ ks => ks
def Nd.kind : Nd → Int
  | .mk k _ _ _ _ _ _ _ _ _ _ _ _ _ _ _ => k
def Nd.txt : Nd → ByteArray
  | .mk _ _ _ _ _ _ _ _ _ _ t _ _ _ _ _ => t
theorem Nd.kind_tr : ∀ x : Nd, x.tr.kind = x.kind
  | .mk .. => by simp [Nd.tr_mk, Tr.kind, Nd.kind]
theorem Nd.txt_tr : ∀ x : Nd, x.tr.txt = x.txt
  | .mk .. => by simp [Nd.tr_mk, Tr.txt, Nd.txt]

/-- How many nodes. -/
noncomputable def countT (x : Tr) : Nat := Tr.rec (motive_1 := fun _ => Nat) (motive_2 := fun _ => Nat) (fun _ _ _ _ _ _ _ ih => 1 + ih) 0 (fun _ _ a b => a + b) x
noncomputable def countL : List Tr → Nat
  | [] => 0
  | x :: xs => countT x + countL xs
theorem countT_mk (k : Int) (n : Nm) (bs : List Bd) (al : List Att) (t g : ByteArray) (ks : List Tr) : countT (.mk k n bs al t g ks) = 1 + countL ks := by
  show 1 + _ = _
  congr 1
  induction ks with
  | nil => rfl
  | cons y ys ih => exact congrArg (countT y + ·) ih
theorem countL_app : ∀ l l' : List Tr, countL (l ++ l') = countL l + countL l'
  | [], l' => by simp [countL]
  | x :: xs, l' => by rw [List.cons_append, countL, countL, countL_app xs l']; omega
theorem countL_take {l : List Tr} {k : Nat} {x : Tr} (h : l[k]? = some x) : countL (l.take (k + 1)) = countL (l.take k) + countT x := by
  rw [List.take_add_one, h, Option.toList_some, countL_app]
  simp [countL]
theorem countL_le : ∀ (l : List Tr) (k : Nat), countL (l.take k) ≤ countL l
  | [], k => by simp [countL]
  | x :: xs, 0 => by simp [countL]
  | x :: xs, k + 1 => by
    rw [List.take_succ_cons, countL, countL]
    have := countL_le xs k
    omega
theorem countL_mem : ∀ {l : List Tr} {x : Tr}, x ∈ l → countT x ≤ countL l
  | y :: ys, x, h => by
    rw [countL]
    rcases List.mem_cons.1 h with rfl | h
    · omega
    · have := countL_mem h
      omega

/-- Do two say the same? -/
def sameNm (a b : Nm) : Bool := eqS a.u b.u && eqS a.l b.l && eqS a.p b.p
def sameBd (a b : Bd) : Bool := eqS a.p b.p && eqS a.u b.u
def sameAtt (a b : Att) : Bool := sameNm a.n b.n && eqS a.v b.v && (a.h == b.h)
def sameBds : List Bd → List Bd → Bool
  | [], [] => true
  | x :: xs, y :: ys => sameBd x y && sameBds xs ys
  | _, _ => false
def sameAtts : List Att → List Att → Bool
  | [], [] => true
  | x :: xs, y :: ys => sameAtt x y && sameAtts xs ys
  | _, _ => false
noncomputable def sameT (x : Tr) : Tr → Bool := Tr.rec (motive_1 := fun _ => Tr → Bool) (motive_2 := fun _ => List Tr → Bool)
  (fun k n bs al t g _ ih y => match y with
    | .mk k' n' bs' al' t' g' ks' => decide (k = k') && sameNm n n' && eqS t t' && eqS g g' && sameBds bs bs' && sameAtts al al' && ih ks')
  (fun l => l.isEmpty)
  (fun _ _ f h l => match l with
    | [] => false
    | y :: ys => f y && h ys) x
noncomputable def sameL : List Tr → List Tr → Bool
  | [], l => l.isEmpty
  | x :: xs, l => match l with
    | [] => false
    | y :: ys => sameT x y && sameL xs ys
theorem sameT_mk (k : Int) (n : Nm) (bs : List Bd) (al : List Att) (t g : ByteArray) (ks : List Tr) (k' : Int) (n' : Nm) (bs' : List Bd) (al' : List Att) (t' g' : ByteArray) (ks' : List Tr) :
    sameT (.mk k n bs al t g ks) (.mk k' n' bs' al' t' g' ks') = (decide (k = k') && sameNm n n' && eqS t t' && eqS g g' && sameBds bs bs' && sameAtts al al' && sameL ks ks') := by
  show (_ && _) = _
  congr 1
  revert ks'
  induction ks with
  | nil => intro _; rfl
  | cons y ys ih =>
    intro ks'
    cases ks' with
    | nil => rfl
    | cons z zs => exact congrArg (sameT y z && ·) (ih zs)
theorem sameNm_self (a : Nm) : sameNm a a = true := by simp [sameNm, eqS_self]
theorem sameBds_self : ∀ l : List Bd, sameBds l l = true
  | [] => rfl
  | x :: xs => by simp [sameBds, sameBd, eqS_self, sameBds_self xs]
theorem sameAtts_self : ∀ l : List Att, sameAtts l l = true
  | [] => rfl
  | x :: xs => by simp [sameAtts, sameAtt, sameNm_self, eqS_self, sameAtts_self xs]
theorem sameL_self {l : List Tr} : (∀ x ∈ l, sameT x x = true) → sameL l l = true := by
  induction l with
  | nil => intro _; simp [sameL]
  | cons x xs ih =>
    intro h
    rw [sameL, h x (by simp), ih (fun y hy => h y (by simp [hy]))]
    rfl
theorem sameT_self (x : Tr) : sameT x x = true := by
  induction x using Tr.ind with
  | h k n bs al t g ks ih => simp [sameT_mk, sameNm_self, eqS_self, sameBds_self, sameAtts_self, sameL_self ih]

/-- Texts side by side al one. -/
def mergeStep (out : List Tr) (n : Tr) : List Tr :=
  if n.kind = 3 then
    if eqS n.txt ⟨#[]⟩ then out
    else match out.getLast? with
      | some m => if m.kind = 3 then out.dropLast ++ [Tr.text (m.txt ++ n.txt)] else out ++ [n]
      | none => out ++ [n]
  else out ++ [n]
def mergedT (l : List Tr) : List Tr := l.foldl mergeStep []
theorem merged_take {l : List Tr} {k : Nat} {x : Tr} (h : l[k]? = some x) : mergedT (l.take (k + 1)) = mergeStep (mergedT (l.take k)) x := by
  unfold mergedT
  rw [List.take_add_one, h, Option.toList_some, List.foldl_append]
  rfl
/-- No two texts side by side, none of nothing. -/
def Nrm : List Tr → Prop
  | [] => True
  | x :: xs => (x.kind = 3 → eqS x.txt ⟨#[]⟩ = false ∧ ∀ y, xs.head? = some y → y.kind ≠ 3) ∧ Nrm xs
theorem nrm_app : ∀ {l : List Tr} {x : Tr}, Nrm l → (x.kind = 3 → eqS x.txt ⟨#[]⟩ = false ∧ ∀ y, l.getLast? = some y → y.kind ≠ 3) → Nrm (l ++ [x])
  | [], x, _, h => ⟨fun hk => ⟨(h hk).1, by simp⟩, trivial⟩
  | y :: ys, x, ⟨h1, h2⟩, h => by
    refine ⟨fun hy => ⟨(h1 hy).1, ?_⟩, nrm_app h2 (fun hk => ⟨(h hk).1, fun z hz => (h hk).2 z ?_⟩)⟩
    · intro z hz
      cases ys with
      | nil =>
        simp at hz
        subst hz
        intro hx
        exact (h hx).2 y rfl hy
      | cons a b => exact (h1 hy).2 z (by simpa using hz)
    · cases ys with
      | nil => simp at hz
      | cons a b => simpa using hz
theorem nrm_split : ∀ {l l' : List Tr}, Nrm (l ++ l') → Nrm l ∧ Nrm l'
  | [], l', h => ⟨trivial, h⟩
  | x :: xs, l', ⟨h1, h2⟩ => by
    obtain ⟨h3, h4⟩ := nrm_split h2
    refine ⟨⟨fun hk => ⟨(h1 hk).1, fun y hy => (h1 hk).2 y ?_⟩, h3⟩, h4⟩
    cases xs with
    | nil => simp at hy
    | cons a b => simpa using hy
theorem nrm_pair : ∀ {l : List Tr} {i : Nat} {x y : Tr}, Nrm l → l[i]? = some x → l[i + 1]? = some y → x.kind = 3 → y.kind ≠ 3
  | [], _, _, _, _, h, _, _ => by simp at h
  | a :: l, 0, x, y, ⟨h1, _⟩, hx, hy, hk => by
    simp at hx
    subst hx
    exact (h1 hk).2 y (by rw [List.head?_eq_getElem?]; simpa using hy)
  | a :: l, i + 1, x, y, ⟨_, h2⟩, hx, hy, hk => nrm_pair h2 (by simpa using hx) (by simpa using hy) hk
theorem eqS_app {a b : ByteArray} (h : eqS b ⟨#[]⟩ = false) : eqS (a ++ b) ⟨#[]⟩ = false := by
  rw [Bool.eq_false_iff] at h ⊢
  intro h'
  apply h
  rw [eqS_iff] at h' ⊢
  have := congrArg ByteArray.size h'
  rw [ByteArray.size_append] at this
  have hb : b.size = 0 := by
    have e : (⟨#[]⟩ : ByteArray).size = 0 := rfl
    omega
  exact ByteArray.ext (Array.size_eq_zero_iff.1 hb)
theorem text_kind (t : ByteArray) : (Tr.text t).kind = 3 := rfl
theorem text_txt (t : ByteArray) : (Tr.text t).txt = t := rfl
theorem split_last {l : List Tr} {m : Tr} (h : l.getLast? = some m) : l = l.dropLast ++ [m] := by
  cases l with
  | nil => simp at h
  | cons a b =>
    have hne : a :: b ≠ [] := by simp
    rw [List.getLast?_eq_some_getLast hne] at h
    injection h with h
    rw [← h, List.dropLast_concat_getLast]
theorem nrm_step {out : List Tr} {n : Tr} (h : Nrm out) : Nrm (mergeStep out n) := by
  unfold mergeStep
  split
  · rename_i hk
    split
    · exact h
    · rename_i hne
      have hne' : eqS n.txt ⟨#[]⟩ = false := by simpa using hne
      split
      · rename_i m hm
        split
        · rename_i hmk
          have hs := split_last hm
          rw [hs] at h
          obtain ⟨h1, h2⟩ := nrm_split h
          refine nrm_app h1 (fun _ => ⟨by rw [text_txt]; exact eqS_app hne', fun y hy => ?_⟩)
          have hs2 := split_last hy
          rw [hs2, List.append_assoc] at h
          obtain ⟨_, h3⟩ := nrm_split h
          intro hy3
          exact (h3.1 hy3).2 m rfl hmk
        · rename_i hmk
          exact nrm_app h (fun _ => ⟨hne', fun y hy => by rw [hm] at hy; injection hy with hy; subst hy; exact hmk⟩)
      · rename_i hm
        exact nrm_app h (fun _ => ⟨hne', fun y hy => by rw [hm] at hy; cases hy⟩)
  · rename_i hk
    exact nrm_app h (fun hk' => absurd hk' hk)
theorem nrm_fold : ∀ (l : List Tr) {out : List Tr}, Nrm out → Nrm (l.foldl mergeStep out)
  | [], _, h => h
  | _ :: xs, _, h => nrm_fold xs (nrm_step h)
theorem nrm_merged (l : List Tr) : Nrm (mergedT l) := nrm_fold l trivial
theorem fold_nrm : ∀ (l out : List Tr), Nrm (out ++ l) → l.foldl mergeStep out = out ++ l
  | [], out, _ => by simp
  | x :: xs, out, h => by
    have hst : mergeStep out x = out ++ [x] := by
      unfold mergeStep
      split
      · rename_i hk
        have h2 := (nrm_split h).2
        rw [if_neg (by simp [(h2.1 hk).1])]
        split
        · rename_i m hm
          rw [if_neg]
          intro hmk
          have hs := split_last hm
          rw [hs, List.append_assoc] at h
          exact ((nrm_split h).2.1 hmk).2 x rfl hk
        · rfl
      · rfl
    rw [List.foldl_cons, hst, fold_nrm xs (out ++ [x]) (by rw [List.append_assoc]; exact h), List.append_assoc]
    rfl
theorem merged_nrm {l : List Tr} (h : Nrm l) : mergedT l = l := by
  have := fold_nrm l [] (by simpa using h)
  simpa [mergedT] using this
theorem merged_merged (l : List Tr) : mergedT (mergedT l) = mergedT l := merged_nrm (nrm_merged l)
theorem step_len (out : List Tr) (n : Tr) : (mergeStep out n).length ≤ out.length + 1 := by
  unfold mergeStep
  (repeat' split) <;> simp
theorem fold_len : ∀ (l out : List Tr), (l.foldl mergeStep out).length ≤ out.length + l.length
  | [], out => by simp
  | x :: xs, out => by
    have h1 := fold_len xs (mergeStep out x)
    have h2 := step_len out x
    rw [List.foldl_cons, List.length_cons]
    omega
theorem merged_len (l : List Tr) : (mergedT l).length ≤ l.length := by
  have := fold_len l []
  simpa [mergedT] using this
/-- How long the texts are together. -/
def sumS (l : List Tr) : Nat := (l.map (fun x => x.txt.size)).sum
theorem sumS_app (l l' : List Tr) : sumS (l ++ l') = sumS l + sumS l' := by simp [sumS]
theorem step_sum (out : List Tr) (n : Tr) : sumS (mergeStep out n) ≤ sumS out + n.txt.size := by
  unfold mergeStep
  split
  · split
    · omega
    · split
      · rename_i m hm
        have hs := split_last hm
        split
        · conv => rhs; rw [hs]
          rw [sumS_app, sumS_app]
          simp [sumS, text_txt, ByteArray.size_append]
          omega
        · rw [sumS_app]; simp [sumS]
      · rw [sumS_app]; simp [sumS]
  · rw [sumS_app]; simp [sumS]
theorem fold_sum : ∀ (l out : List Tr), sumS (l.foldl mergeStep out) ≤ sumS out + sumS l
  | [], out => by simp [sumS]
  | x :: xs, out => by
    have h1 := fold_sum xs (mergeStep out x)
    have h2 := step_sum out x
    have h3 : sumS (x :: xs) = x.txt.size + sumS xs := by simp [sumS]
    rw [List.foldl_cons]
    omega
theorem merged_sum (l : List Tr) : sumS (mergedT l) ≤ sumS l := by
  have := fold_sum l []
  simpa [mergedT, sumS] using this
theorem sumS_take (l : List Tr) (k : Nat) : sumS (l.take k) ≤ sumS l := by
  conv => rhs; rw [← List.take_append_drop k l]
  rw [sumS_app]
  omega
theorem sumS_mem {l : List Tr} {x : Tr} (h : x ∈ l) : x.txt.size ≤ sumS l := by
  induction l with
  | nil => cases h
  | cons y ys ih =>
    have h3 : sumS (y :: ys) = y.txt.size + sumS ys := by simp [sumS]
    rcases List.mem_cons.1 h with rfl | h
    · omega
    · have := ih h
      omega

/-- A node cut. -/
def cutT : Nat → Tr → Tr
  | 0, .mk k n bs al t g _ => .mk k n (bs.take 4) (al.take 6) t g []
  | d + 1, .mk k n bs al t g ks => .mk k n (bs.take 4) (al.take 6) t g ((ks.take 5).map (cutT d))
/-- Nodes that are not too great. -/
inductive Small : Tr → Prop
  | mk {k n bs al t g ks} : bs.length ≤ 100 → al.length ≤ 100 → ks.length ≤ 100 → (∀ x, x ∈ ks → Small x) → Small (.mk k n bs al t g ks)
theorem cut_small : ∀ (d : Nat) (x : Tr), Small (cutT d x)
  | 0, .mk k n bs al t g ks => .mk (by simp; omega) (by simp; omega) (by simp) (by simp)
  | d + 1, .mk k n bs al t g ks => .mk (by simp; omega) (by simp; omega) (by simp; omega) (by
      intro x hx
      obtain ⟨y, _, rfl⟩ := List.mem_map.1 hx
      exact cut_small d y)
theorem countL_bd {b : Nat} : ∀ {l : List Tr}, (∀ x ∈ l, countT x ≤ b) → countL l ≤ l.length * b
  | [], _ => by simp [countL]
  | x :: xs, h => by
    have h1 := countL_bd (l := xs) (fun y hy => h y (by simp [hy]))
    have h2 := h x (by simp)
    rw [countL, List.length_cons, Nat.add_mul]
    omega
theorem cut_count : ∀ (d : Nat) (x : Tr), countT (cutT d x) ≤ 6 ^ d
  | 0, .mk k n bs al t g ks => by simp [cutT, countT_mk, countL]
  | d + 1, .mk k n bs al t g ks => by
    have h : countL ((ks.take 5).map (cutT d)) ≤ ((ks.take 5).map (cutT d)).length * 6 ^ d := countL_bd (by
      intro x hx
      obtain ⟨y, _, rfl⟩ := List.mem_map.1 hx
      exact cut_count d y)
    have h5 : ((ks.take 5).map (cutT d)).length ≤ 5 := by simp; omega
    have h6 : ((ks.take 5).map (cutT d)).length * 6 ^ d ≤ 5 * 6 ^ d := Nat.mul_le_mul_right _ h5
    have h7 : 0 < 6 ^ d := Nat.pow_pos (by omega)
    rw [cutT, countT_mk, Nat.pow_succ]
    omega
/-- Texts within a bound. -/
inductive Txts (b : Nat) : Tr → Prop
  | mk {k n bs al t g ks} : t.size ≤ b → (∀ x, x ∈ ks → Txts b x) → Txts b (.mk k n bs al t g ks)
theorem cut_txts {b : Nat} : ∀ (d : Nat) {x : Tr}, Txts b x → Txts b (cutT d x)
  | 0, .mk k n bs al t g ks, .mk h _ => .mk h (by simp)
  | d + 1, .mk k n bs al t g ks, .mk h hk => .mk h (by
      intro x hx
      obtain ⟨y, hy, rfl⟩ := List.mem_map.1 hx
      exact cut_txts d (hk y (List.mem_of_mem_take hy)))
theorem Txts.txt {b : Nat} {x : Tr} (h : Txts b x) : x.txt.size ≤ b := by
  cases h with
  | mk h _ => exact h
theorem txts_sum {b : Nat} : ∀ {l : List Tr}, (∀ x ∈ l, Txts b x) → sumS l ≤ l.length * b
  | [], _ => by simp [sumS]
  | x :: xs, h => by
    have h1 := txts_sum (l := xs) (fun y hy => h y (by simp [hy]))
    have h2 := (h x (by simp)).txt
    have h3 : sumS (x :: xs) = x.txt.size + sumS xs := by simp [sumS]
    rw [List.length_cons, Nat.add_mul]
    omega
end Go.Proofs.Ytnlncamiaddhfaa

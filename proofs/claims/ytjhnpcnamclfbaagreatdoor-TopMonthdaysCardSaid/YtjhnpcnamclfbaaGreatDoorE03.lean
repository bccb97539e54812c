/- The engine: an abstract machine that runs closed code of any program, and its proof: part 3 of 14. No condition. -/
import Derived.Test.YtjhnpcnamclfbaaGreatDoorE02
import Derived.Laws.Sem
import Derived.Laws.World
import Derived.Below
import Derived.Laws.Cells
import Derived.Laws.Rows
import Derived.Laws.Append
import Derived.Calls
/-! The engine's relation to the machine's worlds, and the tables' laws. No condition. -/
namespace Go.Eng
open Go.RowKit

/-! ### Tables -/
theorem pathF_zero : ∀ n, pathF n 0 = .z
  | 0 => rfl
  | _ + 1 => rfl
theorem pathF_fuel : ∀ (n m i : Nat), i ≤ n → i ≤ m → pathF n i = pathF m i
  | n, m, 0, _, _ => by rw [pathF_zero, pathF_zero]
  | n + 1, m + 1, j + 1, hn, hm => by
    show wayOf (Nat.mod j 4) (pathF n (Nat.div j 4)) = wayOf (Nat.mod j 4) (pathF m (Nat.div j 4))
    have h : Nat.div j 4 ≤ j := by show j / 4 ≤ j; omega
    rw [pathF_fuel n m (Nat.div j 4) (by omega) (by omega)]
  | 0, _, _ + 1, h, _ => absurd h (by omega)
  | _ + 1, 0, _ + 1, _, h => absurd h (by omega)
theorem path_a (j : Nat) : path (4 * j + 1) = .a (path j) := by
  have h1 : Nat.mod (4 * j + 0) 4 = 0 := by show (4 * j + 0) % 4 = 0; omega
  have h2 : Nat.div (4 * j + 0) 4 = j := by show (4 * j + 0) / 4 = j; omega
  show wayOf (Nat.mod (4 * j + 0) 4) (pathF (4 * j + 0) (Nat.div (4 * j + 0) 4)) = _
  rw [h1, h2, pathF_fuel (4 * j + 0) j j (by omega) (by omega)]; rfl
theorem path_b (j : Nat) : path (4 * j + 2) = .b (path j) := by
  have h1 : Nat.mod (4 * j + 1) 4 = 1 := by show (4 * j + 1) % 4 = 1; omega
  have h2 : Nat.div (4 * j + 1) 4 = j := by show (4 * j + 1) / 4 = j; omega
  show wayOf (Nat.mod (4 * j + 1) 4) (pathF (4 * j + 1) (Nat.div (4 * j + 1) 4)) = _
  rw [h1, h2, pathF_fuel (4 * j + 1) j j (by omega) (by omega)]; rfl
theorem path_c (j : Nat) : path (4 * j + 3) = .c (path j) := by
  have h1 : Nat.mod (4 * j + 2) 4 = 2 := by show (4 * j + 2) % 4 = 2; omega
  have h2 : Nat.div (4 * j + 2) 4 = j := by show (4 * j + 2) / 4 = j; omega
  show wayOf (Nat.mod (4 * j + 2) 4) (pathF (4 * j + 2) (Nat.div (4 * j + 2) 4)) = _
  rw [h1, h2, pathF_fuel (4 * j + 2) j j (by omega) (by omega)]; rfl
theorem path_d (j : Nat) : path (4 * j + 4) = .d (path j) := by
  have h1 : Nat.mod (4 * j + 3) 4 = 3 := by show (4 * j + 3) % 4 = 3; omega
  have h2 : Nat.div (4 * j + 3) 4 = j := by show (4 * j + 3) / 4 = j; omega
  show wayOf (Nat.mod (4 * j + 3) 4) (pathF (4 * j + 3) (Nat.div (4 * j + 3) 4)) = _
  rw [h1, h2, pathF_fuel (4 * j + 3) j j (by omega) (by omega)]; rfl
theorem T.get_leaf {α : Type} (i : Nat) : (T.leaf : T α).get i = none := by
  unfold T.get
  cases path i <;> rfl
theorem T.get_zero {α : Type} (v : Option α) (a b c d : T α) : (T.node v a b c d).get 0 = v := rfl
theorem T.get_a {α : Type} (v : Option α) (a b c d : T α) (j : Nat) : (T.node v a b c d).get (4 * j + 1) = a.get j := by
  unfold T.get; rw [path_a]; rfl
theorem T.get_b {α : Type} (v : Option α) (a b c d : T α) (j : Nat) : (T.node v a b c d).get (4 * j + 2) = b.get j := by
  unfold T.get; rw [path_b]; rfl
theorem T.get_c {α : Type} (v : Option α) (a b c d : T α) (j : Nat) : (T.node v a b c d).get (4 * j + 3) = c.get j := by
  unfold T.get; rw [path_c]; rfl
theorem T.get_d {α : Type} (v : Option α) (a b c d : T α) (j : Nat) : (T.node v a b c d).get (4 * j + 4) = d.get j := by
  unfold T.get; rw [path_d]; rfl
theorem nat_split (i : Nat) : i = 0 ∨ (∃ j, i = 4 * j + 1) ∨ (∃ j, i = 4 * j + 2) ∨ (∃ j, i = 4 * j + 3) ∨ ∃ j, i = 4 * j + 4 := by
  rcases Nat.eq_zero_or_pos i with h | h
  · exact .inl h
  · have : i % 4 = 0 ∨ i % 4 = 1 ∨ i % 4 = 2 ∨ i % 4 = 3 := by omega
    rcases this with h | h | h | h
    · exact .inr (.inr (.inr (.inr ⟨i / 4 - 1, by omega⟩)))
    · exact .inr (.inl ⟨i / 4, by omega⟩)
    · exact .inr (.inr (.inl ⟨i / 4, by omega⟩))
    · exact .inr (.inr (.inr (.inl ⟨i / 4, by omega⟩)))
theorem T.set_leaf_zero {α : Type} (x : Option α) : T.set (.leaf : T α) 0 x = .node x .leaf .leaf .leaf .leaf := rfl
theorem T.set_node_zero {α : Type} (v : Option α) (a b c d : T α) (x : Option α) : T.set (.node v a b c d) 0 x = .node x a b c d := rfl
theorem T.set_node_a {α : Type} (j : Nat) (v : Option α) (a b c d : T α) (x : Option α) : T.set (.node v a b c d) (4 * j + 1) x = .node v (T.set a j x) b c d := by
  unfold T.set; rw [path_a]; rfl
theorem T.set_leaf_a {α : Type} (j : Nat) (x : Option α) : T.set (.leaf : T α) (4 * j + 1) x = .node none (T.set .leaf j x) .leaf .leaf .leaf := by
  unfold T.set; rw [path_a]; rfl
theorem T.set_node_b {α : Type} (j : Nat) (v : Option α) (a b c d : T α) (x : Option α) : T.set (.node v a b c d) (4 * j + 2) x = .node v a (T.set b j x) c d := by
  unfold T.set; rw [path_b]; rfl
theorem T.set_leaf_b {α : Type} (j : Nat) (x : Option α) : T.set (.leaf : T α) (4 * j + 2) x = .node none .leaf (T.set .leaf j x) .leaf .leaf := by
  unfold T.set; rw [path_b]; rfl
theorem T.set_node_c {α : Type} (j : Nat) (v : Option α) (a b c d : T α) (x : Option α) : T.set (.node v a b c d) (4 * j + 3) x = .node v a b (T.set c j x) d := by
  unfold T.set; rw [path_c]; rfl
theorem T.set_leaf_c {α : Type} (j : Nat) (x : Option α) : T.set (.leaf : T α) (4 * j + 3) x = .node none .leaf .leaf (T.set .leaf j x) .leaf := by
  unfold T.set; rw [path_c]; rfl
theorem T.set_node_d {α : Type} (j : Nat) (v : Option α) (a b c d : T α) (x : Option α) : T.set (.node v a b c d) (4 * j + 4) x = .node v a b c (T.set d j x) := by
  unfold T.set; rw [path_d]; rfl
theorem T.set_leaf_d {α : Type} (j : Nat) (x : Option α) : T.set (.leaf : T α) (4 * j + 4) x = .node none .leaf .leaf .leaf (T.set .leaf j x) := by
  unfold T.set; rw [path_d]; rfl

theorem T.get_set {α : Type} (x : Option α) : ∀ (t : T α) (i : Nat) (j : Nat), (T.set t i x).get j = if i = j then x else t.get j := by
  intro t i
  induction i using Nat.strongRecOn generalizing t with
  | ind i ih =>
    intro j
    rcases nat_split i with rfl | ⟨i, rfl⟩ | ⟨i, rfl⟩ | ⟨i, rfl⟩ | ⟨i, rfl⟩ <;> rcases nat_split j with rfl | ⟨j, rfl⟩ | ⟨j, rfl⟩ | ⟨j, rfl⟩ | ⟨j, rfl⟩ <;> cases t <;>
      simp only [T.set_leaf_zero, T.set_node_zero, T.set_node_a, T.set_node_b, T.set_node_c, T.set_node_d, T.set_leaf_a, T.set_leaf_b, T.set_leaf_c, T.set_leaf_d, T.get_zero, T.get_a, T.get_b, T.get_c, T.get_d, T.get_leaf]
    all_goals first
      | (simp; done)
      | (rw [if_neg (by omega)])
      | (rw [ih i (by omega), T.get_leaf]; by_cases e : i = j <;> simp [e] <;> omega)
      | (rw [ih i (by omega)]; by_cases e : i = j <;> simp [e] <;> omega)

theorem T.get_put {α : Type} (t : T α) (i : Nat) (x : α) (_h : i < T.most + 1) (j : Nat) : (t.put i x).get j = if i = j then some x else t.get j :=
  T.get_set _ _ _ _
theorem T.get_del {α : Type} (t : T α) (i : Nat) (_h : i < T.most + 1) (j : Nat) : (t.del i).get j = if i = j then none else t.get j :=
  T.get_set _ _ _ _

/-! ### Values -/
/-- Where an abstract block lies: the machine's block, from which cell on, and how many cells are there. -/
structure Loc where
  blk : Nat
  sh : Nat
  ext : Nat

abbrev Rho := Nat → Option Loc

mutual
def VR (ρ : Rho) (σ : Nat → Value) : AV → Value → Prop
  | .bool b, v => v = .bool b
  | .int k n, v => v = .int k n
  | .str l, v => ∃ s : ByteArray, v = .string s ∧ bytesNat s = l
  | .nilptr, v => v = .pointer none
  | .ptr i o, v => ∃ L, ρ i = some L ∧ v = .pointer (some ⟨L.blk, L.sh + o, none⟩)
  | .nilslice, v => v = .slice none 0 0
  | .slice i o n c sz, v => ∃ L a c', ρ i = some L ∧ v = .slice (some a) n c' ∧ n ≤ c' ∧ c ≤ c' ∧ (c' = 0 ∨ (a = ⟨L.blk, L.sh + o, none⟩ ∧ o + c' * sz ≤ L.ext))
  | .nilmap, v => v = .map none
  | .map i, v => ∃ L, ρ i = some L ∧ v = .map (some L.blk)
  | .func f a b, v => ∃ va vb, v = .func (.func f) va vb ∧ VRs ρ σ a va.toList ∧ VRs ρ σ b vb.toList
  | .yield l, v => ∃ L, ρ l = some L ∧ v = .func (.yield L.blk) #[] #[]
  | .nilFunc, v => v = .nilFunc
  | .iface t x, v => ∃ u, v = .iface t u ∧ VR ρ σ x u
  | .nilIface, v => v = .nilIface
  | .agg cs, v => ∃ vs, v = .agg vs ∧ VRs ρ σ cs vs.toList
  | .tuple cs, v => ∃ vs, v = .tuple vs ∧ VRs ρ σ cs vs.toList
  | .unk, v => v.oneCell' = true
  | .sym i, v => v = σ i ∧ v.oneCell' = true
  | .any, v => v.cells = #[v]
def VRs (ρ : Rho) (σ : Nat → Value) : List AV → List Value → Prop
  | [], vs => vs = []
  | a :: l, vs => ∃ v r, vs = v :: r ∧ VR ρ σ a v ∧ VRs ρ σ l r
end

def Ext (ρ ρ' : Rho) : Prop := ∀ i L, ρ i = some L → ρ' i = some L
theorem Ext.refl (ρ : Rho) : Ext ρ ρ := fun _ _ h => h
theorem Ext.trans {a b c : Rho} (h : Ext a b) (k : Ext b c) : Ext a c := fun i L e => k i L (h i L e)

section
variable {ρ ρ' : Rho} {σ : Nat → Value}

mutual
theorem VR.ext (h : Ext ρ ρ') : ∀ (a : AV) (v : Value), VR ρ σ a v → VR ρ' σ a v
  | .bool _, _, e => e
  | .int _ _, _, e => e
  | .str _, _, e => e
  | .nilptr, _, e => e
  | .ptr _ _, _, ⟨L, e, r⟩ => ⟨L, h _ _ e, r⟩
  | .nilslice, _, e => e
  | .slice _ _ _ _ _, _, ⟨L, a, c, e, r⟩ => ⟨L, a, c, h _ _ e, r⟩
  | .nilmap, _, e => e
  | .map _, _, ⟨L, e, r⟩ => ⟨L, h _ _ e, r⟩
  | .func _ a b, _, ⟨va, vb, e, ha, hb⟩ => ⟨va, vb, e, VRs.ext h a _ ha, VRs.ext h b _ hb⟩
  | .yield _, _, ⟨L, e, r⟩ => ⟨L, h _ _ e, r⟩
  | .nilFunc, _, e => e
  | .iface _ x, _, ⟨u, e, r⟩ => ⟨u, e, VR.ext h x u r⟩
  | .nilIface, _, e => e
  | .agg cs, _, ⟨vs, e, r⟩ => ⟨vs, e, VRs.ext h cs _ r⟩
  | .tuple cs, _, ⟨vs, e, r⟩ => ⟨vs, e, VRs.ext h cs _ r⟩
  | .unk, _, e => e
  | .sym _, _, e => e
  | .any, _, e => e
theorem VRs.ext (h : Ext ρ ρ') : ∀ (l : List AV) (vs : List Value), VRs ρ σ l vs → VRs ρ' σ l vs
  | [], _, e => e
  | a :: l, _, ⟨v, r, e, ha, hl⟩ => ⟨v, r, e, VR.ext h a v ha, VRs.ext h l r hl⟩
end

theorem len_eq {α : Type} (l : List α) : len l = l.length := by
  induction l with
  | nil => rfl
  | cons a l ih => show Nat.succ (len l) = _; rw [ih]; rfl

theorem VRs.length : ∀ {l : List AV} {vs : List Value}, VRs ρ σ l vs → vs.length = l.length
  | [], _, e => by cases e; rfl
  | a :: l, _, ⟨v, r, e, _, hl⟩ => by subst e; simp [VRs.length hl]

theorem VRs.append : ∀ {l m : List AV} {vs us : List Value}, VRs ρ σ l vs → VRs ρ σ m us → VRs ρ σ (l ++ m) (vs ++ us)
  | [], _, _, _, e, h => by cases e; exact h
  | a :: l, m, _, us, ⟨v, r, e, ha, hl⟩, h => by subst e; exact ⟨v, r ++ us, rfl, ha, VRs.append hl h⟩

theorem nth_cons_zero {α : Type} (a : α) (l : List α) : nth (a :: l) 0 = some a := rfl
theorem nth_cons_succ {α : Type} (a : α) (l : List α) (n : Nat) : nth (a :: l) (n + 1) = nth l n := rfl
theorem nth_nil {α : Type} (n : Nat) : nth ([] : List α) n = none := rfl
theorem nth_eq {α : Type} : ∀ (l : List α) (n : Nat), nth l n = l[n]?
  | [], n => by simp [nth_nil]
  | a :: l, 0 => by simp [nth_cons_zero]
  | a :: l, n + 1 => by rw [nth_cons_succ, nth_eq l n]; simp

theorem VRs.nth : ∀ {l : List AV} {vs : List Value} {i : Nat} {a : AV}, VRs ρ σ l vs → l[i]? = some a → ∃ v, vs[i]? = some v ∧ VR ρ σ a v
  | [], _, i, a, _, h => by simp at h
  | b :: l, _, 0, a, ⟨v, r, e, ha, _⟩, h => by subst e; simp at h; subst h; exact ⟨v, by simp, ha⟩
  | b :: l, _, i + 1, a, ⟨v, r, e, _, hl⟩, h => by
    subst e
    obtain ⟨u, hu, hr⟩ := VRs.nth hl (i := i) (by simpa using h)
    exact ⟨u, by simpa using hu, hr⟩

theorem dropN_zero {α : Type} (l : List α) : dropN 0 l = some l := rfl
theorem dropN_nil {α : Type} (n : Nat) : dropN (n + 1) ([] : List α) = none := rfl
theorem dropN_cons {α : Type} (n : Nat) (a : α) (l : List α) : dropN (n + 1) (a :: l) = dropN n l := rfl
theorem takeN_zero {α : Type} (l : List α) : takeN 0 l = some [] := rfl
theorem takeN_nil {α : Type} (n : Nat) : takeN (n + 1) ([] : List α) = none := rfl
theorem takeN_cons {α : Type} (n : Nat) (a : α) (l : List α) : takeN (n + 1) (a :: l) = (takeN n l).map (a :: ·) := by
  show Option.rec (motive := fun _ => Option (List α)) none (fun x => some (a :: x)) (takeN n l) = _
  cases takeN n l <;> rfl
theorem dropN_eq {α : Type} : ∀ (n : Nat) (l r : List α), dropN n l = some r → r = l.drop n ∧ n ≤ l.length
  | 0, l, r, h => by rw [dropN_zero] at h; cases h; simp
  | n + 1, [], r, h => by rw [dropN_nil] at h; cases h
  | n + 1, a :: l, r, h => by rw [dropN_cons] at h; obtain ⟨h1, h2⟩ := dropN_eq n l r h; exact ⟨by simpa using h1, by simpa using h2⟩
theorem takeN_eq {α : Type} : ∀ (n : Nat) (l r : List α), takeN n l = some r → r = l.take n ∧ n ≤ l.length
  | 0, l, r, h => by rw [takeN_zero] at h; cases h; simp
  | n + 1, [], r, h => by rw [takeN_nil] at h; cases h
  | n + 1, a :: l, r, h => by
    rw [takeN_cons] at h
    cases hx : takeN n l with
    | none => simp [hx] at h
    | some x =>
      simp [hx] at h
      obtain ⟨h1, h2⟩ := takeN_eq n l x hx
      subst h
      exact ⟨by simp [h1], by simpa using h2⟩
theorem sub_eq {α : Type} {l r : List α} {o n : Nat} (h : sub l o n = some r) : r = (l.drop o).take n ∧ o + n ≤ l.length := by
  unfold sub at h
  split at h
  · rename_i x hx
    obtain ⟨h1, h2⟩ := dropN_eq _ _ _ hx
    obtain ⟨h3, h4⟩ := takeN_eq _ _ _ h
    subst h1
    exact ⟨h3, by simp at h4; omega⟩
  · cases h

theorem VRs.drop : ∀ {l : List AV} {vs : List Value} (n : Nat), VRs ρ σ l vs → VRs ρ σ (l.drop n) (vs.drop n)
  | _, _, 0, h => by simpa using h
  | [], _, n + 1, h => by cases h; simp [VRs]
  | a :: l, _, n + 1, ⟨v, r, e, _, hl⟩ => by subst e; simpa using VRs.drop n hl
theorem VRs.take : ∀ {l : List AV} {vs : List Value} (n : Nat), VRs ρ σ l vs → VRs ρ σ (l.take n) (vs.take n)
  | _, _, 0, h => by simp [VRs]
  | [], _, n + 1, h => by cases h; simp [VRs]
  | a :: l, _, n + 1, ⟨v, r, e, ha, hl⟩ => by subst e; exact ⟨v, r.take n, by simp, ha, VRs.take n hl⟩

theorem VR.one {a : AV} {v : Value} (h : VR ρ σ a v) (ho : a.oneCell = true) : v.oneCell' = true := by
  cases a <;> simp only [VR] at h <;> first
    | (simp [AV.oneCell] at ho; done)
    | (subst h; rfl)
    | (obtain ⟨_, rfl, _⟩ := h; rfl)
    | (obtain ⟨_, _, rfl⟩ := h; rfl)
    | (obtain ⟨_, _, _, _, rfl, _⟩ := h; rfl)
    | (obtain ⟨_, _, rfl, _⟩ := h; rfl)
    | exact h
    | exact h.2

/-- The cells of a value. -/
theorem VR.cells {a : AV} {v : Value} (h : VR ρ σ a v) (hn : a.cells = [a] → a.oneCell = true ∨ ∃ vs, a = .tuple vs) : VRs ρ σ a.cells v.cells.toList := by
  cases a
  case agg cs => obtain ⟨vs, rfl, h⟩ := h; exact h
  case tuple cs => have h' := h; obtain ⟨vs, rfl, _⟩ := h; exact ⟨_, [], rfl, h', rfl⟩
  case any => exact ⟨v, [], by rw [show v.cells = #[v] from h], h, rfl⟩
  all_goals
    have ho := h.one rfl
    have : v.cells = #[v] := by cases v <;> first | rfl | (simp [Value.oneCell'] at ho; done)
    rw [this]
    exact ⟨v, [], rfl, h, rfl⟩
theorem VR.cells' {a : AV} {v : Value} (h : VR ρ σ a v) : VRs ρ σ a.cells v.cells.toList := by
  cases a
  case agg cs => obtain ⟨vs, rfl, h⟩ := h; exact h
  case tuple cs => have h' := h; obtain ⟨vs, rfl, _⟩ := h; exact ⟨_, [], rfl, h', rfl⟩
  case any => exact ⟨v, [], by rw [show v.cells = #[v] from h], h, rfl⟩
  all_goals
    have ho := h.one rfl
    have : v.cells = #[v] := by cases v <;> first | rfl | (simp [Value.oneCell'] at ho; done)
    rw [this]
    exact ⟨v, [], rfl, h, rfl⟩

theorem allOne_spec : ∀ {l : List AV} {vs : List Value}, allOne l = true → VRs ρ σ l vs → ∀ v ∈ vs, v.oneCell' = true
  | [], _, _, e => by cases e; simp
  | a :: l, _, h, ⟨v, r, e, ha, hl⟩ => by
    subst e
    unfold allOne at h
    split at h
    · rename_i ho
      intro u hu
      rcases List.mem_cons.1 hu with rfl | hu
      · exact ha.one ho
      · exact allOne_spec h hl u hu
    · cases h

/-- A plain value of the text. -/
theorem absC_rel {v : Value} {a : AV} (h : absC v = some a) : VR ρ σ a v := by
  unfold absC at h
  split at h <;> first
    | (cases h; exact rfl)
    | (cases h; exact ⟨_, rfl, rfl⟩)
    | (cases h; exact ⟨_, _, rfl, rfl, rfl⟩)
    | (cases h; done)
theorem absCs_rel : ∀ {vs : List Value} {l : List AV}, absCs vs = some l → VRs ρ σ l vs
  | [], l, h => by simp [absCs] at h; subst h; rfl
  | v :: vs, l, h => by
    unfold absCs at h
    split at h
    · rename_i x hx
      split at h
      · rename_i xs hxs
        cases h
        exact ⟨v, vs, rfl, absC_rel hx, absCs_rel hxs⟩
      · cases h
    · cases h
theorem absV_rel {v : Value} {a : AV} (h : absV v = some a) : VR ρ σ a v := by
  unfold absV at h
  split at h
  · split at h
    · rename_i xs hxs; cases h; exact ⟨_, rfl, absCs_rel hxs⟩
    · cases h
  · split at h
    · rename_i xs hxs; cases h; exact ⟨_, rfl, absCs_rel hxs⟩
    · cases h
  · exact absC_rel h
end

end Go.Eng

/-! The engine's relation: blocks, the state, the environment. No condition. -/
namespace Go.Eng
open Go.RowKit

/-! ### The environment -/
structure EnvOK (E : Env) : Prop where
  ty : ∀ t ti, E.ty.get t = some ti → ∃ i, E.P.info? t = some i ∧ i.size = ti.size ∧ i.bytes = ti.bytes ∧ i.zero = ti.zero ∧ i.comparable = ti.cmp ∧
    E.P.underlying t = some ti.und ∧ ti.isAgg = aggD ti.und
  fns : ∀ f i, E.fns.get f = some i → E.P.funcs[f]? = some i.fn ∧ i = mkFn i.fn
  mixed : E.P.follows .mixedOrders = true

section
variable {E : Env} (ok : EnvOK E)
include ok
theorem EnvOK.und {t : TypeId} {d : TypeDesc} (h : und E t = some d) : E.P.underlying t = some d := by
  unfold Eng.und at h
  cases ht : E.ty.get t with
  | none => simp [ht] at h
  | some ti =>
    simp [ht] at h
    subst h
    obtain ⟨_, _, _, _, _, _, h, _⟩ := ok.ty t ti ht
    exact h
theorem EnvOK.sz {t : TypeId} {n : Nat} (h : szOf E t = some n) : ∃ i, E.P.info? t = some i ∧ i.size = n := by
  unfold szOf at h
  cases ht : E.ty.get t with
  | none => simp [ht] at h
  | some ti =>
    simp [ht] at h
    obtain ⟨i, hi, hs, _⟩ := ok.ty t ti ht
    exact ⟨i, hi, hs.trans h⟩
theorem EnvOK.run_sz {t : TypeId} {n : Nat} (h : szOf E t = some n) (w : World) : (sizeOf t).run E.P w = .ok n w := by
  obtain ⟨i, hi, hs⟩ := ok.sz h
  simp [sizeOf, typeInfo, hi, hs]
theorem EnvOK.run_und {t : TypeId} {d : TypeDesc} (h : Eng.und E t = some d) (w : World) : (underlying t).run E.P w = .ok d w := by
  simp [underlying, ok.und h]
theorem EnvOK.run_zero {t : TypeId} {z : AV} (h : zeroOf E t = some z) (w : World) : ∃ v, (zeroValue t).run E.P w = .ok v w ∧ ∀ ρ σ, VR ρ σ z v := by
  unfold zeroOf at h
  cases ht : E.ty.get t with
  | none => simp [ht] at h
  | some ti =>
    simp [ht] at h
    obtain ⟨i, hi, _, _, hz, _⟩ := ok.ty t ti ht
    cases hzz : ti.zero with
    | none => simp [hzz] at h
    | some v =>
      simp [hzz] at h
      exact ⟨v, by simp [zeroValue, typeInfo, hi, hz, hzz], fun ρ σ => absV_rel h⟩
theorem EnvOK.run_isAgg {t : TypeId} {ti : TyI} (h : E.ty.get t = some ti) (w : World) : (isAgg t).run E.P w = .ok ti.isAgg w := by
  obtain ⟨i, hi, _, _, _, _, hu, ha⟩ := ok.ty t ti h
  simp only [isAgg, underlying, Sem.run_bind, run_program, Result.andThen_ok, hu, Sem.run_pure, ha]
  cases ti.und <;> rfl
end

/-! ### Worlds -/
/-- The same memory; the draws may have gone on. -/
structure Same (w w' : World) : Prop where
  os : w'.os = w.os
  tape : w'.tape = w.tape
  output : w'.output = w.output
  heap : w'.heap = w.heap
/-- One block holds something else. -/
structure Upd (w : World) (g : Nat) (ob : Obj) (w' : World) : Prop where
  os : w'.os = w.os
  tape : w'.tape = w.tape
  output : w'.output = w.output
  size : w'.heap.size = w.heap.size
  here : w'.heap[g]? = some ob
  other : ∀ k, k ≠ g → w'.heap[k]? = w.heap[k]?
/-- One block more. -/
structure New (w : World) (ob : Obj) (w' : World) : Prop where
  os : w'.os = w.os
  tape : w'.tape = w.tape
  output : w'.output = w.output
  size : w'.heap.size = w.heap.size + 1
  here : w'.heap[w.heap.size]? = some ob
  other : ∀ k, k < w.heap.size → w'.heap[k]? = w.heap[k]?

theorem Same.refl (w : World) : Same w w := ⟨rfl, rfl, rfl, rfl⟩
theorem Same.drew (w : World) : Same w { w with drawn := w.drawn + 1 } := ⟨rfl, rfl, rfl, rfl⟩
/-- What holds of these blocks stays as it is. -/
structure Kept (b : Nat → Prop) (w w' : World) : Prop where
  os : w'.os = w.os
  tape : w'.tape = w.tape
  output : w'.output = w.output
  size : w.heap.size ≤ w'.heap.size
  block : ∀ k, b k → w'.heap[k]? = w.heap[k]?
theorem Kept.refl (b : Nat → Prop) (w : World) : Kept b w w := ⟨rfl, rfl, rfl, Nat.le_refl _, fun _ _ => rfl⟩
theorem Kept.trans {b : Nat → Prop} {x y z : World} (h : Kept b x y) (k : Kept b y z) : Kept b x z :=
  ⟨k.os.trans h.os, k.tape.trans h.tape, k.output.trans h.output, Nat.le_trans h.size k.size, fun i hi => (k.block i hi).trans (h.block i hi)⟩
/-- This holds of the world, and of what comes of it. -/
structure Hold (V : World → Prop) (b : Nat → Prop) (w : World) : Prop where
  now : V w
  keep : ∀ w1 w2, V w1 → Kept b w1 w2 → V w2
theorem Hold.kept {V : World → Prop} {b : Nat → Prop} {w w' : World} (h : Hold V b w) (hB : Kept b w w') : Hold V b w' := ⟨h.keep _ _ h.now hB, h.keep⟩
theorem Hold.all {V : World → Prop} (h : ∀ w, V w) (b : Nat → Prop) (w : World) : Hold V b w := ⟨h w, fun _ w2 _ _ => h w2⟩
theorem Hold.wide {V : World → Prop} {b b' : Nat → Prop} {w : World} (h : Hold V b w) (hb : ∀ k, b k → b' k) : Hold V b' w :=
  ⟨h.now, fun w1 w2 h1 hK => h.keep w1 w2 h1 ⟨hK.os, hK.tape, hK.output, hK.size, fun k hk => hK.block k (hb k hk)⟩⟩

theorem Same.below {w w' : World} (h : Same w w') (b : Nat → Prop) : Kept b w w' := ⟨h.os, h.tape, h.output, by rw [h.heap]; exact Nat.le_refl _, fun k _ => by rw [h.heap]⟩
theorem Upd.below {w w' : World} {g : Nat} {ob : Obj} (h : Upd w g ob w') {b : Nat → Prop} (hB : ¬ b g) : Kept b w w' :=
  ⟨h.os, h.tape, h.output, by rw [h.size]; exact Nat.le_refl _, fun k hk => h.other k (fun e => hB (by rw [← e]; exact hk))⟩
theorem New.below {w w' : World} {ob : Obj} (h : New w ob w') {b : Nat → Prop} (hB : ∀ k, b k → k < w.heap.size) : Kept b w w' :=
  ⟨h.os, h.tape, h.output, by rw [h.size]; omega, fun k hk => h.other k (hB k hk)⟩
theorem New.alloc (w : World) (o : Obj) : New w o (w.alloc o) :=
  ⟨rfl, rfl, rfl, by simp, heap_alloc_new w o, fun k hk => heap_alloc_old w o k hk⟩
theorem New.of_same {w w1 w' : World} {o : Obj} (h : Same w w1) (k : New w1 o w') : New w o w' := by
  have e : w1.heap.size = w.heap.size := by rw [h.heap]
  exact ⟨k.os.trans h.os, k.tape.trans h.tape, k.output.trans h.output, by rw [k.size, e], by rw [← e]; exact k.here, fun i hi => (k.other i (by omega)).trans (by rw [h.heap])⟩
theorem Upd.setObj (w : World) (g : Nat) (o : Obj) (hg : g < w.heap.size) : Upd w g o { w with heap := w.heap.setIfInBounds g o } :=
  ⟨rfl, rfl, rfl, by simp, by simp [hg], fun k hk => by simp [Array.getElem?_setIfInBounds_ne (Ne.symm hk)]⟩
theorem Upd.trans {w w1 w2 : World} {g : Nat} {a b : Obj} (h : Upd w g a w1) (k : Upd w1 g b w2) : Upd w g b w2 :=
  ⟨k.os.trans h.os, k.tape.trans h.tape, k.output.trans h.output, k.size.trans h.size, k.here, fun i hi => (k.other i hi).trans (h.other i hi)⟩

theorem lt_of_get {α : Type} {a : Array α} {i : Nat} {x : α} (h : a[i]? = some x) : i < a.size := (Array.getElem?_eq_some_iff.1 h).1

/-! ### Blocks -/
def MR (ρ : Rho) (σ : Nat → Value) : List (AV × AV × Nat) → List MapEntry → Prop
  | [], es => es = []
  | (k, v, b) :: l, es => ∃ e r, es = e :: r ∧ VR ρ σ k e.key ∧ VR ρ σ v e.val ∧ e.born = b ∧ MR ρ σ l r

theorem MR.ext {ρ ρ' : Rho} {σ : Nat → Value} (h : Ext ρ ρ') : ∀ {l : List (AV × AV × Nat)} {es : List MapEntry}, MR ρ σ l es → MR ρ' σ l es
  | [], _, e => e
  | (_, _, _) :: _, _, ⟨e, r, he, hk, hv, hb, hl⟩ => ⟨e, r, he, hk.ext h _ _, hv.ext h _ _, hb, MR.ext h hl⟩

/-- Temporaries. -/
structure TR (ρ : Rho) (σ : Nat → Value) (tm : T AV) (nt : Nat) (tmps : Array Value) : Prop where
  size : tmps.size = nt
  most : nt ≤ T.most
  vals : ∀ t, VR ρ σ (tget tm t) (tmps.getD t undef)

theorem tget_def (tm : T AV) (t : Nat) : tget tm t = (tm.get t).getD undefA := by
  unfold tget; cases tm.get t <;> rfl

theorem TR.ext {ρ ρ' : Rho} {σ : Nat → Value} (h : Ext ρ ρ') {tm : T AV} {nt : Nat} {tmps : Array Value} (r : TR ρ σ tm nt tmps) : TR ρ' σ tm nt tmps :=
  ⟨r.size, r.most, fun t => (r.vals t).ext h _ _⟩

theorem TR.put {ρ : Rho} {σ : Nat → Value} {tm : T AV} {nt : Nat} {tmps : Array Value} (r : TR ρ σ tm nt tmps) {d : Nat} (hd : d < nt) {a : AV} {v : Value} (h : VR ρ σ a v) :
    TR ρ σ (tm.put d a) nt (tmps.setIfInBounds d v) := by
  refine ⟨by simp [r.size], r.most, fun t => ?_⟩
  rw [tget_def, T.get_put tm d a (by have := r.most; omega)]
  by_cases e : d = t
  · subst e
    have : d < tmps.size := by rw [r.size]; exact hd
    simpa [this] using h
  · have := r.vals t
    rw [tget_def] at this
    rw [if_neg e]
    simpa [Array.getElem?_setIfInBounds_ne e] using this

/-- What a machine's block holds, by an abstract block. -/
def BO (ρ : Rho) (σ : Nat → Value) (L : Loc) : Blk → Obj → Prop
  | .cells cs el wr, ob => ∃ c t fr, ob = .cells c t fr ∧ (el ≠ unkT → t = elOf el) ∧ (el < tailN → L.sh = 0) ∧ VRs ρ σ cs ((c.toList.drop L.sh).take cs.length) ∧ cs.length ≤ L.ext ∧ L.sh + L.ext ≤ c.size ∧
      (wr = true → ∀ o, o < c.size → ¬ (fr.1 ≤ o ∧ o < fr.2))
  | .map es k, ob => L.sh = 0 ∧ ∃ m, ob = .map m k ∧ MR ρ σ es m.toList
  | .siter s pos, ob => L.sh = 0 ∧ ∃ b, ob = .stringIter b pos ∧ bytesNat b = s
  | .miter m since seen last, ob => L.sh = 0 ∧ ∃ mo, ob = .mapIter mo since seen.toArray last ∧ ((m = none ∧ mo = none) ∨ ∃ i D, m = some i ∧ ρ i = some D ∧ mo = some D.blk)
  | .loop st pe fn tm nt ps as bd df, ob => L.sh = 0 ∧ ∃ l : Loop, ob = .loop l ∧ l.state = st ∧ l.pending = pe ∧ l.fn = fn ∧ TR ρ σ tm nt l.tmps ∧ l.params.toList = ps ∧ l.assign = as ∧ l.body = bd ∧
      ∃ D, ρ df = some D ∧ l.defers = D.blk
  | .deferred op, ob => L.sh = 0 ∧ ob = .deferred (match op with | true => some [] | false => none)

theorem BO.ext {ρ ρ' : Rho} {σ : Nat → Value} (h : Ext ρ ρ') {L : Loc} : ∀ {b : Blk} {ob : Obj}, BO ρ σ L b ob → BO ρ' σ L b ob
  | .cells _ _ _, _, ⟨c, t, fr, e, ht, z, hv, r⟩ => ⟨c, t, fr, e, ht, z, VRs.ext h _ _ hv, r⟩
  | .map _ _, _, ⟨z, m, e, hm⟩ => ⟨z, m, e, hm.ext h⟩
  | .siter _ _, _, r => r
  | .miter _ _ _ _, _, ⟨z, mo, e, r⟩ => ⟨z, mo, e, r.imp id fun ⟨i, D, e1, e2, e3⟩ => ⟨i, D, e1, h _ _ e2, e3⟩⟩
  | .loop _ _ _ _ _ _ _ _ _, _, ⟨z, l, a, b, c, d, t, e, f, g, D, hD, k⟩ => ⟨z, l, a, b, c, d, t.ext h, e, f, g, D, h _ _ hD, k⟩
  | .deferred _, _, r => r

/-- How many names are the variables', and those of what lies behind them. -/
def gN : Nat := 1000
/-- How many are the variables' own. -/
def vN : Nat := 500

/-- The blocks of 'b' are not the run's own; 'v': blocks that the engine has laid and the machine has not yet, frame by frame. -/
structure Base where
  b : Nat → Prop
  v : List (List (Nat × Blk))
def Base.at (n : Nat) : Base := ⟨fun k => k < n, [[]]⟩
def look : List (Nat × Blk) → Nat → Option Blk
  | [], _ => none
  | (j, b) :: l, i => if j = i then some b else look l i
def Base.get (B : Base) (i : Nat) : Option Blk := look B.v.flatten i
theorem Base.at_get (n i : Nat) : (Base.at n).get i = none := rfl

/-- The state's relation to a world. -/
structure R (B : Base) (ρ : Rho) (σ : Nat → Value) (s : St) (w : World) : Prop where
  fresh : ∀ i, s.next ≤ i → ρ i = none
  base : gN ≤ s.next
  most : s.next ≤ T.most + 1
  live : ∀ i b, s.get i = some b → (ρ i = none ∧ B.get i = some b) ∨ ∃ L ob, ρ i = some L ∧ w.heap[L.blk]? = some ob ∧ BO ρ σ L b ob
  virt : ∀ i b, B.get i = some b → s.get i = some b ∧ ρ i = none ∧ i < s.next ∧ gN ≤ i
  inj : ∀ i j b b' L L', gN ≤ i → s.get i = some b → s.get j = some b' → i ≠ j → ρ i = some L → ρ j = some L' → L.blk ≠ L'.blk
  own : ∀ i b L, s.get i = some b → ρ i = some L → gN ≤ i → ¬ B.b L.blk
  glob : ∀ i b, s.get i = some b → i < gN → (∃ cs el, b = .cells cs el false) ∨ ∃ es c, b = .map es c
  vars : ∀ g, g < gN → ∃ L, ρ g = some L ∧ (g < vN → L.blk = g ∧ L.sh = 0)
  size : ∀ k, B.b k → k < w.heap.size
  nd : (B.v.flatten.map (·.1)).Nodup

theorem St.get_put (s : St) (i : Nat) (b : Blk) (h : i < T.most + 1) (j : Nat) : (s.put i b).get j = if i = j then some b else s.get j := by
  cases s; exact T.get_put _ _ _ h _
theorem St.get_del (s : St) (i : Nat) (h : i < T.most + 1) (j : Nat) : (s.del i).get j = if i = j then none else s.get j := by
  cases s; exact T.get_del _ _ h _
theorem St.next_put (s : St) (i : Nat) (b : Blk) : (s.put i b).next = s.next := by cases s; rfl
theorem St.next_del (s : St) (i : Nat) : (s.del i).next = s.next := by cases s; rfl

section
variable {B : Base} {ρ : Rho} {σ : Nat → Value} {s : St} {w w' : World}

/-- What a name stands for that the machine has. -/
theorem R.here (h : R B ρ σ s w) {i : Nat} {b : Blk} (hi : s.get i = some b) {L : Loc} (hL : ρ i = some L) : ∃ ob, w.heap[L.blk]? = some ob ∧ BO ρ σ L b ob := by
  rcases h.live i b hi with ⟨hn, _⟩ | ⟨L', ob, hL', hob, hb⟩
  · rw [hL] at hn; cases hn
  · rw [hL] at hL'; cases hL'
    exact ⟨ob, hob, hb⟩
theorem R.noV (h : R B ρ σ s w) {i : Nat} {L : Loc} (hL : ρ i = some L) : B.get i = none := by
  cases hv : B.get i with
  | none => rfl
  | some b => rw [(h.virt i b hv).2.1] at hL; cases hL

theorem R.lt (h : R B ρ σ s w) {i : Nat} {b : Blk} (hi : s.get i = some b) : i < s.next := by
  rcases h.live i b hi with ⟨_, hv⟩ | ⟨L, _, hL, _⟩
  · exact (h.virt i b hv).2.2.1
  rcases Nat.lt_or_ge i s.next with h' | h'
  · exact h'
  · rw [h.fresh i h'] at hL; cases hL
theorem R.lt_most (h : R B ρ σ s w) {i : Nat} {b : Blk} (hi : s.get i = some b) : i < T.most + 1 := Nat.lt_of_lt_of_le (h.lt hi) h.most

theorem R.same (h : R B ρ σ s w) (k : Same w w') : R B ρ σ s w' :=
  ⟨h.fresh, h.base, h.most, fun i b hi => by rw [k.heap]; exact h.live i b hi, h.virt, h.inj, h.own, h.glob, h.vars, by rw [k.heap]; exact h.size, h.nd⟩

/-- A block of the run's own holds something else. -/
theorem R.upd (h : R B ρ σ s w) {i : Nat} {b b' : Blk} {L : Loc} {ob : Obj} (hi : s.get i = some b) (hL : ρ i = some L) (hg : gN ≤ i) (k : Upd w L.blk ob w') (hb : BO ρ σ L b' ob) :
    R B ρ σ (s.put i b') w' := by
  have hm := h.lt_most hi
  refine ⟨by rw [St.next_put]; exact h.fresh, by rw [St.next_put]; exact h.base, by rw [St.next_put]; exact h.most, fun j c hj => ?_, fun j c hv => ?_, fun i' j c c' M M' hgi hi' hj hne hM hM' => ?_,
    fun j c M hj hM hgj => ?_, fun j c hj hlt => ?_, h.vars, by rw [k.size]; exact h.size, h.nd⟩
  · rw [St.get_put _ _ _ hm] at hj
    by_cases e : i = j
    · subst e; simp at hj; subst hj; exact .inr ⟨L, ob, hL, k.here, hb⟩
    · simp [e] at hj
      rcases h.live j c hj with hv | ⟨M, o, hM, ho, hbo⟩
      · exact .inl hv
      · exact .inr ⟨M, o, hM, by rw [k.other M.blk (fun e' => h.inj i j b c L M hg hi hj e hL hM e'.symm)]; exact ho, hbo⟩
  · obtain ⟨h1, h2, h3, h4⟩ := h.virt j c hv
    have e : i ≠ j := fun e => by subst e; rw [hL] at h2; cases h2
    rw [St.get_put _ _ _ hm, if_neg e, St.next_put]
    exact ⟨h1, h2, h3, h4⟩
  · have up : ∀ x y, (s.put i b').get x = some y → ∃ y', s.get x = some y' := fun x y hx => by
      rw [St.get_put _ _ _ hm] at hx
      by_cases e : i = x
      · subst e; exact ⟨b, hi⟩
      · simp [e] at hx; exact ⟨y, hx⟩
    obtain ⟨_, h1⟩ := up _ _ hi'
    obtain ⟨_, h2⟩ := up _ _ hj
    exact h.inj _ _ _ _ _ _ hgi h1 h2 hne hM hM'
  · rw [St.get_put _ _ _ hm] at hj
    by_cases e : i = j
    · subst e; exact h.own i b M hi hM hgj
    · simp [e] at hj; exact h.own j c M hj hM hgj
  · rw [St.get_put _ _ _ hm] at hj
    by_cases e : i = j
    · subst e; omega
    · simp [e] at hj; exact h.glob j c hj hlt

/-- A block is forgotten. -/
theorem R.del (h : R B ρ σ s w) {i : Nat} (hm : i < T.most + 1) (hnv : B.get i = none) : R B ρ σ (s.del i) w := by
  have old : ∀ j c, (s.del i).get j = some c → s.get j = some c := fun j c hj => by
    rw [St.get_del _ _ hm] at hj
    by_cases e : i = j
    · simp [e] at hj
    · simpa [e] using hj
  exact ⟨by rw [St.next_del]; exact h.fresh, by rw [St.next_del]; exact h.base, by rw [St.next_del]; exact h.most, fun j c hj => h.live j c (old j c hj), fun j c hv => by
      obtain ⟨h1, h2, h3, h4⟩ := h.virt j c hv
      have e : i ≠ j := fun e => by subst e; rw [hnv] at hv; cases hv
      rw [St.get_del _ _ hm, if_neg e, St.next_del]
      exact ⟨h1, h2, h3, h4⟩,
    fun i j b b' L L' hg hi hj => h.inj i j b b' L L' hg (old _ _ hi) (old _ _ hj), fun j c L hj => h.own j c L (old _ _ hj), fun j c hj => h.glob j c (old _ _ hj), h.vars, h.size, h.nd⟩

def Rho.set (ρ : Rho) (i : Nat) (L : Loc) : Rho := fun j => if j = i then some L else ρ j

theorem Rho.ext_set {i : Nat} {L : Loc} (h : ρ i = none) : Ext ρ (ρ.set i L) := fun j M hM => by
  unfold Rho.set
  by_cases e : j = i
  · subst e; rw [h] at hM; cases hM
  · simp [e, hM]
theorem Rho.set_same (ρ : Rho) (i : Nat) (L : Loc) : ρ.set i L i = some L := by simp [Rho.set]

theorem St.new_eq {b : Blk} {i : Nat} {s' : St} (h : s.new b = some (i, s')) : i = s.next ∧ s.next < T.most + 1 ∧ s'.next = s.next + 1 ∧ (∀ j, s'.get j = if i = j then some b else s.get j) ∧ 0 < s.next := by
  obtain ⟨n, hp⟩ := s
  unfold St.new at h
  cases n with
  | zero => simp at h
  | succ k =>
    simp only at h
    split at h
    · rename_i hb
      simp only [Option.some.injEq, Prod.mk.injEq] at h
      obtain ⟨rfl, rfl⟩ := h
      have hk : k < T.most := by
        have : Nat.ble (k + 1) T.most = true := hb
        exact Nat.le_of_ble_eq_true this
      refine ⟨rfl, by show k + 1 < T.most + 1; omega, rfl, fun j => ?_, Nat.succ_pos _⟩
      exact T.get_set _ _ _ _
    · cases h

/-- A new name for a block that no live one has: one that is new, or one that has been forgotten. -/
theorem R.name (h : R B ρ σ s w) {b : Blk} {i : Nat} {s' : St} {L : Loc} {ob : Obj} (hs : s.new b = some (i, s')) (hob : w.heap[L.blk]? = some ob) (hB : ¬ B.b L.blk)
    (hne : ∀ j c M, s.get j = some c → ρ j = some M → M.blk ≠ L.blk) (hb : BO (ρ.set i L) σ L b ob) : Ext ρ (ρ.set i L) ∧ R B (ρ.set i L) σ s' w := by
  obtain ⟨rfl, hlt, hn, hg, hpos⟩ := St.new_eq hs
  have hx : Ext ρ (ρ.set s.next L) := Rho.ext_set (h.fresh _ (Nat.le_refl _))
  have old : ∀ j c, s'.get j = some c → j ≠ s.next → s.get j = some c := fun j c hj hne => by
    rw [hg] at hj; rwa [if_neg (Ne.symm hne)] at hj
  have oldρ : ∀ j, j ≠ s.next → ρ.set s.next L j = ρ j := fun j hj => by simp [Rho.set, hj]
  refine ⟨hx, fun j hj => ?_, by rw [hn]; have := h.base; omega, by rw [hn]; omega, fun j c hj => ?_, fun j c hv => ?_, fun j k c c' M M' hgj hj hk hjk hM hM' => ?_, fun j c M hj hM hgj => ?_, fun j c hj hlt' => ?_, fun g hgl => ?_, h.size, h.nd⟩
  · rw [hn] at hj; rw [oldρ j (by omega)]; exact h.fresh j (by omega)
  · by_cases e : j = s.next
    · subst e
      rw [hg] at hj; simp at hj; subst hj
      exact .inr ⟨L, ob, Rho.set_same _ _ _, hob, hb⟩
    · rcases h.live j c (old j c hj e) with ⟨h1, h2⟩ | ⟨M, o, hM, ho, hbo⟩
      · exact .inl ⟨by rw [oldρ j e]; exact h1, h2⟩
      · exact .inr ⟨M, o, hx _ _ hM, ho, hbo.ext hx⟩
  · obtain ⟨h1, h2, h3, h4⟩ := h.virt j c hv
    have e : j ≠ s.next := by omega
    rw [hg, if_neg (Ne.symm e), oldρ j e, hn]
    exact ⟨h1, h2, by omega, h4⟩
  · by_cases e1 : j = s.next
    · subst e1
      rw [Rho.set_same] at hM; cases hM
      rw [oldρ k (Ne.symm hjk)] at hM'
      exact (hne k c' M' (old k c' hk (Ne.symm hjk)) hM').symm
    · by_cases e2 : k = s.next
      · subst e2
        rw [Rho.set_same] at hM'; cases hM'
        rw [oldρ j e1] at hM
        exact hne j c M (old j c hj e1) hM
      · rw [oldρ j e1] at hM; rw [oldρ k e2] at hM'
        exact h.inj j k c c' M M' hgj (old _ _ hj e1) (old _ _ hk e2) hjk hM hM'
  · by_cases e : j = s.next
    · subst e; rw [Rho.set_same] at hM; cases hM; exact hB
    · rw [oldρ j e] at hM; exact h.own j c M (old j c hj e) hM hgj
  · have := h.base
    exact h.glob j c (old j c hj (by omega)) hlt'
  · have := h.base
    rw [oldρ g (by omega)]; exact h.vars g hgl

/-- A new block. -/
theorem R.new (h : R B ρ σ s w) {b : Blk} {i : Nat} {s' : St} {e : Nat} {ob : Obj} (hs : s.new b = some (i, s')) (k : New w ob w') (hb : BO ρ σ ⟨w.heap.size, 0, e⟩ b ob) :
    ∃ ρ', Ext ρ ρ' ∧ R B ρ' σ s' w' ∧ ρ' i = some ⟨w.heap.size, 0, e⟩ := by
  have h1 : R B ρ σ s w' := ⟨h.fresh, h.base, h.most, fun j c hj => by
      rcases h.live j c hj with hv | ⟨M, o, hM, ho, hbo⟩
      · exact .inl hv
      · exact .inr ⟨M, o, hM, by rw [k.other _ (lt_of_get ho)]; exact ho, hbo⟩, h.virt, h.inj, h.own, h.glob, h.vars, fun j hj => by have := h.size j hj; rw [k.size]; omega, h.nd⟩
  have hx : Ext ρ (ρ.set i ⟨w.heap.size, 0, e⟩) := Rho.ext_set (h.fresh _ (by rw [(St.new_eq hs).1]; exact Nat.le_refl _))
  obtain ⟨h2, h3⟩ := h1.name (L := ⟨w.heap.size, 0, e⟩) (ob := ob) hs k.here (fun hb => absurd (h.size _ hb) (Nat.lt_irrefl _)) (fun j c M hj hM => by
    obtain ⟨o, ho, _⟩ := h.here hj hM
    have := lt_of_get ho
    show M.blk ≠ w.heap.size
    omega) (hb.ext hx)
  exact ⟨_, h2, h3, Rho.set_same _ _ _⟩
end

end Go.Eng

/-! The engine's operations are the machine's (first part). No condition. -/
namespace Go.Eng
open Go.RowKit

/-- What the machine's operation comes to, by what the engine's comes to. -/
def NxOK (B : Base) (ρ ρ' : Rho) (σ : Nat → Value) (w w' : World) (nx : Next) : Res → Prop
  | .val a s' => R B ρ' σ s' w' ∧ ((∃ v, nx = .value v ∧ VR ρ' σ a v) ∨ (nx = .skip ∧ a = undefA))
  | .enter f args s' => R B ρ' σ s' w' ∧ ∃ va, nx = .enter f va ∧ VRs ρ' σ args va.toList
  | .round l args => ρ' = ρ ∧ w' = w ∧ ∃ L va, ρ' l = some L ∧ VRs ρ' σ args va ∧
      ∃ lp : Loop, w.heap[L.blk]? = some (.loop lp) ∧ va.length = lp.params.size ∧
        nx = .round L.blk lp.fn ((lp.params.toList.zip va).foldl (fun tmps (t, a) => tmps.setIfInBounds t a) lp.tmps) lp.assign lp.body
  | .defer (.call f args) => ρ' = ρ ∧ w' = w ∧ ∃ va vc, nx = .defer { target := .fn (.func f) vc, args := va } ∧ VRs ρ' σ args (va ++ vc).toList
  | .defer (.collected _) => False
  | .recover => ρ' = ρ ∧ w' = w ∧ nx = .recover
  | .panic _ => False

def ResOK (B : Base) (ρ : Rho) (σ : Nat → Value) (r : Res) (w : World) : Result Next → Prop
  | .ok nx w' => Kept B.b w w' ∧ ∃ ρ', Ext ρ ρ' ∧ NxOK B ρ ρ' σ w w' nx r
  | .halt (.panic v) w' => w' = w ∧ ∃ a, r = .panic a ∧ VR ρ σ a v
  | _ => False

section
variable {E : Env} {B : Base} {ρ : Rho} {σ : Nat → Value} {s : St} {w : World} {tm : T AV} {ev : Operand → Value}

theorem res_val (h : R B ρ σ s w) {a : AV} {v : Value} (hv : VR ρ σ a v) : ResOK B ρ σ (.val a s) w (.ok (.value v) w) :=
  ⟨Kept.refl _ _, ρ, Ext.refl _, h, .inl ⟨v, rfl, hv⟩⟩

theorem val1_spec {o : Option AV} {r : Res} (h : val1 s o = some r) : ∃ a, o = some a ∧ r = .val a s := by
  unfold val1 at h
  cases o with
  | none => cases h
  | some a => cases h; exact ⟨a, rfl, rfl⟩

theorem ob_spec {α β : Type} {o : Option α} {f : α → Option β} {b : β} (h : ob o f = some b) : ∃ a, o = some a ∧ f a = some b := by
  cases o with
  | none => cases h
  | some a => exact ⟨a, rfl, h⟩

/-- Operands. -/
def EvOK (ρ : Rho) (σ : Nat → Value) (tm : T AV) (ev : Operand → Value) : Prop := ∀ x a, aeval tm x = some a → VR ρ σ a (ev x)

theorem EvOK.of (h : R B ρ σ s w) {nt : Nat} {tmps : Array Value} (tr : TR ρ σ tm nt tmps) {ev : Operand → Value}
    (h1 : ∀ t, ev (.tmp t) = tmps.getD t undef) (h2 : ∀ v, ev (.const v) = v) (h3 : ∀ g, ev (.global g) = .pointer (some ⟨g, 0, none⟩)) (h4 : ∀ f, ev (.func f) = .func (.func f) #[] #[]) :
    EvOK ρ σ tm ev := by
  intro x a hx
  cases x with
  | tmp t => have : aeval tm (.tmp t) = some (tget tm t) := rfl
             rw [this] at hx; cases hx; rw [h1]; exact tr.vals t
  | const v => have : aeval tm (.const v) = absV v := rfl
               rw [this] at hx; rw [h2]; exact absV_rel hx
  | global g =>
    have : aeval tm (.global g) = Bool.rec (motive := fun _ => Option AV) none (some (.ptr g 0)) (Nat.blt g 500) := rfl
    rw [this] at hx
    cases hb : Nat.blt g 500 with
    | false => rw [hb] at hx; cases hx
    | true =>
      rw [hb] at hx; cases hx; rw [h3]
      have hlt : g < vN := by
        have : Nat.ble (g + 1) 500 = true := hb
        exact Nat.le_of_ble_eq_true this
      obtain ⟨L, he, hv⟩ := h.vars g (Nat.lt_of_lt_of_le hlt (by unfold vN gN; omega))
      obtain ⟨h1, h2⟩ := hv hlt
      exact ⟨_, he, by rw [h1, h2]⟩
  | func f => have : aeval tm (.func f) = some (.func f [] []) := rfl
              rw [this] at hx; cases hx; rw [h4]; exact ⟨#[], #[], rfl, rfl, rfl⟩

theorem aevals_rel (he : EvOK ρ σ tm ev) : ∀ {xs : List Operand} {l : List AV}, aevals tm xs = some l → VRs ρ σ l (xs.map ev)
  | [], l, h => by simp [aevals] at h; subst h; rfl
  | x :: xs, l, h => by
    unfold aevals at h
    split at h
    · rename_i v hv
      split at h
      · rename_i vs hvs
        cases h
        exact ⟨_, _, rfl, he x v hv, aevals_rel he hvs⟩
      · cases h
    · cases h

/-! ### Memory -/
theorem addr_add (b o n : Nat) : (⟨b, o, none⟩ : Addr).add n = ⟨b, o + n, none⟩ := by
  unfold Addr.add; split <;> simp_all

theorem cell_at {w : World} {g o : Nat} {c : Array Value} {t : TypeId} {fr : Nat × Nat} (h : w.heap[g]? = some (.cells c t fr)) : w.cell? ⟨g, o, none⟩ = c[o]? := cell_of_row w g o c t fr h

/-- The cells of a known part of a block. -/
theorem cells_known {L : Loc} {cs : List AV} {c : Array Value} (h : VRs ρ σ cs ((c.toList.drop L.sh).take cs.length)) {i : Nat} {a : AV} (hi : cs[i]? = some a) :
    ∃ v, c[L.sh + i]? = some v ∧ VR ρ σ a v := by
  obtain ⟨v, hv, hr⟩ := h.nth hi
  refine ⟨v, ?_, hr⟩
  have hlt : i < cs.length := (List.getElem?_eq_some_iff.1 hi).1
  rw [List.getElem?_take, if_pos hlt, List.getElem?_drop] at hv
  simpa using hv

theorem run_load_known {P : Program} {w : World} {g o : Nat} {c : Array Value} {t : TypeId} {fr : Nat × Nat} {v : Value} (h : w.heap[g]? = some (.cells c t fr)) (hv : c[o]? = some v) :
    (load ⟨g, o, none⟩).run P w = .ok v w := by
  rw [run_load, cell_at h, hv]

/-- So many cells from a place on. -/
theorem run_loadCells_known {P : Program} {w : World} {g o n : Nat} {c : Array Value} {t : TypeId} {fr : Nat × Nat} (h : w.heap[g]? = some (.cells c t fr)) (hn : o + n ≤ c.size) :
    (loadCells ⟨g, o, none⟩ n).run P w = .ok ((c.toList.drop o).take n).toArray w := by
  have hl : ((c.toList.drop o).take n).length = n := by simp; omega
  have := run_loadCells_list (P := P) (w := w) ⟨g, o, none⟩ ((c.toList.drop o).take n) (fun j v hj => by
    rw [addr_add, cell_at h]
    have hjn : j < n := by have := (List.getElem?_eq_some_iff.1 hj).1; omega
    rw [List.getElem?_take, if_pos hjn, List.getElem?_drop] at hj
    simpa using hj)
  rw [hl] at this
  exact this

theorem R.block (h : R B ρ σ s w) {i : Nat} {cs : List AV} {el : TypeId} {wr : Bool} (hi : s.get i = some (.cells cs el wr)) {L : Loc} (hL : ρ i = some L) :
    ∃ c t fr, w.heap[L.blk]? = some (.cells c t fr) ∧ (el ≠ unkT → t = elOf el) ∧ VRs ρ σ cs ((c.toList.drop L.sh).take cs.length) ∧ cs.length ≤ L.ext ∧ L.sh + L.ext ≤ c.size ∧ (wr = true → ∀ o, o < c.size → ¬ (fr.1 ≤ o ∧ o < fr.2)) := by
  obtain ⟨ob, hob, hb⟩ := h.here hi hL
  obtain ⟨c, t, fr, rfl, ht, _, r⟩ := hb
  exact ⟨c, t, fr, hob, ht, r⟩
theorem R.head (h : R B ρ σ s w) {i : Nat} {cs : List AV} {el : TypeId} {wr : Bool} (hi : s.get i = some (.cells cs el wr)) {L : Loc} (hL : ρ i = some L) (he : el < tailN) : L.sh = 0 := by
  obtain ⟨ob, hob, hb⟩ := h.here hi hL
  obtain ⟨c, t, fr, rfl, _, z, _⟩ := hb
  exact z he

theorem take_sub {α : Type} (l : List α) (o n m : Nat) (h : o + n ≤ m) : ((l.take m).drop o).take n = (l.drop o).take n := by
  rw [List.drop_take, List.take_take]
  congr 1
  omega

theorem loadA_spec (ok : EnvOK E) (h : R B ρ σ s w) {t : TypeId} {i o : Nat} {a : AV} (hx : loadA E s t i o = some a) {L : Loc} (hL : ρ i = some L) :
    ∃ v, (loadVar t ⟨L.blk, L.sh + o, none⟩).run E.P w = .ok v w ∧ VR ρ σ a v := by
  unfold loadA at hx
  split at hx
  · cases hx
  rename_i ti hti
  split at hx
  case h_2 => cases hx
  rename_i cs el wr hi
  obtain ⟨c, bt, fr, hc, _, hv, hle, hsz, _⟩ := h.block hi hL
  have hagg := ok.run_isAgg hti w
  have hsize : (sizeOf t).run E.P w = .ok ti.size w := ok.run_sz (by simp [szOf, hti]) w
  split at hx
  · rename_i hA
    split at hx
    case h_2 => cases hx
    rename_i l hl
    cases hx
    obtain ⟨h1, h2⟩ := sub_eq hl
    rw [hA] at hagg
    refine ⟨.agg ((c.toList.drop (L.sh + o)).take ti.size).toArray, ?_, _, rfl, ?_⟩
    · have := run_loadCells_known (P := E.P) (o := L.sh + o) (n := ti.size) hc (by omega)
      simp [loadVar, hagg, hsize, this]
    · rw [h1]
      have := (hv.drop o).take ti.size
      rw [take_sub _ _ _ _ h2, List.drop_drop] at this
      simpa using this
  · rename_i hA
    rw [nth_eq] at hx
    obtain ⟨v, hv1, hv2⟩ := cells_known hv hx
    rw [hA] at hagg
    refine ⟨v, ?_, hv2⟩
    simp only [loadVar, Sem.run_bind, hagg, Result.andThen_ok, Bool.false_eq_true, if_false]
    exact run_load_known (P := E.P) (o := L.sh + o) hc hv1
end
end Go.Eng

/-! The engine's operations are the machine's: stores, new blocks, and the small operations. No condition. -/
namespace Go.Eng
open Go.RowKit

theorem over_eq {α : Type} : ∀ (l : List α) (o : Nat) (vs r : List α), over l o vs = some r → r = l.take o ++ vs ++ l.drop (o + vs.length) ∧ o + vs.length ≤ l.length
  | l, 0, [], r, h => by
    have : over l 0 [] = some l := by cases l <;> rfl
    rw [this] at h; cases h; simp
  | [], 0, v :: vs, r, h => by simp [over] at h
  | a :: l, 0, v :: vs, r, h => by
    unfold over at h
    split at h
    · rename_i r' hr
      cases h
      obtain ⟨h1, h2⟩ := over_eq l 0 vs r' hr
      subst h1
      simp at h2 ⊢
      exact h2
    · cases h
  | [], o + 1, vs, r, h => by simp [over] at h
  | a :: l, o + 1, vs, r, h => by
    unfold over at h
    split at h
    · rename_i r' hr
      cases h
      obtain ⟨h1, h2⟩ := over_eq l o vs r' hr
      subst h1
      refine ⟨?_, by simp; omega⟩
      have : o + 1 + vs.length = (o + vs.length) + 1 := by omega
      simp [this]
    · cases h

theorem splice_list {α : Type} (C vs : List α) (sh o m : Nat) (h : sh + m ≤ C.length) (ho : o + vs.length ≤ m) :
    ((C.take (sh + o) ++ vs ++ C.drop (sh + o + vs.length)).drop sh).take m = ((C.drop sh).take m).take o ++ vs ++ ((C.drop sh).take m).drop (o + vs.length) := by
  have e1 : C.take (sh + o) = C.take sh ++ (C.drop sh).take o := by rw [List.take_add]
  have e2 : C.drop (sh + o + vs.length) = (C.drop sh).drop (o + vs.length) := by rw [List.drop_drop]; congr 1; omega
  have l1 : (C.take sh).length = sh := by simp; omega
  generalize hA : C.take sh = A at *
  generalize hD : C.drop sh = D at *
  have hDl : m ≤ D.length := by rw [← hD]; simp; omega
  rw [e1, e2, List.append_assoc, List.append_assoc, List.drop_append_of_le_length (by omega), ← l1, List.drop_length, List.nil_append]
  have l2 : (D.take o).length = o := by simp; omega
  rw [List.take_append, l2, List.take_append, List.take_take, List.take_take, List.drop_take, List.take_of_length_le (l := vs) (by omega), Nat.min_eq_right (by omega : o ≤ m), Nat.min_eq_left (by omega : o ≤ m), List.append_assoc]
  congr 3
  omega

section
variable {E : Env} {B : Base} {ρ : Rho} {σ : Nat → Value} {s : St} {w : World} {tm : T AV} {ev : Operand → Value}

theorem splice_rel {cs va cs' : List AV} {C vs : List Value} {sh o : Nat} (h : VRs ρ σ cs ((C.drop sh).take cs.length)) (hov : over cs o va = some cs') (hvs : VRs ρ σ va vs) (hl : sh + cs.length ≤ C.length) :
    VRs ρ σ cs' (((C.take (sh + o) ++ vs ++ C.drop (sh + o + vs.length)).drop sh).take cs'.length) ∧ cs'.length = cs.length ∧ o + vs.length ≤ cs.length := by
  obtain ⟨h1, h2⟩ := over_eq _ _ _ _ hov
  have hlen := hvs.length
  have hl' : cs'.length = cs.length := by rw [h1]; simp; omega
  refine ⟨?_, hl', by omega⟩
  rw [hl', splice_list C vs sh o cs.length hl (by omega), h1, ← hlen]
  exact ((h.take o).append hvs).append (h.drop (o + vs.length))

theorem Upd.refl {w : World} {g : Nat} {ob : Obj} (h : w.heap[g]? = some ob) : Upd w g ob w := ⟨rfl, rfl, rfl, rfl, h, fun _ _ => rfl⟩

theorem upd_setCell {w : World} {g o : Nat} {c : Array Value} {t : TypeId} {fr : Nat × Nat} (h : w.heap[g]? = some (.cells c t fr)) (v : Value) :
    Upd w g (.cells (c.setIfInBounds o v) t fr) (w.setCell ⟨g, o, none⟩ v) := by
  refine ⟨rfl, rfl, rfl, by simp, ?_, fun k hk => heap_setCell_other _ _ _ _ hk⟩
  simp [World.setCell, Array.getElem?_modify, h]

theorem frozen_at {w : World} {g o : Nat} {c : Array Value} {t : TypeId} {fr : Nat × Nat} (h : w.heap[g]? = some (.cells c t fr)) (hf : ¬ (fr.1 ≤ o ∧ o < fr.2)) : w.frozen? ⟨g, o, none⟩ = false := by
  obtain ⟨lo, hi⟩ := fr
  simp only [World.frozen?, h]
  simp at hf ⊢
  exact hf

theorem run_storeCells_known {P : Program} {g o : Nat} {t : TypeId} {fr : Nat × Nat} : ∀ (vs : List Value) (i : Nat) (c : Array Value) (w : World), w.heap[g]? = some (.cells c t fr) →
    (∀ o, o < c.size → ¬ (fr.1 ≤ o ∧ o < fr.2)) → o + i + vs.length ≤ c.size → (∀ v ∈ vs, v.oneCell' = true) →
    ∃ w' c', (storeCells ⟨g, o, none⟩ vs i).run P w = .ok () w' ∧ Upd w g (.cells c' t fr) w' ∧ c'.toList = c.toList.take (o + i) ++ vs ++ c.toList.drop (o + i + vs.length) ∧ c'.size = c.size
  | [], i, c, w, h, _, _, _ => ⟨w, c, by simp [storeCells], Upd.refl h, by simp, rfl⟩
  | v :: vs, i, c, w, h, hf, hl, h1 => by
    have hlt : o + i < c.size := by simp at hl; omega
    have hst : (store ⟨g, o + i, none⟩ v).run P w = .ok () (w.setCell ⟨g, o + i, none⟩ v) := by
      rw [run_store P w _ v .plain (h1 v (by simp)), cell_at h, frozen_at h (hf _ hlt)]
      simp [hlt]
    have hu := upd_setCell (o := o + i) h v
    obtain ⟨w', c', hr, hu', hc', hs'⟩ := run_storeCells_known (P := P) (o := o) vs (i + 1) (c.setIfInBounds (o + i) v) _ hu.here (by simpa using hf) (by simp at hl ⊢; omega) (fun u hu => h1 u (by simp [hu]))
    refine ⟨w', c', ?_, hu.trans hu', ?_, by simpa using hs'⟩
    · simp only [storeCells, addr_add, Sem.run_bind, hst, Result.andThen_ok, hr]
    · have hp : o + i < c.toList.length := by simpa using hlt
      have l1 : (c.toList.take (o + i)).length = o + i := by simp; omega
      rw [hc', Array.toList_setIfInBounds, List.set_eq_take_append_cons_drop, if_pos hp]
      have e1 : o + (i + 1) = (c.toList.take (o + i)).length + 1 := by omega
      have e2 : o + (i + 1) + vs.length = (c.toList.take (o + i)).length + (1 + vs.length) := by omega
      rw [e2, e1, List.take_length_add_append, List.drop_length_add_append]
      have e3 : o + i + (v :: vs).length = o + i + 1 + vs.length := by simp; omega
      rw [e3, show (1 + vs.length) = vs.length + 1 by omega, List.drop_succ_cons, List.drop_drop]
      simp

theorem storeA_spec (ok : EnvOK E) (h : R B ρ σ s w) {t : TypeId} {i o : Nat} {a : AV} {s' : St} (hx : storeA E s t i o a = some s') {L : Loc} (hL : ρ i = some L) {v : Value} (hv : VR ρ σ a v) :
    ∃ w', (storeVar t ⟨L.blk, L.sh + o, none⟩ v).run E.P w = .ok () w' ∧ Kept B.b w w' ∧ R B ρ σ s' w' := by
  unfold storeA at hx
  simp only [overF_eq] at hx
  split at hx
  · cases hx
  rename_i ti hti
  split at hx
  case h_2 => cases hx
  rename_i cs el hi
  split at hx
  case h_2 => cases hx
  rename_i hlen
  split at hx
  case h_2 => cases hx
  rename_i hone
  split at hx
  case h_2 => cases hx
  rename_i cs' hov
  cases hx
  obtain ⟨c, bt, fr, hc, hbt, hvs, hle, hsz, hfr⟩ := h.block hi hL
  have hsize : (sizeOf t).run E.P w = .ok ti.size w := ok.run_sz (by simp [szOf, hti]) w
  have hcells := hv.cells'
  have hl := hcells.length
  have hlen' : a.cells.length = ti.size := by rw [← len_eq]; exact Nat.eq_of_beq_eq_true hlen
  obtain ⟨h1, h2, h3⟩ := splice_rel (sh := L.sh) (C := c.toList) hvs hov hcells (by simp; omega)
  obtain ⟨w', c', hr, hu, hc', hs'⟩ := run_storeCells_known (P := E.P) (o := L.sh + o) v.cells.toList 0 c w hc (hfr rfl) (by simp at h3 ⊢; omega) (allOne_spec hone hcells)
  have hg : gN ≤ i := by
    rcases Nat.lt_or_ge i gN with hlt | hge
    · rcases h.glob i _ hi hlt with ⟨_, _, e⟩ | ⟨_, _, e⟩ <;> cases e
    · exact hge
  refine ⟨w', ?_, hu.below (h.own i _ L hi hL hg), h.upd hi hL hg hu ⟨c', bt, fr, rfl, hbt, fun e => h.head hi hL e, ?_, by omega, by omega, fun _ => by rw [hs']; exact hfr rfl⟩⟩
  · have : v.cells.size = ti.size := by rw [← hlen']; simpa using hl
    simp [storeVar, hsize, this, hr]
  · rw [hc']; simpa using h1
end
end Go.Eng

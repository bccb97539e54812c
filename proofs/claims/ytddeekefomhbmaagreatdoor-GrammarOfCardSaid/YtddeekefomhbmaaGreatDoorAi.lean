/- Maps of small numbers: which keys are there, how great what lies there is. A row of maps: edges between left sides; when is all reached. No condition. -/
import Derived.Maps.Views
import Derived.Maps.Range
import Derived.Maps.OwnSet
import Derived.Lib.SlKeysI
import Derived.Test.YtddeekefomhbmaaGreatDoorAb
import Derived.Test.YtddeekefomhbmaaGreatDoorAa
/-! Maps of small numbers: which keys are there, how great what lies there is. -/
namespace Go.Proofs.YtddeekefomhbmaaGreatDoor
open Go Go.Maps Go.WideShapes

/-- The number of an integer value. -/
def valI : Value → Int
  | .int _ a => a
  | _ => 0
theorem wfZ {z : Int} (h0 : -1000000000 ≤ z) (h : z ≤ 1000000000) : (Lit.int .i64 z).wf = true := by
  simp only [Lit.wf, Bool.and_eq_true, decide_eq_true_eq, IntKind.min, IntKind.max, IntKind.signed, IntKind.bits]
  constructor
  · have : (-(2 : Int) ^ (64 - 1)) = -9223372036854775808 := by decide
    simp; omega
  · simp; omega
theorem wfI {k : Nat} (h : k ≤ 1000000000) : (Lit.int .i64 (k : Int)).wf = true := wfZ (by omega) (by omega)
abbrev kI (k : Nat) : Lit := .int .i64 (k : Int)
/-- A map's keys are numbers below N, those of E; what lies there is from 1 to M. -/
structure Num (D : DataW Unit) (N M : Nat) (E : Nat → Prop) : Prop where
  key : ∀ kl, has D kl = true → ∃ k : Nat, k < N ∧ kl = kI k
  mem : ∀ k : Nat, has D (kI k) = true ↔ E k
  val : ∀ k : Nat, E k → ∃ c : Int, 0 < c ∧ c ≤ M ∧ ∀ z, D.atKey (kI k) z = .lit (.int .i64 c)
theorem Num.empty (N M : Nat) : Num (.map []) N M (fun _ => False) := ⟨fun kl h => (by cases h), fun k => ⟨fun h => (by cases h), fun h => h.elim⟩, fun k h => h.elim⟩
theorem kI_key (k : Nat) : WideAt.IsKeyLit (kI k) := trivial
theorem Num.lt {D : DataW Unit} {N M : Nat} {E : Nat → Prop} (h : Num D N M E) {k : Nat} (hk : E k) : k < N := by
  obtain ⟨q, hq, e⟩ := h.key _ ((h.mem k).2 hk)
  have : (k : Int) = q := by injection e
  omega
theorem Num.congr {D : DataW Unit} {N M : Nat} {E F : Nat → Prop} (h : Num D N M E) (e : ∀ k, E k ↔ F k) : Num D N M F := by
  have : E = F := funext fun k => propext (e k)
  rw [← this]; exact h
theorem Num.put {D : DataW Unit} {N M M' : Nat} {E : Nat → Prop} (h : Num D N M E) (hD : IsMap D) {x : Nat} (hx : x < N) {c : Int} (h0 : 0 < c) (hc : c ≤ M') (hM : M ≤ M') : Num (D.put (kI x) (.lit (.int .i64 c))) N M' (fun k => E k ∨ k = x) := by
  have ne : ∀ {k : Nat}, k ≠ x → kI k ≠ kI x := fun {k} h e => h (by
    have : (k : Int) = (x : Int) := congrArg Go.intOf e
    omega)
  refine ⟨fun kl hk => ?_, fun k => ?_, fun k hk => ?_⟩
  · by_cases e : kl = kI x
    · exact ⟨x, hx, e⟩
    · rw [has_put_other e] at hk; exact h.key kl hk
  · by_cases e : k = x
    · subst e; exact ⟨fun _ => .inr rfl, fun _ => has_put_same hD (kI_key _) _⟩
    · rw [has_put_other (ne e), h.mem]; exact ⟨.inl, fun h => h.resolve_right e⟩
  · by_cases e : k = x
    · subst e; exact ⟨c, h0, hc, fun z => atKey_put_same hD (kI_key _) _ z⟩
    · obtain ⟨c', q1, q2, q3⟩ := h.val k (hk.resolve_right e)
      exact ⟨c', q1, by omega, fun z => by rw [atKey_put_other (ne e)]; exact q3 z⟩
theorem Num.look {D : DataW Unit} {N M : Nat} {E : Nat → Prop} (h : Num D N M E) {x : Nat} {c : Int} (hc : D.atKey (kI x) (.lit (.int .i64 0)) = .lit (.int .i64 c)) : (E x → 0 < c ∧ c ≤ M) ∧ (¬ E x → c = 0) := by
  constructor
  · intro hx
    obtain ⟨c', q1, q2, q3⟩ := h.val x hx
    rw [q3] at hc
    have : c' = c := by injection hc with h; injection h
    omega
  · intro hx
    have : has D (kI x) = false := by
      cases hh : has D (kI x) with
      | false => rfl
      | true => exact (hx ((h.mem x).1 hh)).elim
    rw [atKey_of_not_has this] at hc
    have : 0 = c := by injection hc with h; injection h
    omega
theorem nodup_lt : ∀ (n : Nat) (l : List Nat), l.Nodup → (∀ x ∈ l, x < n) → l.length ≤ n
  | 0, l, _, h => by
    cases l with
    | nil => exact Nat.le_refl _
    | cons a l => exact absurd (h a List.mem_cons_self) (by omega)
  | n + 1, l, hn, h => by
    have h1 := nodup_lt n (l.filter fun x => !Nat.beq x n) (hn.filter _) fun x hx => by
      obtain ⟨h2, h3⟩ := List.mem_filter.1 hx
      have := h x h2
      have : x ≠ n := fun e => by subst e; simp at h3
      omega
    have h2 : l.length ≤ (l.filter fun x => !Nat.beq x n).length + 1 := by
      have e : l.filter (fun x => !Nat.beq x n) = l.erase n := by
        rw [hn.erase_eq_filter]
        exact List.filter_congr fun x _ => by
          by_cases e : x = n
          · subst e; simp
          · have h1 : Nat.beq x n = false := by cases h : Nat.beq x n with
              | false => rfl
              | true => exact absurd (Nat.eq_of_beq_eq_true h) e
            rw [h1]; simp [e]
      rw [e, List.length_erase]
      split <;> omega
    omega
variable {P : Program} {kt et : TypeId} {w w' : World} {b n : Nat} {R : Value → Option (DataW Unit × List MemPlace)}
theorem Num.tight {D : DataW Unit} {N M : Nat} {E : Nat → Prop} (h : Num D N M E) (K : Keyed P kt) (ho : w.ownsMap P kt R b n D) : w.ownsMap P kt R b N D := by
  obtain ⟨es, rfl, hp, hl⟩ := ho.entries K
  have hk : ∀ p ∈ es, ∃ k : Nat, k < N ∧ p.1 = kI k := fun p hp' => h.key p.1 (by rw [has_eq]; exact List.any_eq_true.2 ⟨p, hp', WideAt.sameKey_self (hl p hp')⟩)
  have hlen : es.length ≤ N := by
    have h1 := nodup_lt N (es.map fun p => (Go.intOf p.1).toNat) (List.pairwise_map.2 (hp.imp_of_mem fun {p q} hp' hq' hne e => hne (by
      obtain ⟨a, _, ea⟩ := hk p hp'
      obtain ⟨c, _, ec⟩ := hk q hq'
      rw [ea, ec] at e ⊢
      have e : a = c := by simpa [Go.intOf] using e
      rw [e]))) fun x hx => by
      obtain ⟨p, hp', rfl⟩ := List.mem_map.1 hx
      obtain ⟨a, ha, ea⟩ := hk p hp'
      rw [ea]; simpa [Go.intOf] using ha
    simpa using h1
  obtain ⟨es', clock, hb, F, hs, hD⟩ := ho
  refine ⟨es', clock, hb, F, ?_, hD⟩
  have e : es.length = es'.size := by
    have : es = (es'.toList.map (Go.WideElems.rg P kt R)).foldr DataW.insert [] := by injection hD
    rw [this, length_sorted]; simp
  omega
/-- A map at a block. -/
def EdgeAt (P : Program) (kt et : TypeId) (w : World) (b N M : Nat) (E : Nat → Prop) : Prop := ∃ D, w.ownsMap P kt (plainElem P et) b N D ∧ Num D N M E
theorem EdgeAt.kept {N M : Nat} {E : Nat → Prop} (h : EdgeAt P kt et w b N M E) (hb : w'.heap[b]? = w.heap[b]?) : EdgeAt P kt et w' b N M E := by
  obtain ⟨D, ⟨es, clock, h1, h2⟩, hN⟩ := h
  exact ⟨D, ⟨es, clock, hb.trans h1, h2⟩, hN⟩
theorem EdgeAt.lt {N M : Nat} {E : Nat → Prop} (h : EdgeAt P kt et w b N M E) : b < w.heap.size := by
  obtain ⟨D, h, _⟩ := h
  exact h.lt
theorem EdgeAt.more {N M M' : Nat} {E : Nat → Prop} (h : EdgeAt P kt et w b N M E) (hM : M ≤ M') : EdgeAt P kt et w b N M' E := by
  obtain ⟨D, h, h1, h2, h3⟩ := h
  exact ⟨D, h, h1, h2, fun k hk => by obtain ⟨c, q1, q2, q3⟩ := h3 k hk; exact ⟨c, q1, by omega, q3⟩⟩
theorem EdgeAt.congr {N M : Nat} {E F : Nat → Prop} (h : EdgeAt P kt et w b N M E) (e : ∀ k, E k ↔ F k) : EdgeAt P kt et w b N M F := by
  obtain ⟨D, h, h1⟩ := h
  exact ⟨D, h, h1.congr e⟩
theorem mem_intKeys {N M : Nat} {E : Nat → Prop} {D : DataW Unit} (K : Keyed P kt) (ho : w.ownsMap P kt R b n D) (h : Num D N M E) : ∀ x ∈ intKeys D, ∃ k : Nat, x = (k : Int) ∧ E k := by
  obtain ⟨es, rfl, hp, hl⟩ := ho.entries K
  intro x hx
  obtain ⟨p, hp', rfl⟩ := List.mem_map.1 hx
  have hh : has (.map es) p.1 = true := by rw [has_eq]; exact List.any_eq_true.2 ⟨p, hp', WideAt.sameKey_self (hl p hp')⟩
  obtain ⟨k, _, e⟩ := h.key p.1 hh
  rw [e] at hh ⊢
  exact ⟨k, rfl, (h.mem k).1 hh⟩
theorem intKeys_mem {N M : Nat} {E : Nat → Prop} {D : DataW Unit} (h : Num D N M E) {k : Nat} (hk : E k) : (k : Int) ∈ intKeys D := by
  have hh := (h.mem k).2 hk
  cases D <;> try (cases hh; done)
  rename_i es
  rw [has_eq] at hh
  obtain ⟨p, hp, hs⟩ := List.any_eq_true.1 hh
  exact List.mem_map.2 ⟨p, hp, by rw [WideAt.sameKey_eq hs]; rfl⟩
end Go.Proofs.YtddeekefomhbmaaGreatDoor

/-! A row of maps: edges between left sides; when is all reached. -/
namespace Go.Proofs.YtddeekefomhbmaaGreatDoor
open Go Go.Maps Go.WideShapes

/-- A row of N maps. -/
structure St (P : Program) (kt et : TypeId) (base : Nat) (W : World) (T : Nat) (B : Nat → Nat) (N M : Nat) (E : Nat → Nat → Prop) : Prop where
  row : ∀ i, i < N → W.cell? ⟨T, i, none⟩ = some (.map (some (B i)))
  edge : ∀ i, i < N → EdgeAt P kt et W (B i) N M (E i)
  inj : ∀ i j, i < N → j < N → B i = B j → i = j
  ne : ∀ i, i < N → B i ≠ T
  lo : ∀ i, i < N → base ≤ B i
  lt : T < W.heap.size
variable {P : Program} {kt et : TypeId} {base : Nat} {W W' : World} {T N M : Nat} {B : Nat → Nat} {E : Nat → Nat → Prop}
theorem cell_of_block {W W' : World} {b o : Nat} (h : W'.heap[b]? = W.heap[b]?) : W'.cell? ⟨b, o, none⟩ = W.cell? ⟨b, o, none⟩ := by
  simp only [World.cell?, h]
/-- Blocks that are none of these may turn. -/
theorem St.kept (h : St P kt et base W T B N M E) (hs : W.heap.size ≤ W'.heap.size) (hk : ∀ k, k < W.heap.size → (k = T ∨ ∃ i, i < N ∧ k = B i) → W'.heap[k]? = W.heap[k]?) : St P kt et base W' T B N M E :=
  ⟨fun i hi => (cell_of_block (hk T h.lt (.inl rfl))).trans (h.row i hi), fun i hi => (h.edge i hi).kept (hk _ (h.edge i hi).lt (.inr ⟨i, hi, rfl⟩)), h.inj, h.ne, h.lo, Nat.lt_of_lt_of_le h.lt hs⟩
theorem St.grown (h : St P kt et base W T B N M E) {r : Option Nat} (hg : W.grownBy W' r) (hr : ∀ k, r = some k → k ≠ T ∧ ∀ i, i < N → k ≠ B i) : St P kt et base W' T B N M E :=
  h.kept hg.size fun k hk hq => hg.block k hk fun e => by
    obtain ⟨h1, h2⟩ := hr k e.symm
    rcases hq with rfl | ⟨i, hi, rfl⟩
    · exact h1 rfl
    · exact h2 i hi rfl
theorem St.alloc (h : St P kt et base W T B N M E) (o : Obj) : St P kt et base (W.alloc o) T B N M E := h.grown (World.grownBy_alloc W o none) fun _ e => by cases e
theorem St.more {M' : Nat} (h : St P kt et base W T B N M E) (hM : M ≤ M') : St P kt et base W T B N M' E := ⟨h.row, fun i hi => (h.edge i hi).more hM, h.inj, h.ne, h.lo, h.lt⟩
/-- One map has turned. -/
theorem St.upd {M' : Nat} (h : St P kt et base W T B N M E) (hM : M ≤ M') {i : Nat} (hi : i < N) (hg : W.grownBy W' (some (B i))) {F : Nat → Prop} (he : EdgeAt P kt et W' (B i) N M' F) : St P kt et base W' T B N M' (fun j => if j = i then F else E j) := by
  have hk : ∀ k, k < W.heap.size → k ≠ B i → W'.heap[k]? = W.heap[k]? := fun k hk hn => hg.block k hk fun e => hn (by injection e)
  refine ⟨fun j hj => (cell_of_block (hk T h.lt (h.ne i hi).symm)).trans (h.row j hj), fun j hj => ?_, h.inj, h.ne, h.lo, Nat.lt_of_lt_of_le h.lt hg.size⟩
  by_cases e : j = i
  · subst e; rw [if_pos rfl]; exact he
  · rw [if_neg e]
    exact ((h.edge j hj).more hM).kept (hk _ (h.edge j hj).lt fun e2 => e (h.inj j i hj hi e2))

/-! ### The closure -/
/-- All ways of so many steps are there. -/
def Lev (R : List GRule) (N t : Nat) (E : Nat → Nat → Prop) : Prop := ∀ d i k, d ≤ t + 1 → k < N → Way R d i k → E i k
def Snd (R : List GRule) (N : Nat) (E : Nat → Nat → Prop) : Prop := ∀ i k, i < N → E i k → k < N ∧ ∃ d, Way R d i k
theorem Lev.next {R : List GRule} {N t : Nat} (hN : ∀ r ∈ R, r.1 < N) {E F : Nat → Nat → Prop} (h : Lev R N t E) (hF : ∀ i k, i < N → E i k → F i k) (hc : ∀ i, i < N → ∀ m x, E i m → E m x → F i x) : Lev R N (t + 1) F := by
  intro d i k hd hk hw
  have hi : i < N := by
    have : ∀ {d n k : Nat}, Way R d n k → n < N := by
      intro d
      induction d with
      | zero => exact fun h => h.elim
      | succ d ih =>
        intro n k h
        rcases h with h | ⟨m, h1, _⟩
        · obtain ⟨r, hr, e⟩ := h.left
          rw [← e]; exact hN r hr
        · exact ih h1
    exact this hw
  cases d with
  | zero => exact hw.elim
  | succ d =>
    rcases hw with hw | ⟨m, h1, h2⟩
    · exact hF i k hi (h 1 i k (by omega) hk (.inl hw))
    · have hm : m < N := by
        obtain ⟨r, hr, e⟩ := h2.left
        rw [← e]; exact hN r hr
      exact hc i hi m k (h d i m (by omega) hm h1) (h 1 m k (by omega) hk (.inl h2))
theorem Snd.join {R : List GRule} {N : Nat} {E : Nat → Nat → Prop} (h : Snd R N E) {i m x : Nat} (hi : i < N) (h1 : E i m) (h2 : E m x) : x < N ∧ ∃ d, Way R d i x := by
  obtain ⟨hm, d, hd⟩ := h i m hi h1
  obtain ⟨hx, e, he⟩ := h m x hm h2
  exact ⟨hx, _, hd.join he⟩
theorem Lev.loop {R : List GRule} {N : Nat} (hN : ∀ r ∈ R, r.1 < N) {E : Nat → Nat → Prop} (h : Lev R N N E) (hs : Snd R N E) : (∃ i, i < N ∧ E i i) ↔ Loopy R := by
  constructor
  · rintro ⟨i, hi, h1⟩
    obtain ⟨_, d, hd⟩ := hs i i hi h1
    exact ⟨i, d, hd⟩
  · intro hl
    obtain ⟨n, hn, hw⟩ := hl.short hN
    exact ⟨n, hn, h N n n (by omega) hn hw⟩
/-- So far: are all symbols but one such as may be nothing? -/
def restB (f : Option Nat → Bool) (l : List (Option Nat)) (q : Nat) : Nat → Bool
  | 0 => true
  | p + 1 => restB f l q p && (Nat.beq p q || f (l.getD p none))
theorem restB_iff {f : Option Nat → Bool} {l : List (Option Nat)} {q : Nat} : ∀ {p : Nat}, restB f l q p = true ↔ ∀ j, j < p → j ≠ q → f (l.getD j none) = true
  | 0 => ⟨fun _ j h => by omega, fun _ => rfl⟩
  | p + 1 => by
    show (restB f l q p && (Nat.beq p q || f (l.getD p none))) = true ↔ _
    rw [Bool.and_eq_true, Bool.or_eq_true, restB_iff]
    constructor
    · rintro ⟨h1, h2⟩ j hj hn
      rcases Nat.lt_or_ge j p with h | h
      · exact h1 j h hn
      · obtain rfl : j = p := by omega
        exact h2.resolve_left fun e => hn (Nat.eq_of_beq_eq_true e)
    · intro h
      refine ⟨fun j hj => h j (by omega), ?_⟩
      by_cases e : p = q
      · exact .inl (by rw [e]; exact Nat.beq_refl q)
      · exact .inr (h p (by omega) e)
/-- The first steps: what the rules, so far, say. -/
def Step1 (R : List GRule) (r : GRule) (i : Nat) (k : Nat) : Prop := r.2[i]? = some (some k) ∧ ∀ j, j ≠ i → ∀ s, r.2[j]? = some s → ∃ q, s = some q ∧ Nul R q
theorem step_iff {R : List GRule} {n k : Nat} : Step R n k ↔ ∃ r ∈ R, r.1 = n ∧ ∃ i, Step1 R r i k := by
  constructor
  · rintro ⟨r, hr, e, a, b, e2, hs⟩
    refine ⟨r, hr, e, a.length, by rw [e2]; simp, fun j hj s hs' => ?_⟩
    rw [e2] at hs'
    refine hs s ?_
    rcases Nat.lt_or_ge j a.length with h1 | h1
    · rw [List.getElem?_append_left h1] at hs'
      exact List.mem_append_left _ (List.mem_of_getElem? hs')
    · obtain ⟨q, rfl⟩ := Nat.exists_eq_add_of_le h1
      rw [List.getElem?_append_right h1, Nat.add_sub_cancel_left] at hs'
      cases q with
      | zero => omega
      | succ q => exact List.mem_append_right _ (List.mem_of_getElem? (by simpa using hs'))
  · rintro ⟨r, hr, e, i, h1, h2⟩
    have hi : i < r.2.length := (List.getElem?_eq_some_iff.1 h1).1
    refine ⟨r, hr, e, r.2.take i, r.2.drop (i + 1), ?_, fun s hs => ?_⟩
    · have h3 : r.2[i] = some k := (List.getElem?_eq_some_iff.1 h1).2
      rw [← h3]
      exact (List.take_append_drop i r.2).symm.trans (by rw [List.drop_eq_getElem_cons hi])
    · rcases List.mem_append.1 hs with h | h
      · obtain ⟨j, hj⟩ := List.getElem?_of_mem h
        rw [List.getElem?_take] at hj
        split at hj
        · exact h2 j (by omega) s hj
        · cases hj
      · obtain ⟨j, hj⟩ := List.getElem?_of_mem h
        rw [List.getElem?_drop] at hj
        exact h2 (i + 1 + j) (by omega) s hj
end Go.Proofs.YtddeekefomhbmaaGreatDoor

/- Days as they are told: plain laws. The words' tables in memory; numerals; what lies ahead of a year, months by the document. No condition. -/
import Derived.Test.YtnnhijfbdkokkaaGreatDoorWc
import Derived.Test.YtnnhijfbdkokkaaGreatDoorRf0
import Derived.Test.YtnnhijfbdkokkaaGreatDoorRf1
import Derived.Test.YtnnhijfbdkokkaaGreatDoorRf2
import Derived.Test.YtnnhijfbdkokkaaGreatDoorRf3
import Derived.Test.YtnnhijfbdkokkaaGreatDoorE14
/-! Days as they are told: plain laws. -/
namespace Go.Proofs.YtnnhijfbdkokkaaGreatDoor
open Go Go.Eng Go.RowKit
noncomputable section
set_option maxRecDepth 100000

theorem nats_iff {a b : List UInt8} : nats a = nats b ↔ a = b := by
  refine ⟨fun h => ?_, fun h => by rw [h]⟩
  induction a generalizing b with
  | nil => cases b with
    | nil => rfl
    | cons c b => cases h
  | cons c a ih => cases b with
    | nil => cases h
    | cons d b =>
      simp only [nats, List.map_cons, List.cons.injEq] at h
      rw [UInt8.toNat_inj.1 h.1, ih h.2]
def wdB : List (List (List Nat)) := [[[109,111,110,100,97,121], [116,117,101,115,100,97,121], [119,101,100,110,101,115,100,97,121], [116,104,117,114,115,100,97,121], [102,114,105,100,97,121], [115,97,116,117,114,100,97,121], [115,117,110,100,97,121]],
  [[109,111,110,116,97,103], [100,105,101,110,115,116,97,103], [109,105,116,116,119,111,99,104], [100,111,110,110,101,114,115,116,97,103], [102,114,101,105,116,97,103], [115,97,109,115,116,97,103], [115,111,110,110,116,97,103]],
  [[108,117,110,100,105], [109,97,114,100,105], [109,101,114,99,114,101,100,105], [106,101,117,100,105], [118,101,110,100,114,101,100,105], [115,97,109,101,100,105], [100,105,109,97,110,99,104,101]],
  [[112,111,110,105,101,100,122,105,97,197,130,101,107], [119,116,111,114,101,107], [197,155,114,111,100,97], [99,122,119,97,114,116,101,107], [112,105,196,133,116,101,107], [115,111,98,111,116,97], [110,105,101,100,122,105,101,108,97]]]
def moB : List (List (List Nat)) := [[[106,97,110,117,97,114,121], [102,101,98,114,117,97,114,121], [109,97,114,99,104], [97,112,114,105,108], [109,97,121], [106,117,110,101], [106,117,108,121], [97,117,103,117,115,116], [115,101,112,116,101,109,98,101,114], [111,99,116,111,98,101,114], [110,111,118,101,109,98,101,114], [100,101,99,101,109,98,101,114]],
  [[106,97,110,117,97,114], [102,101,98,114,117,97,114], [109,195,164,114,122], [97,112,114,105,108], [109,97,105], [106,117,110,105], [106,117,108,105], [97,117,103,117,115,116], [115,101,112,116,101,109,98,101,114], [111,107,116,111,98,101,114], [110,111,118,101,109,98,101,114], [100,101,122,101,109,98,101,114]],
  [[106,97,110,118,105,101,114], [102,195,169,118,114,105,101,114], [109,97,114,115], [97,118,114,105,108], [109,97,105], [106,117,105,110], [106,117,105,108,108,101,116], [97,111,195,187,116], [115,101,112,116,101,109,98,114,101], [111,99,116,111,98,114,101], [110,111,118,101,109,98,114,101], [100,195,169,99,101,109,98,114,101]],
  [[115,116,121,99,122,110,105,117], [108,117,116,121,109], [109,97,114,99,117], [107,119,105,101,116,110,105,117], [109,97,106,117], [99,122,101,114,119,99,117], [108,105,112,99,117], [115,105,101,114,112,110,105,117], [119,114,122,101,197,155,110,105,117], [112,97,197,186,100,122,105,101,114,110,105,107,117], [108,105,115,116,111,112,97,100,122,105,101], [103,114,117,100,110,105,117]]]
def wdA (k i : Nat) : List Nat := pick [] (pick [] wdB k) i
def moA (k i : Nat) : List Nat := pick [] (pick [] moB k) i
def toB (l : List Nat) : List UInt8 := l.map UInt8.ofNat
def k4 : List Nat := [0, 1, 2, 3]
def w7 : List Nat := [0, 1, 2, 3, 4, 5, 6]
def m12 : List Nat := [0, 1, 2, 3, 4, 5, 6, 7, 8, 9, 10, 11]
theorem mem_k4 {k : Nat} (h : k < 4) : k ∈ k4 := by
  have : ∀ k, k < 4 → k ∈ k4 := by decide
  exact this k h
theorem mem_w7 {k : Nat} (h : k < 7) : k ∈ w7 := by
  have : ∀ k, k < 7 → k ∈ w7 := by decide
  exact this k h
theorem mem_m12 {k : Nat} (h : k < 12) : k ∈ m12 := by
  have : ∀ k, k < 12 → k ∈ m12 := by decide
  exact this k h
def okW (l : List Nat) : Bool := allB (fun c => Nat.blt c 256 && !Nat.beq c 32) l && Nat.blt (len l) 20
theorem wd_okW : allB (fun k => allB (fun i => okW (wdA k i)) w7) k4 = true := by kernel_rfl
theorem mo_okW : allB (fun k => allB (fun i => okW (moA k i)) m12) k4 = true := by kernel_rfl
theorem mo_apart : allB (fun k => allB (fun o => allB (fun i => allB (fun j => Nat.beq i j || !eqNats (moA k i) (moA o j)) m12) m12) k4) k4 = true := by kernel_rfl
theorem nats_toB' : ∀ {l : List Nat}, allB (fun c => Nat.blt c 256 && !Nat.beq c 32) l = true → nats (toB l) = l
  | [], _ => rfl
  | c :: l, h => by
    simp only [allB, Bool.and_eq_true] at h
    have hc : c < 256 := Nat.le_of_ble_eq_true h.1.1
    show (UInt8.ofNat c).toNat :: nats (toB l) = c :: l
    rw [nats_toB' h.2, UInt8.toNat_ofNat']
    congr 1; omega
theorem nats_toB {l : List Nat} (h : okW l = true) : nats (toB l) = l := by
  unfold okW at h
  rw [Bool.and_eq_true] at h
  exact nats_toB' h.1
theorem toB_bare {l : List Nat} (h : okW l = true) : 32 ∉ toB l := by
  intro hm
  have h0 := h
  unfold okW at h
  rw [Bool.and_eq_true] at h
  have hm' : (32 : UInt8).toNat ∈ nats (toB l) := List.mem_map.2 ⟨_, hm, rfl⟩
  rw [nats_toB h0] at hm'
  have := allB_spec h.1 _ hm'
  simp at this
theorem toB_len {l : List Nat} (h : okW l = true) : (toB l).length < 20 := by
  unfold okW at h
  rw [Bool.and_eq_true, blt_iff, decide_eq_true_iff, len_eq] at h
  unfold toB
  rw [List.length_map]; exact h.2
theorem wd_ok7 {k i : Nat} (hk : k < 4) (hi : i < 7) : okW (wdA k i) = true := allB_spec (allB_spec wd_okW k (mem_k4 hk)) i (mem_w7 hi)
theorem mo_ok12 {k i : Nat} (hk : k < 4) (hi : i < 12) : okW (moA k i) = true := allB_spec (allB_spec mo_okW k (mem_k4 hk)) i (mem_m12 hi)
theorem mo_inj {k o i j : Nat} (hk : k < 4) (ho : o < 4) (hi : i < 12) (hj : j < 12) (e : toB (moA k i) = toB (moA o j)) : i = j := by
  have h := allB_spec (allB_spec (allB_spec (allB_spec mo_apart k (mem_k4 hk)) o (mem_k4 ho)) i (mem_m12 hi)) j (mem_m12 hj)
  rw [Bool.or_eq_true] at h
  rcases h with h | h
  · exact Nat.eq_of_beq_eq_true h
  · exfalso
    have e2 : moA k i = moA o j := by rw [← nats_toB (mo_ok12 hk hi), ← nats_toB (mo_ok12 ho hj), e]
    rw [e2, eqNats_eq] at h
    simp at h

theorem tail_inj {fs gs : List (List UInt8)} {t u : List UInt8} (hf : bare fs) (ht : 32 ∉ t) (hg : bare gs) (hu : 32 ∉ u) (e : tailS fs t = tailS gs u) : fs = gs ∧ t = u := by
  have h1 := count_tail fs t hf ht
  have h2 := count_tail gs u hg hu
  have hl : fs.length = gs.length := by rw [← h1, ← h2, e]
  have s1 := split_tail fs t hf ht
  have s2 := split_tail gs u hg hu
  rw [e, hl, s2] at s1
  have h := List.append_inj' s1 rfl
  exact ⟨h.1.symm, by simpa using h.2.symm⟩

theorem tail_len_le : ∀ (fs : List (List UInt8)) (t : List UInt8), t.length ≤ (tailS fs t).length ∧ fs.length ≤ (tailS fs t).length
  | [], t => ⟨Nat.le_refl _, Nat.zero_le _⟩
  | f :: fs, t => by
    obtain ⟨h1, h2⟩ := tail_len_le fs t
    show t.length ≤ (f ++ 32 :: tailS fs t).length ∧ fs.length + 1 ≤ (f ++ 32 :: tailS fs t).length
    rw [List.length_append, List.length_cons]
    omega

/-! ### Dates are the days' own -/
theorem Dated.lo {n y mm d : Nat} (h : Dated n y mm d) : aheadN y < n := by
  have := h.e; have := h.d1; omega
theorem Dated.mon {n y mm d : Nat} (h : Dated n y mm d) : daysM (leapB (y : Int)) (mm - 1) < n - aheadN y ∧ n - aheadN y ≤ daysM (leapB (y : Int)) mm := by
  have e := h.e; have := h.d1; have d2 := h.d2; have m1 := h.m1
  obtain ⟨j, rfl⟩ : ∃ j, mm = j + 1 := ⟨mm - 1, by omega⟩
  have es : daysM (leapB (y : Int)) (j + 1) = daysM (leapB (y : Int)) j + longN (leapB (y : Int)) (j + 1) := rfl
  rw [show j + 1 - 1 = j by omega] at e ⊢
  omega
theorem Dated.hi {n y mm d : Nat} (h : Dated n y mm d) : n ≤ aheadN (y + 1) := by
  have h1 := h.mon.2
  have h2 := daysM_mono (leapB (y : Int)) h.m2
  have h3 := days12 (leapB (y : Int))
  have h4 := ahead_step y h.y1
  cases hb : leapB (y : Int) <;> (rw [hb] at h1 h2 h3 h4; simp at h3 h4; omega)
theorem Dated.range {n y mm d : Nat} (h : Dated n y mm d) : 1 ≤ n ∧ n ≤ 3652059 := by
  have h1 := h.lo
  have h2 := h.hi
  have h3 := ahead_mono (y := y + 1) (z := 10000) (by omega) (by have := h.y2; omega)
  have e : aheadN 10000 = 3652059 := by decide
  omega
theorem Dated.uniq {n y mm d y' mm' d' : Nat} (h : Dated n y mm d) (k : Dated n y' mm' d') : y = y' ∧ mm = mm' ∧ d = d' := by
  have yy : y = y' := by
    have a1 := h.lo; have a2 := h.hi; have b1 := k.lo; have b2 := k.hi
    rcases Nat.lt_trichotomy y y' with c | c | c
    · have := ahead_mono (y := y + 1) (z := y') (by omega) (by omega); omega
    · exact c
    · have := ahead_mono (y := y' + 1) (z := y) (by omega) (by omega); omega
  subst yy
  have mm_ : mm = mm' := by
    have a := h.mon; have b := k.mon
    rcases Nat.lt_trichotomy mm mm' with c | c | c
    · have := daysM_mono (leapB (y : Int)) (a := mm) (b := mm' - 1) (by omega); omega
    · exact c
    · have := daysM_mono (leapB (y : Int)) (a := mm') (b := mm - 1) (by omega); omega
  subst mm_
  refine ⟨rfl, rfl, ?_⟩
  have := h.e; have := k.e; omega
theorem Dated.back {n n' y mm d : Nat} (h : Dated n y mm d) (k : Dated n' y mm d) : n = n' := by
  have := h.e; have := k.e; omega

/-! ### Texts -/
def lineT (k n y mm d : Nat) : List UInt8 := tailS [toB (wdA k ((n - 1) % 7)), Lib.decDigits d, toB (moA k (mm - 1))] (Lib.decDigits y)
open Classical in
/-- A day's text in a language. -/
def lineF (k n : Nat) : List UInt8 := if h : ∃ T : List UInt8, ∃ y mm d, Dated n y mm d ∧ T = lineT k n y mm d then Classical.choose h else []
theorem lineF_eq {k n y mm d : Nat} (h : Dated n y mm d) : lineF k n = lineT k n y mm d := by
  have hx : ∃ T : List UInt8, ∃ y mm d, Dated n y mm d ∧ T = lineT k n y mm d := ⟨_, y, mm, d, h, rfl⟩
  unfold lineF
  rw [dif_pos hx]
  obtain ⟨y', mm', d', h', e⟩ := Classical.choose_spec hx
  obtain ⟨rfl, rfl, rfl⟩ := h.uniq h'
  exact e
/-- The same, of any number. -/
def lineI (k : Nat) (z : Int) : List UInt8 := if 1 ≤ z ∧ z ≤ 3652059 then lineF k z.toNat else []
theorem lineI_nat {k n : Nat} (h1 : 1 ≤ n) (h2 : n ≤ 3652059) : lineI k (n : Int) = lineF k n := by
  unfold lineI
  rw [if_pos (by omega), Int.toNat_natCast]
theorem dec_bare (u : Nat) : 32 ∉ Lib.decDigits u := fun hm => by
  have := digits_all u 32 hm
  exact absurd this.1 (by decide)
theorem dec_inj {u v : Nat} (h : Lib.decDigits u = Lib.decDigits v) : u = v := by rw [← nv_dec u, ← nv_dec v, h]
theorem line_bare {k n y mm d : Nat} (hk : k < 4) (h : Dated n y mm d) : bare [toB (wdA k ((n - 1) % 7)), Lib.decDigits d, toB (moA k (mm - 1))] := by
  intro f hf
  simp only [List.mem_cons, List.mem_nil_iff, or_false] at hf
  rcases hf with rfl | rfl | rfl
  · exact toB_bare (wd_ok7 hk (Nat.mod_lt _ (by omega)))
  · exact dec_bare d
  · exact toB_bare (mo_ok12 hk (by have := h.m1; have := h.m2; omega))
/-- Texts, whatever the languages, are of one day alone. -/
theorem line_inj {k o n n' : Nat} (hk : k < 4) (ho : o < 4) (h1 : 1 ≤ n) (h2 : n ≤ 3652059) (h1' : 1 ≤ n') (h2' : n' ≤ 3652059) (e : lineF k n = lineF o n') : n = n' := by
  obtain ⟨y, mm, d, h⟩ := dated n h1 h2
  obtain ⟨y', mm', d', h'⟩ := dated n' h1' h2'
  rw [lineF_eq h, lineF_eq h'] at e
  obtain ⟨e1, e2⟩ := tail_inj (line_bare hk h) (dec_bare y) (line_bare ho h') (dec_bare y') e
  simp only [List.cons.injEq] at e1
  obtain ⟨_, e3, e4, _⟩ := e1
  have ey := dec_inj e2
  have ed := dec_inj e3
  have em := mo_inj hk ho (by have := h.m1; have := h.m2; omega) (by have := h'.m1; have := h'.m2; omega) e4
  have em : mm = mm' := by have := h.m1; have := h'.m1; omega
  subst ey; subst ed; subst em
  exact h.back h'
theorem nDigits_dec (u : Nat) : (Lib.decDigits u).length = Lib.nDigits u := Lib.decDigits_length u
theorem line_len {k n : Nat} (hk : k < 4) : (lineF k n).length ≤ 60 := by
  unfold lineF
  split
  · rename_i hx
    obtain ⟨y, mm, d, h, e⟩ := Classical.choose_spec hx
    rw [e]
    have a := toB_len (wd_ok7 (k := k) (i := (n - 1) % 7) hk (Nat.mod_lt _ (by omega)))
    have b := toB_len (mo_ok12 (k := k) (i := mm - 1) hk (by have := h.m1; have := h.m2; omega))
    have c := nDigits_le 1 d (by have := h.d31; omega)
    have c' := nDigits_le 3 y (by have := h.y2; omega)
    have c2 := Lib.decDigits_length d
    have c3 := Lib.decDigits_length y
    unfold lineT
    simp only [tailS, List.length_append, List.length_cons]
    omega
  · simp
theorem lineI_len {k : Nat} (hk : k < 4) (z : Int) : (lineI k z).length ≤ 60 := by
  unfold lineI
  split
  · exact line_len hk
  · simp
theorem line_ne {k n : Nat} (h1 : 1 ≤ n) (h2 : n ≤ 3652059) : lineF k n ≠ [] := by
  obtain ⟨y, mm, d, h⟩ := dated n h1 h2
  rw [lineF_eq h]
  unfold lineT tailS
  simp
end
end Go.Proofs.YtnnhijfbdkokkaaGreatDoor

/-! The words' tables in memory; numerals; what lies ahead of a year, months by the document. -/
namespace Go.Proofs.YtnnhijfbdkokkaaGreatDoor
open Go Go.Eng Go.RowKit
noncomputable section
set_option maxRecDepth 100000

/-! ### Tables -/
def tabI (k : Nat) : Img := pick englishImg [englishImg, germanImg, frenchImg, polishImg] k
def tabX (k : Nat) : List Blk := toX (tabI k)
theorem tab_okB : allB (fun k => (tabI k).bs.all okB && Nat.blt 0 (len (tabI k).bs)) k4 = true := by kernel_rfl
theorem tab_fit : allB (fun k => fitX gl (tabX k)) k4 = true := by kernel_rfl
theorem tab_ptr : ∀ k, k < 4 → (tabI k).v = .ptr (gN + 0) 0 := by
  intro k hk
  match k, hk with
  | 0, _ | 1, _ | 2, _ | 3, _ => rfl
theorem tabX_len (k : Nat) : (tabX k).length = (tabI k).bs.length := List.length_map _
/-- A language's table lies there, and the errors' variables do. -/
def tabW (k : Nat) (ρt : Rho) (w : World) : Prop := HasX (tabX k) ρt w ∧ errV w
/-- Where it lies. -/
def PtrX (k : Nat) (ρt : Rho) (p : Value) : Prop := ∃ L : Eng.Loc, ρt xN = some L ∧ p = .pointer (some ⟨L.blk, L.sh, none⟩) ∧ isX (tabX k).length xN = true
theorem tabW_hold {k : Nat} {ρt : Rho} {b : Nat → Prop} {w : World} (h : tabW k ρt w) (hb : ∀ i L, isX (tabX k).length i = true → ρt i = some L → b L.blk) (he : Hold errV b w) : Hold (tabW k ρt) b w :=
  ⟨h, fun w1 w2 h1 hK => ⟨(HasX.hold h.1 hb).keep w1 w2 h1.1 hK, he.keep w1 w2 h1.2 hK⟩⟩
theorem hasX_lt {bs : List Blk} {ρt : Rho} {w : World} (h : HasX bs ρt w) {i : Nat} {L : Eng.Loc} (hi : isX bs.length i = true) (hL : ρt i = some L) : L.blk < w.heap.size := by
  have hi := isX_iff.1 hi
  obtain ⟨b, hb⟩ : ∃ b, bs[i - xN]? = some b := ⟨_, List.getElem?_eq_getElem (by omega)⟩
  obtain ⟨L', ob, e1, e2, _⟩ := h _ b hb
  rw [show xN + (i - xN) = i by omega] at e1
  rw [e1] at hL; cases hL
  exact lt_of_get e2
theorem tabW_all (k : Nat) (ρt : Rho) (w : World) (h : tabW k ρt w) : Hold (tabW k ρt) (fun j => j < w.heap.size) w :=
  tabW_hold h (fun _ _ hi hL => hasX_lt h.1 hi hL) (errV_hold w h.2)
abbrev CT (k : Nat) (ρt : Rho) (f : FuncId) (va : Array Value) (u : Value) : Prop := CallsV Tryz.prog gl f va u (tabW k ρt)
def Et (k : Nat) (ρt : Rho) : Env := { E0 with V := tabW k ρt }
theorem envEt (k : Nat) (ρt : Rho) : EnvOK (Et k ρt) := ⟨envOK.ty, envOK.fns, envOK.mixed⟩
/-- A closed run over a table is a contract. -/
theorem CT.script {k : Nat} {ρt : Rho} (hk : k < 4) {σ : Nat → Value} {f : FuncId} {args : List AV} {n : Nat} {v : AV} {va : Array Value} {u : Value} {orows : List OR} {krows : List KR}
    (ho : ∀ m, ∀ r ∈ orows, RowOK ((Et k ρt).ask 9 orows (memoK gl krows)) 9 (withM σ m) r) (hkr : ∀ m, ∀ r ∈ krows, KRow Tryz.prog gl (withM σ m) r.f r.args r.img (tabW k ρt))
    (run : rowRunX ((Et k ρt).askH 9 orows (memoKH gl krows)) gl (tabX k) f args n v = true) (ha : ∀ m ρ, (∀ i, isX (tabX k).length i = true → ρ i = ρt i) → VRs ρ (withM σ m) args va.toList) (hu : ∀ m, VR (fun _ => none) (withM σ m) v u) (ht : tellsV v = true) : CT k ρt f va u :=
  CallsV.scriptX (E := Et k ρt) (ρt := ρt) (envEt k ρt) 9 glOK (allB_spec tab_fit k (mem_k4 hk)) ho hkr (rowRunX_H run) ha hu ht (fun _ h => h.1) (fun w h => tabW_all k ρt w h)
theorem PtrX.vr {k : Nat} {ρt ρ : Rho} {σ : Nat → Value} {p : Value} (h : PtrX k ρt p) (hρ : ∀ i, isX (tabX k).length i = true → ρ i = ρt i) : VR ρ σ (.ptr xN 0) p := by
  obtain ⟨L, hL, e, hx⟩ := h
  exact ⟨L, by rw [hρ _ hx]; exact hL, e⟩

/-! ### Numerals -/
theorem c_itoaE (n : Int) (h0 : -9223372036854775808 ≤ n) (h1 : n ≤ 9223372036854775807) : CE fItoa #[.int .i64 n] (strV (Lib.itoa n)) := by
  intro w _ hv
  refine (Tryz.strconv_Itoa n h0 h1 w hv.1).mono ?_
  rintro e w' ⟨rfl, k, os, rfl⟩
  exact ⟨rfl, Lib.below_grow _ w (Nat.le_refl _) k os⟩
/-- Atoi at any string, as a row, whatever else stands. -/
theorem kr_atoiV {V : World → Prop} (i : ∀ w, V w → errV w) {σ : Nat → Value} {m : Int} (hm : σ kM = .int .i64 m) {a b : AV} {l : List UInt8} (ha : tellsV a = true) (hg : plainG a = true) (hl : l.length ≤ 1000000) (h1 : VR (fun _ => none) σ a (strV l)) (hp : plainA b = true) (h2 : VR (fun _ => none) σ b (.int .i64 (atoiN l))) :
    KRow Tryz.prog gl σ fAtoi [a] ⟨.tuple [b, errA (atoiB l)], []⟩ V := by
  have hgs : [a].all plainG = true := by rw [List.all_cons, hg]; rfl
  have hts : [a].all tellsV = true := by rw [List.all_cons, ha]; rfl
  cases hB : atoiB l with
  | true =>
    have e : Lib.atoiAll l = .ok (atoiN l) := by
      unfold atoiB at hB
      unfold atoiN
      split at hB
      · rename_i n e; rw [e]
      · cases hB
    exact KRow.ofC hm hts hgs (va := #[strV l]) ⟨_, _, rfl, h1, rfl⟩ (.inr ⟨_, rfl, by rw [List.all_cons, hp]; rfl⟩) (u := .tuple #[.int .i64 (atoiN l), .nilIface]) ⟨_, rfl, _, _, rfl, h2, _, _, rfl, rfl, rfl⟩ (CallsV.more (c_atoiL l _ hl e) i)
  | false =>
    refine KRow.err hgs hp (PRow.ofV glOK gl_bareM gl_has hm fun w va hva _ hV => ?_)
    have e : va = #[strV l] := Array.ext' (tellsVs_funs hts hva ⟨_, _, rfl, h1, rfl⟩)
    subst e
    refine (c_atoi_err l (by omega) hB w (i w hV)).mono fun e w' ⟨N, q1, q2⟩ => ⟨_, q1, ⟨_, rfl, _, _, rfl, h2, _, _, rfl, ⟨_, rfl, rfl⟩, rfl⟩, q2⟩

def sgNu (l : List UInt8) : Nat → Value
  | 0 => strV l
  | 1 => .int .i64 (atoiN l)
  | 2 => strV (Lib.itoa (atoiN l))
  | _ => .nilIface
def krNu (a : Bool) : List KR := [⟨fAtoi, [.sym 0], ⟨.tuple [.sym 1, errA a], []⟩⟩, ⟨fItoa, [.sym 1], ⟨.sym 2, []⟩⟩]
def orNu (b : Bool) : List OR := [⟨11, [.sym 2, .sym 0], .bool b⟩]
theorem runNu : ∀ a b : Bool, rowRunG (Ee.askM 9 (orNu b) [] (memoKH gl (krNu a))) gl fNumber [.sym 0] 300 (.tuple [.sym 1, .bool (a && b)]) = true := by
  intro a b
  cases a <;> cases b <;> kernel_rfl
/-- Digits, no nought ahead: any string. -/
def isNum (l : List UInt8) : Bool := atoiB l && decide (Lib.itoa (atoiN l) = l)
theorem c_number (l : List UInt8) (hl : l.length ≤ 1000000) : CE fNumber #[strV l] (.tuple #[.int .i64 (atoiN l), .bool (isNum l)]) := by
  have hb := atoiN_bounds l
  refine CallsV.scriptM (E := Ee) envEe rfl (σ := sgNu l) (orows := orNu (decide (Lib.itoa (atoiN l) = l))) (mrows := []) (krows := krNu (atoiB l)) (fun m r hr => ?_) (fun m r hr => by cases hr) (fun m r hr => ?_) (runNu _ _) (fun m => ⟨_, _, rfl, ⟨rfl, rfl⟩, rfl⟩) (fun m => ⟨_, rfl, _, _, rfl, ⟨rfl, rfl⟩, _, _, rfl, rfl, rfl⟩) rfl errV_hold
  · simp only [orNu, List.mem_cons, List.mem_nil_iff, or_false] at hr
    subst hr
    refine RowOK.seq (p := nats (Lib.itoa (atoiN l))) (q := nats l) rfl rfl (.inl ⟨rfl, ?_⟩)
    rw [decide_eq_decide]
    exact nats_iff.symm
  · simp only [krNu, List.mem_cons, List.mem_nil_iff, or_false] at hr
    rcases hr with rfl | rfl
    · exact kr_atoiV (fun _ h => h) (withM_kM _ _) rfl rfl hl ⟨rfl, rfl⟩ rfl ⟨rfl, rfl⟩
    · exact KRow.ofC (withM_kM _ _) rfl rfl (va := #[.int .i64 (atoiN l)]) ⟨_, _, rfl, ⟨rfl, rfl⟩, rfl⟩ (.inl rfl) (u := strV (Lib.itoa (atoiN l))) ⟨rfl, rfl⟩ (c_itoaE _ hb.1 hb.2)
theorem num_dec (y : Nat) (h : y < 9223372036854775808) : atoiN (Lib.decDigits y) = (y : Int) ∧ isNum (Lib.decDigits y) = true := by
  have h1 : atoiN (Lib.decDigits y) = (y : Int) := by unfold atoiN; rw [atoi_dec h]
  refine ⟨h1, ?_⟩
  unfold isNum
  rw [h1]
  unfold atoiB
  rw [atoi_dec h, Lib.itoa_nonneg]
  simp

/-! ### Years, by the document -/
def sgAh (y : Int) : Nat → Value
  | 0 => .int .i64 y
  | 1 => .int .i64 (y - 1)
  | 2 => .int .i64 (365 * (y - 1))
  | 3 => .int .i64 ((y - 1).tdiv 4)
  | 4 => .int .i64 (365 * (y - 1) + (y - 1).tdiv 4)
  | 5 => .int .i64 ((y - 1).tdiv 100)
  | 6 => .int .i64 (-1 * (y - 1).tdiv 100)
  | 7 => .int .i64 (365 * (y - 1) + (y - 1).tdiv 4 - (y - 1).tdiv 100)
  | 8 => .int .i64 ((y - 1).tdiv 400)
  | 9 => .int .i64 (aheadI y)
  | _ => .nilIface
def orAh : List OR := [⟨1, [.sym 0, .int .i64 1], .sym 1⟩, ⟨2, [.int .i64 365, .sym 1], .sym 2⟩, ⟨3, [.sym 1, .int .i64 4], .sym 3⟩, ⟨2, [.int .i64 1, .sym 3], .sym 3⟩, ⟨0, [.sym 2, .sym 3], .sym 4⟩, ⟨3, [.sym 1, .int .i64 100], .sym 5⟩, ⟨2, [.int .i64 (-1), .sym 5], .sym 6⟩, ⟨0, [.sym 4, .sym 6], .sym 7⟩, ⟨3, [.sym 1, .int .i64 400], .sym 8⟩, ⟨2, [.int .i64 1, .sym 8], .sym 8⟩, ⟨0, [.sym 7, .sym 8], .sym 9⟩]
theorem runAh : rowRun (E0.askH 9 orAh (memoKH glC [])) glC fAhead1 [.sym 0] 500 (.sym 9) = true := by kernel_rfl
theorem c_ahead1 {y : Int} (h1 : 1 ≤ y) (h2 : y ≤ 20000) : CV fAhead1 #[.int .i64 y] (.int .i64 (aheadI y)) := by
  have d4 : (y - 1).tdiv 4 = (y - 1) / 4 := Int.tdiv_eq_ediv_of_nonneg (by omega)
  have d100 : (y - 1).tdiv 100 = (y - 1) / 100 := Int.tdiv_eq_ediv_of_nonneg (by omega)
  have d400 : (y - 1).tdiv 400 = (y - 1) / 400 := Int.tdiv_eq_ediv_of_nonneg (by omega)
  refine CallsV.script (E := E0) envOK 9 (σ := sgAh y) (orows := orAh) (krows := []) (fun m r hr => ?_) (fun m r hr => by cases hr) (rowRun_H runAh) (fun m => ⟨_, _, rfl, ⟨rfl, rfl⟩, rfl⟩) (fun m => ⟨rfl, rfl⟩) rfl
  simp only [orAh, List.mem_cons, List.mem_nil_iff, or_false] at hr
  rcases hr with rfl | rfl | rfl | rfl | rfl | rfl | rfl | rfl | rfl | rfl | rfl
  · exact RowOK.sub64 (x := y) (y := 1) rfl rfl rfl rfl (by omega) (by omega)
  · exact RowOK.mul64 (x := 365) (y := y - 1) rfl rfl rfl rfl (by omega) (by omega)
  · exact RowOK.quo64 (x := y - 1) (y := 4) rfl rfl rfl (by decide) rfl (by omega) (by omega)
  · exact RowOK.mul64 (x := 1) (y := (y - 1).tdiv 4) rfl rfl rfl (by omega) (by omega) (by omega)
  · exact RowOK.add64 (x := 365 * (y - 1)) (y := (y - 1).tdiv 4) rfl rfl rfl rfl (by omega) (by omega)
  · exact RowOK.quo64 (x := y - 1) (y := 100) rfl rfl rfl (by decide) rfl (by omega) (by omega)
  · exact RowOK.mul64 (x := -1) (y := (y - 1).tdiv 100) rfl rfl rfl rfl (by omega) (by omega)
  · exact RowOK.add64 (x := 365 * (y - 1) + (y - 1).tdiv 4) (y := -1 * (y - 1).tdiv 100) rfl rfl rfl (by omega) (by omega) (by omega)
  · exact RowOK.quo64 (x := y - 1) (y := 400) rfl rfl rfl (by decide) rfl (by omega) (by omega)
  · exact RowOK.mul64 (x := 1) (y := (y - 1).tdiv 400) rfl rfl rfl (by omega) (by omega) (by omega)
  · exact RowOK.add64 (x := 365 * (y - 1) + (y - 1).tdiv 4 - (y - 1).tdiv 100) (y := (y - 1).tdiv 400) rfl rfl rfl (by unfold aheadI; omega) (by unfold aheadI; omega) (by unfold aheadI; omega)

/-! ### Months, by the document -/
def sgLe (y : Int) : Nat → Value
  | 0 => .int .i64 y
  | 1 => .int .i64 (y.tmod 400)
  | 2 => .int .i64 (y.tmod 4)
  | 3 => .int .i64 (y.tmod 100)
  | _ => .nilIface
def orLe (a b c : Bool) : List OR := [⟨4, [.sym 0, .int .i64 400], .sym 1⟩, ⟨11, [.sym 1, .int .i64 0], .bool a⟩, ⟨4, [.sym 0, .int .i64 4], .sym 2⟩, ⟨11, [.sym 2, .int .i64 0], .bool b⟩, ⟨4, [.sym 0, .int .i64 100], .sym 3⟩, ⟨12, [.sym 3, .int .i64 0], .bool c⟩]
theorem runLe : ∀ a b c : Bool, rowRun (E0.askH 9 (orLe a b c) (memoKH glC [])) glC fLeap1 [.sym 0] 200 (.bool (a || (b && c))) = true := by
  intro a b c
  cases a <;> cases b <;> cases c <;> kernel_rfl
theorem leap_same {y : Int} (h : 1 ≤ y) : (decide (y.tmod 400 = 0) || (decide (y.tmod 4 = 0) && !decide (y.tmod 100 = 0))) = leapB y := by
  unfold leapB
  have t4 : y.tmod 4 = y % 4 := Int.tmod_eq_emod_of_nonneg (by omega)
  have t100 : y.tmod 100 = y % 100 := Int.tmod_eq_emod_of_nonneg (by omega)
  have t400 : y.tmod 400 = y % 400 := Int.tmod_eq_emod_of_nonneg (by omega)
  rw [t4, t100, t400]
  by_cases h400 : y % 400 = 0
  · have h4 : y % 4 = 0 := by omega
    simp [h400, h4]
  · simp [h400]
theorem c_leap1 {y : Int} (h : 1 ≤ y) : CV fLeap1 #[.int .i64 y] (.bool (leapB y)) := by
  rw [← leap_same h]
  refine CallsV.script (E := E0) envOK 9 (σ := sgLe y) (orows := orLe (decide (y.tmod 400 = 0)) (decide (y.tmod 4 = 0)) (!decide (y.tmod 100 = 0))) (krows := []) (fun m r hr => ?_) (fun m r hr => by cases hr) (rowRun_H (runLe _ _ _)) (fun m => ⟨_, _, rfl, ⟨rfl, rfl⟩, rfl⟩) (fun m => rfl) rfl
  simp only [orLe, List.mem_cons, List.mem_nil_iff, or_false] at hr
  rcases hr with rfl | rfl | rfl | rfl | rfl | rfl
  · exact RowOK.rem .i64 (x := y) (y := 400) rfl rfl rfl (by decide) rfl
  · exact RowOK.cmp .i64 (x := y.tmod 400) (y := 0) rfl rfl (.inl ⟨rfl, rfl⟩)
  · exact RowOK.rem .i64 (x := y) (y := 4) rfl rfl rfl (by decide) rfl
  · exact RowOK.cmp .i64 (x := y.tmod 4) (y := 0) rfl rfl (.inl ⟨rfl, rfl⟩)
  · exact RowOK.rem .i64 (x := y) (y := 100) rfl rfl rfl (by decide) rfl
  · exact RowOK.cmp .i64 (x := y.tmod 100) (y := 0) rfl rfl (.inr (.inl ⟨rfl, rfl⟩))
theorem runLg : ∀ l : Bool, allB (fun m => rowRun (E0.askH 9 [] (memoKH glC [⟨fLeap1, [.sym 0], ⟨.bool l, []⟩⟩])) glC fLong1 [.sym 0, .int .i64 (Int.ofNat m)] 300 (.int .i64 (Int.ofNat (longN l m)))) months12 = true := by
  intro l
  cases l <;> kernel_rfl
theorem c_long1 {y : Int} (h : 1 ≤ y) {m : Nat} (h1 : 1 ≤ m) (h2 : m ≤ 12) : CV fLong1 #[.int .i64 y, .int .i64 m] (.int .i64 (longN (leapB y) m)) := by
  refine CallsV.script (E := E0) envOK 9 (σ := sgY y) (orows := []) (krows := [⟨fLeap1, [.sym 0], ⟨.bool (leapB y), []⟩⟩]) (fun m r hr => by cases hr) (fun m r hr => ?_) (rowRun_H (allB_spec (runLg (leapB y)) m (months12_mem h1 h2))) (fun _ => ⟨_, _, rfl, ⟨rfl, rfl⟩, _, _, rfl, rfl, rfl⟩) (fun _ => rfl) rfl
  simp only [List.mem_cons, List.mem_nil_iff, or_false] at hr
  subst hr
  exact KRow.ofV glC_OK glC_bare rfl rfl (va := #[.int .i64 y]) ⟨_, _, rfl, ⟨rfl, rfl⟩, rfl⟩ (.inl rfl) (u := .bool (leapB y)) rfl (c_leap1 h)
end
end Go.Proofs.YtnnhijfbdkokkaaGreatDoor

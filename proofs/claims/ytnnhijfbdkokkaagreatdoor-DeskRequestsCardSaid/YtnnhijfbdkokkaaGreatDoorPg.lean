/- Where the listed variables read as the program lays them, the engine's state of the variables holds. No condition. -/
import Derived.Test.YtnnhijfbdkokkaaGreatDoorPv
import Derived.Test.YtnnhijfbdkokkaaGreatDoorNa
namespace Go.Proofs.YtnnhijfbdkokkaaGreatDoor
open Go Go.Eng Go.RowKit
set_option maxRecDepth 100000

abbrev Tryz.laid21 : List (String × DataW Unit) := Rows.deskRequestsRow.laid

theorem addr_eta {a : Addr} (h : a.spot = none) : a = ⟨a.block, a.off, none⟩ := by cases a; cases h; rfl

/-- What 'forms' holds: words, and integers in blocks behind. -/
theorem forms_laid {W : World} (h : laidMet Tryz.prog Tryz.laid21 W) (hs : W.ShapedOpen Tryz.prog) : ∃ (a0 a1 a2 a3 : Addr) (c : Array Value) (fr : Nat × Nat), W.heap[0]? = some (.cells c 109 fr) ∧ (∃ b0 b1 b2 b3 : ByteArray,
      c.toList = [.string b0, .slice (some ⟨a0.block, a0.off, none⟩) 3 3, .string b1, .slice (some ⟨a1.block, a1.off, none⟩) 2 2, .string b2, .slice (some ⟨a2.block, a2.off, none⟩) 7 7, .string b3, .slice (some ⟨a3.block, a3.off, none⟩) 1 1] ∧
      b0.data.toList = [112, 97, 114, 115, 101] ∧ b1.data.toList = [100, 101, 115, 99, 114, 105, 98, 101] ∧ b2.data.toList = [112, 114, 101, 118, 105, 101, 119] ∧ b3.data.toList = [99, 104, 101, 99, 107]) ∧
    (∃ c t fr, W.heap[a0.block]? = some (.cells c t fr) ∧ a0.off + ([0, 1, 3] : List Int).length ≤ c.size ∧ (c.toList.drop a0.off).take ([0, 1, 3] : List Int).length = ([0, 1, 3] : List Int).map (Value.int .i64)) ∧
    (∃ c t fr, W.heap[a1.block]? = some (.cells c t fr) ∧ a1.off + ([0, 3] : List Int).length ≤ c.size ∧ (c.toList.drop a1.off).take ([0, 3] : List Int).length = ([0, 3] : List Int).map (Value.int .i64)) ∧
    (∃ c t fr, W.heap[a2.block]? = some (.cells c t fr) ∧ a2.off + ([0, 1, 1, 1, 2, 2, 3] : List Int).length ≤ c.size ∧ (c.toList.drop a2.off).take ([0, 1, 1, 1, 2, 2, 3] : List Int).length = ([0, 1, 1, 1, 2, 2, 3] : List Int).map (Value.int .i64)) ∧
    (∃ c t fr, W.heap[a3.block]? = some (.cells c t fr) ∧ a3.off + ([3] : List Int).length ≤ c.size ∧ (c.toList.drop a3.off).take ([3] : List Int).length = ([3] : List Int).map (Value.int .i64)) := by
  have hg : Tryz.prog.globalNamed "kalends/wire.forms" = some 0 := by kernel_rfl
  have ht : (Tryz.prog.globals[0]?).map (·.type) = some 109 := by kernel_rfl
  have hel : (((begin Tryz.prog (fun _ _ => 0) default).world.heap[0]?).bind Obj.row?).map (·.2) = some 109 := by kernel_rfl
  have hlt : 0 < Tryz.prog.globals.size := Nat.le_of_ble_eq_true (by kernel_rfl)
  have hm : ("kalends/wire.forms", (Rows.laid_kalends_wire_forms : DataW Unit)) ∈ Tryz.laid21 := by simp [Tryz.laid21, Rows.deskRequestsRow]
  obtain ⟨ps, hl, _⟩ := h
  obtain ⟨g', t', cs, fuel, p, h1, h2, h3, h4⟩ := laid_at hl _ hm
  obtain rfl := Option.some.inj (hg.symm.trans h1)
  obtain rfl := Option.some.inj (ht.symm.trans h2)
  obtain ⟨⟨zero, el'⟩, hz, he⟩ := Option.map_eq_some_iff.1 hel
  obtain ⟨cs2, hc, _⟩ := hs.1 0 zero el' hlt hz
  unfold World.var? at h3
  rw [h1] at h3
  simp only [Option.bind_some, hc, Option.some.injEq] at h3
  subst h3
  have he : el' = 109 := he
  subst he
  have u109 : Tryz.prog.underlying 109 = some (.array 4 108) := Tryz.underlying109
  obtain ⟨f', c0, c1, c2, c3, c4, c5, c6, c7, p0, p1, p2, p3, hcs, g0, g1, g2, g3⟩ := trod_four u109 (by kernel_rfl) (by kernel_rfl) h4
  have key : ∀ {c0 c1 : Value} {s : List UInt8} {zs : List Int} {p : List MemPlace}, zs ≠ [] → DataW.trod (fun _ => ()) Tryz.prog W 0 (fun _ => true) false f' 108 [c0, c1] = some (.agg [.lit (.string s), .slice (zs.map fun z => .lit (.int .i64 z)) []], p) →
      (∃ bs : ByteArray, c0 = .string bs ∧ bs.data.toList = s) ∧ ∃ a : Addr, c1 = .slice (some a) zs.length zs.length ∧ a.spot = none ∧ ∃ c t' fr, W.heap[a.block]? = some (.cells c t' fr) ∧ a.off + zs.length ≤ c.size ∧ (c.toList.drop a.off).take zs.length = zs.map (Value.int .i64) :=
    fun hz h => trod_form (fs := _) (f0 := _) (f1 := _) Tryz.underlying108 rfl (by kernel_rfl) (by kernel_rfl) (by kernel_rfl) (by kernel_rfl) (by kernel_rfl) Tryz.underlying9 Tryz.underlying107 (by kernel_rfl) (by kernel_rfl) hz h
  obtain ⟨⟨b0, rfl, hb0⟩, a0, rfl, s0, k0⟩ := key (zs := [0, 1, 3]) (by simp) g0
  obtain ⟨⟨b1, rfl, hb1⟩, a1, rfl, s1, k1⟩ := key (zs := [0, 3]) (by simp) g1
  obtain ⟨⟨b2, rfl, hb2⟩, a2, rfl, s2, k2⟩ := key (zs := [0, 1, 1, 1, 2, 2, 3]) (by simp) g2
  obtain ⟨⟨b3, rfl, hb3⟩, a3, rfl, s3, k3⟩ := key (zs := [3]) (by simp) g3
  refine ⟨a0, a1, a2, a3, cs2, _, hc, ⟨b0, b1, b2, b3, ?_, hb0, hb1, hb2, hb3⟩, k0, k1, k2, k3⟩
  rw [hcs, ← addr_eta s0, ← addr_eta s1, ← addr_eta s2, ← addr_eta s3]
  rfl

/-- The variables' state, wherever they lie as laid. -/
theorem vars_laid21 {W : World} (h : laidMet Tryz.prog Tryz.laid21 W) (hs : W.ShapedOpen Tryz.prog) : ∃ m, ∀ σ : Nat → Value, σ 900 = .int .i64 m → ∃ ρ, R (.at W.heap.size) ρ σ (stOf gl2) W := by
  obtain ⟨m, frm, hmax⟩ := maxLen_laid hs
  obtain ⟨a0, a1, a2, a3, cf, frf, hf, ⟨b0, b1, b2, b3, hcf, hb0, hb1, hb2, hb3⟩, k0, k1, k2, k3⟩ := forms_laid h hs
  refine ⟨m, fun σ hσ => ?_⟩
  have mem : ∀ y, y ∈ Tryz.laid21 ↔ y ∈ Rows.deskRequestsRow.laid := fun _ => Iff.rfl
  let loc : Nat → Eng.Loc := fun i => if i = 500 then ⟨a0.block, a0.off, 3⟩ else if i = 501 then ⟨a1.block, a1.off, 2⟩ else if i = 502 then ⟨a2.block, a2.off, 7⟩ else if i = 503 then ⟨a3.block, a3.off, 1⟩ else
    ⟨i, 0, match gl2.find? (fun x => Nat.beq x.g i) with | some x => x.cs.length | none => 0⟩
  refine ⟨_, R.init' (σ := σ) (w := W) glOK2 loc (fun g hg => ?_) (fun x hx => ?_)⟩
  · have hg : g < 500 := hg
    have e : loc g = ⟨g, 0, match gl2.find? (fun x => Nat.beq x.g g) with | some x => x.cs.length | none => 0⟩ := by
      show (if g = 500 then _ else if g = 501 then _ else if g = 502 then _ else if g = 503 then _ else _) = _
      rw [if_neg (by omega), if_neg (by omega), if_neg (by omega), if_neg (by omega)]
    rw [e]; exact ⟨rfl, rfl⟩
  · have pv : ∀ {nm : String} {d : DataW Unit} {g t el : Nat}, (nm, d) ∈ Tryz.laid21 → Tryz.prog.globalNamed nm = some g → (Tryz.prog.globals[g]?).map (·.type) = some t → okT Tryz.prog 4 t = true → g < Tryz.prog.globals.size →
        (((begin Tryz.prog (fun _ _ => 0) default).world.heap[g]?).bind Obj.row?).map (·.2) = some el → ∃ c fr, W.heap[g]? = some (.cells c el fr) ∧ VRs (fun _ => none) σ (flatD d) c.toList :=
      fun h1 h2 h3 h4 h5 h6 => plain_var h hs h1 h2 h3 4 h4 h5 h6
    have ml : ∀ {nm : String} {d : DataW Unit}, (nm, d) ∈ Rows.deskRequestsRow.laid → (nm, d) ∈ Tryz.laid21 := fun h => h
    simp only [Rows.deskRequestsRow] at ml
    have hlen : ∀ x ∈ gl2, x.g < 500 → loc x.g = ⟨x.g, 0, x.cs.length⟩ := by
      intro x hx hg
      have e : loc x.g = ⟨x.g, 0, match gl2.find? (fun y => Nat.beq y.g x.g) with | some y => y.cs.length | none => 0⟩ := by
        show (if x.g = 500 then _ else if x.g = 501 then _ else if x.g = 502 then _ else if x.g = 503 then _ else _) = _
        rw [if_neg (by omega), if_neg (by omega), if_neg (by omega), if_neg (by omega)]
      rw [e]
      have hall : allB (fun x => Nat.beq (match gl2.find? (fun y => Nat.beq y.g x.g) with | some y => len y.cs | none => 0) (len x.cs)) gl2 = true := by kernel_rfl
      have := Nat.eq_of_beq_eq_true (allB_spec hall x hx)
      cases hfd : gl2.find? (fun y => Nat.beq y.g x.g) with
      | none => rw [hfd] at this; simp only [len_eq] at this ⊢; rw [this]
      | some y => rw [hfd] at this; simp only [len_eq] at this ⊢; rw [this]
    have hl := hlen x hx
    simp only [gl2, formsG, gl, List.cons_append, List.nil_append, List.mem_cons, List.mem_nil_iff, or_false] at hx
    rcases hx with rfl | rfl | rfl | rfl | rfl | rfl | rfl | rfl | rfl | rfl | rfl | rfl | rfl | rfl | rfl | rfl | rfl
    · refine ⟨cf, 109, frf, by rw [hl (by decide)]; exact hf, fun _ => rfl, fun _ => by rw [hl (by decide)], ?_, by rw [hl (by decide)]; exact Nat.le_refl _, by rw [hl (by decide), ← Array.length_toList, hcf]; exact Nat.le_refl _⟩
      rw [hl (by decide)]
      show VRs _ σ _ ((cf.toList.drop 0).take 8)
      rw [hcf]
      have sl : ∀ (i n : Nat) (a : Addr), loc i = ⟨a.block, a.off, n⟩ → i < gN → VR (rho0 loc) σ (.slice i 0 n n 1) (.slice (some ⟨a.block, a.off, none⟩) n n) := by
        intro i n a hi hig
        refine ⟨loc i, _, n, by unfold rho0; rw [if_pos hig], rfl, Nat.le_refl _, Nat.le_refl _, .inr ⟨by rw [hi]; rfl, ?_⟩⟩
        rw [hi]; show 0 + n * 1 ≤ n; omega
      have st : ∀ (b : ByteArray) (l : List UInt8), b.data.toList = l → VR (rho0 loc) σ (.str (l.map UInt8.toNat)) (.string b) := fun b l hb => ⟨b, rfl, by unfold bytesNat; rw [hb]⟩
      exact ⟨_, _, rfl, st _ _ hb0, _, _, rfl, sl 500 3 a0 rfl (by unfold gN; omega), _, _, rfl, st _ _ hb1, _, _, rfl, sl 501 2 a1 rfl (by unfold gN; omega), _, _, rfl, st _ _ hb2, _, _, rfl, sl 502 7 a2 rfl (by unfold gN; omega), _, _, rfl, st _ _ hb3, _, _, rfl, sl 503 1 a3 rfl (by unfold gN; omega), rfl⟩
    · exact holds_ints (zs := [0, 1, 3]) k0 rfl
    · exact holds_ints (zs := [0, 3]) k1 rfl
    · exact holds_ints (zs := [0, 1, 1, 1, 2, 2, 3]) k2 rfl
    · exact holds_ints (zs := [3]) k3 rfl
    · exact holds_plain (allB_spec (p := plainA) (by kernel_rfl)) (Nat.le_of_ble_eq_true (by kernel_rfl)) (pv (nm := "kalends/civil.months") (ml (by simp)) (by kernel_rfl) (t := 171) (by kernel_rfl) (by kernel_rfl) (Nat.le_of_ble_eq_true (by kernel_rfl)) (by kernel_rfl)) (hl (by decide))
    · exact holds_plain (allB_spec (p := plainA) (by kernel_rfl)) (Nat.le_of_ble_eq_true (by kernel_rfl)) (iface_var (nm := "strconv.ErrSyntax") (t := 38) h hs (D := Rows.laid_strconv_ErrSyntax) (ml (by simp)) rfl (by kernel_rfl) (by kernel_rfl) Tryz.underlying38 (Nat.le_of_ble_eq_true (by kernel_rfl)) (by kernel_rfl)) (hl (by decide))
    · exact holds_plain (allB_spec (p := plainA) (by kernel_rfl)) (Nat.le_of_ble_eq_true (by kernel_rfl)) (iface_var (nm := "strconv.ErrRange") (t := 38) h hs (D := Rows.laid_strconv_ErrRange) (ml (by simp)) rfl (by kernel_rfl) (by kernel_rfl) Tryz.underlying38 (Nat.le_of_ble_eq_true (by kernel_rfl)) (by kernel_rfl)) (hl (by decide))
    · exact holds_plain (allB_spec (p := plainA) (by kernel_rfl)) (Nat.le_of_ble_eq_true (by kernel_rfl)) (pv (nm := "kalends/rfc.freqs") (ml (by simp)) (by kernel_rfl) (t := 215) (by kernel_rfl) (by kernel_rfl) (Nat.le_of_ble_eq_true (by kernel_rfl)) (by kernel_rfl)) (hl (by decide))
    · exact holds_plain (allB_spec (p := plainA) (by kernel_rfl)) (Nat.le_of_ble_eq_true (by kernel_rfl)) ⟨_, frm, hmax, _, _, rfl, ⟨hσ.symm, rfl⟩, rfl⟩ (hl (by decide))
    · exact holds_plain (allB_spec (p := plainA) (by kernel_rfl)) (Nat.le_of_ble_eq_true (by kernel_rfl)) (pv (nm := "kalends/rfc.weekdays") (ml (by simp)) (by kernel_rfl) (t := 307) (by kernel_rfl) (by kernel_rfl) (Nat.le_of_ble_eq_true (by kernel_rfl)) (by kernel_rfl)) (hl (by decide))
    · exact holds_plain (allB_spec (p := plainA) (by kernel_rfl)) (Nat.le_of_ble_eq_true (by kernel_rfl)) (pv (nm := "internal/strconv.uint64pow10") (ml (by simp)) (by kernel_rfl) (t := 324) (by kernel_rfl) (by kernel_rfl) (Nat.le_of_ble_eq_true (by kernel_rfl)) (by kernel_rfl)) (hl (by decide))
    · exact holds_plain (allB_spec (p := plainA) (by kernel_rfl)) (Nat.le_of_ble_eq_true (by kernel_rfl)) (pv (nm := "unicode/utf8.first") (ml (by simp)) (by kernel_rfl) (t := 342) (by kernel_rfl) (by kernel_rfl) (Nat.le_of_ble_eq_true (by kernel_rfl)) (by kernel_rfl)) (hl (by decide))
    · exact holds_plain (allB_spec (p := plainA) (by kernel_rfl)) (Nat.le_of_ble_eq_true (by kernel_rfl)) (pv (nm := "unicode/utf8.acceptRanges") (ml (by simp)) (by kernel_rfl) (t := 345) (by kernel_rfl) (by kernel_rfl) (Nat.le_of_ble_eq_true (by kernel_rfl)) (by kernel_rfl)) (hl (by decide))
    · exact holds_plain (allB_spec (p := plainA) (by kernel_rfl)) (Nat.le_of_ble_eq_true (by kernel_rfl)) (pv (nm := "kalends/table.many") (ml (by simp)) (by kernel_rfl) (t := 349) (by kernel_rfl) (by kernel_rfl) (Nat.le_of_ble_eq_true (by kernel_rfl)) (by kernel_rfl)) (hl (by decide))
    · exact holds_plain (allB_spec (p := plainA) (by kernel_rfl)) (Nat.le_of_ble_eq_true (by kernel_rfl)) (pv (nm := "math/bits.deBruijn32tab") (ml (by simp)) (by kernel_rfl) (t := 438) (by kernel_rfl) (by kernel_rfl) (Nat.le_of_ble_eq_true (by kernel_rfl)) (by kernel_rfl)) (hl (by decide))
    · exact holds_plain (allB_spec (p := plainA) (by kernel_rfl)) (Nat.le_of_ble_eq_true (by kernel_rfl)) (pv (nm := "math/bits.deBruijn64tab") (ml (by simp)) (by kernel_rfl) (t := 439) (by kernel_rfl) (by kernel_rfl) (Nat.le_of_ble_eq_true (by kernel_rfl)) (by kernel_rfl)) (hl (by decide))
end Go.Proofs.YtnnhijfbdkokkaaGreatDoor

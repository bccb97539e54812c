/- LinesReads: the walk. No condition. -/
import Derived.Test.YtnnhijfbdkokkaaGreatDoorMo
import Derived.Test.YtnnhijfbdkokkaaGreatDoorMv
namespace Go.Proofs.YtnnhijfbdkokkaaGreatDoor
open Go Go.Eng Go.ChangeShapes Go.WideShapes Go.ChangeAt Go.RowKit
noncomputable section
set_option maxRecDepth 100000

/-! ### To behind a call of Split -/
theorem via_split {k : Nat} {ρt : Rho} {V : World → Prop} {o mr : List OR} {kr : List KR} {b : Nat → Prop} {ρ0 : Rho} {σ : Nat → Value} {cs : List Frame} {m mc m2 : AM} {M : Machine} {w0 w : World} {n t0 i0 f nt : Nat} {keep θ : List (Nat × AV)} {td : List AItem} {s : List UInt8} {fa : List (List UInt8)} {ta : List UInt8} (hVT : V = tabW k ρt)
    (ok : EnvS (ER V o mr kr) σ) (mo : MemoOK (ER V o mr kr) σ) (hvars : Vars gl w0) (hb : ∀ j, j < w0.heap.size → b j) (hB0 : Below w0.heap.size w0 w) (hold : Hold V b w) (h : Live (ER V o mr kr) b ρ0 σ cs m M w)
    (hrun : runS (ER V o mr kr) (atCall fSplit) n m = some mc) (hfr : enterA (ER V o mr kr) fSplit [.sym 0, .str [32]] .normal = some mc.fr) (hdst : dstIs mc t0 = true) (hm2 : behind mc = some m2) (htd : m2.fr.todo = td) (hgen : genOK gl [] f nt keep [] θ [] [t0] m2 = true)
    (hk : tget (patT nt keep) t0 = .sym i0) (hno : noD td = true) (hs0 : σ 0 = strV s) (hs : s.length ≤ 1000) (hba : bare fa) (ht : 32 ∉ ta) (es : tailS fa ta = s) :
    ∃ N M2 w2, Steps Tryz.prog M M2 ∧ Below w0.heap.size w0 w2 ∧ memR k ρt N (fa ++ [ta]) w2 ∧ ∀ σ' : Nat → Value, σ' i0 = .slice (some ⟨N, 0, none⟩) (fa.length + 1) (fa.length + 1) → σ' kM = σ kM → TheOK σ σ' θ →
      ∃ b', b' N ∧ (∀ j, j < w0.heap.size → b' j) ∧ Hold (tabW k ρt) b' w2 ∧ ∀ E' : Env, Live E' b' ρ0 σ' cs (patM gl [] f nt td keep []) M2 w2 := by
  subst hVT
  obtain ⟨⟨M1, w1, g1, g2, g3⟩, _⟩ := h.run ok mo hold hrun
  have hold1 := hold.kept g2
  have hB1 : Below w0.heap.size w0 w1 := Below.kept hB0 g2 hb
  have ht1 : tabW k ρt w1 := hold1.now
  obtain ⟨mm, hmm⟩ := id hvars
  obtain ⟨ρ, hR⟩ := hmm (withM (fun _ => .nilIface) mm) (withM_kM _ _)
  obtain ⟨u, w2, M2, c1, c2, ⟨rfl, hmem⟩, c4⟩ := g3.call (E' := ER (tabW k ρt) o mr kr) (gl := gl) (xs := []) (fn := f) (nt := nt) (keep := keep) (bs := []) (θ := θ) (μ := []) (f := fSplit) (args := [.sym 0, .str [32]]) (t0 := t0) (i0 := i0) (m2 := m2)
    (Post := fun u w2 => u = .slice (some ⟨w1.heap.size, 0, none⟩) (fa.length + 1) (fa.length + 1) ∧ memR k ρt w1.heap.size (fa ++ [ta]) w2) ok.ok hfr hdst hm2 hgen hk rfl glOK gl_bareM rfl fun va hva => by
      have e : va = #[strV s, strV [32]] := Array.ext' (tellsVs_funs (l := [.sym 0, .str [32]]) (ρ := fun _ => none) (ρ' := fun _ => none) rfl hva ⟨_, _, rfl, ⟨hs0.symm, rfl⟩, _, _, rfl, ⟨_, rfl, rfl⟩, rfl⟩)
      subst e
      have hR1 : w1.cell? ⟨gMax, 0, none⟩ = some (.int .i64 mm) := by
        have h0 := maxLen_cell hR gl_has (withM_kM (fun _ => .nilIface) mm)
        have : gMax < w0.heap.size := Lib.lt_of_cell h0
        rw [hB1.cell (p := ⟨gMax, 0, none⟩) this]; exact h0
      have hsp := Tryz.strings_Split ⟨s.toArray⟩ ⟨#[32]⟩ mm w1 (by show s.toArray.size < _; rw [List.size_toArray]; omega) hR1 (by decide)
      refine hsp.mono ?_
      rintro e w2 ⟨rfl, rfl⟩
      have hcn : Lib.countB ⟨s.toArray⟩ ⟨#[32]⟩ = fa.length := by rw [← es]; exact count_tail fa ta hba ht
      have hsl := splitB_tail fa ta hba ht
      rw [es] at hsl
      refine ⟨_, rfl, rfl, (Below.refl _ _).alloc (Nat.le_refl _) _, by rw [hcn], ⟨_, _, _, heap_alloc_new _ _, by rw [← hsl]⟩, ?_⟩
      exact (tabW_all k ρt w1 ht1).keep _ _ ht1 (New.below (New.alloc w1 _) fun k hk => hk)
  have hB2 : Below w0.heap.size w0 w2 := hB1.trans (c2.mono hB1.size)
  have hcell : w1.heap.size < w2.heap.size := by
    obtain ⟨⟨_, _, _, e1, _⟩, _⟩ := hmem
    exact lt_of_get e1
  have hsz := Live.size g3
  have hold2 := hold1.kept (w' := w2) ⟨c2.os, c2.tape, c2.output, c2.size, fun k hk => c2.block k (hsz k hk)⟩
  refine ⟨w1.heap.size, M2, w2, g1.trans c1, hB2, hmem, fun σ' h1 h2 h3 => ?_⟩
  obtain ⟨b', p1, p2, p3⟩ := c4 σ' h1 h2 h3
  rw [htd] at p3
  exact ⟨b', p2 _ (Nat.le_refl _) hcell, fun j hj => p1 j (hb j hj), hold2.wide p1, fun E' => Live.env p3 rfl hno⟩

/-! The symbols: 0 the text, 1 the language, 2 its length, 3 what is read, 50 the table, 60 .. 63 the words, 9 the last one, 6 the year, 10, 11, 13, 14 the days ahead, 12 a day, 15 its text, 16 the next one. -/
def argR : List AV := [.sym 0, .sym 1]
def mQc : Option AM := bnd (startM (EL []) (stOf gl) fLinesReads argR) (runS (EL []) (atCall fTable9) 1000)
def mQb : Option AM := bnd mQc behind
def tdQ : List AItem := tdO (todoOf mQb)
def keepQ1 : List (Nat × AV) := [(0, .sym 0), (1, .sym 1), (15, .sym 50)]
def thQ1 : List (Nat × AV) := [(0, .sym 0), (1, .sym 1)]
theorem cQ_fr : enterA (EL []) fTable9 [.sym 1] .normal = frOf mQc := by kernel_rfl
theorem cQ_dst : isB mQc (fun m => dstIs m 15) = true := by kernel_rfl
theorem cQ_gen : isB mQb (genOK gl [] fLinesReads 80 keepQ1 [] thQ1 [] [15]) = true := by kernel_rfl
theorem cQ_td : todoOf mQb = some tdQ := by kernel_rfl
theorem tdQ_noD : noD tdQ = true := by kernel_rfl
def pQ1 : AM := patM gl [] fLinesReads 80 tdQ keepQ1 []
def orQ0 (b : Bool) : List OR := [⟨20, [.sym 0], .sym 2⟩, ⟨15, [.sym 2, .int .i64 60], .bool b⟩]
theorem runQ_long (V : World → Prop) : retIs (ER V (orQ0 true) mrNil []) fLinesReads (.bool true) (runS (ER V (orQ0 true) mrNil []) doneA 2000 pQ1) = true := by kernel_rfl
def krQ (ok : Bool) : List KR := [⟨fLRead, [.sym 50, .sym 0], ⟨.tuple [.sym 3, .bool ok], []⟩⟩, ⟨fText18, [.sym 50, .sym 3], ⟨.sym 17, []⟩⟩]
def orQ1 (ok : Bool) : List OR := ⟨12, [.sym 3, .int .i64 0], .bool ok⟩ :: bif_ ok [⟨16, [.sym 3, .int .i64 1], .bool true⟩, ⟨14, [.sym 3, .int .i64 3652059], .bool true⟩, ⟨11, [.sym 17, .sym 0], .bool true⟩] []
theorem runQ_ok (V : World → Prop) : retIs (ER V (orQ0 false ++ orQ1 true) mrNil (krQ true)) fLinesReads (.bool true) (runS (ER V (orQ0 false ++ orQ1 true) mrNil (krQ true)) doneA 2000 pQ1) = true := by kernel_rfl
def EQ (V : World → Prop) : Env := ER V (orQ0 false ++ orQ1 false) mrNil (krQ false)
def mQs (V : World → Prop) : Option AM := runS (EQ V) (atCall fSplit) 1000 pQ1
def mQsb (V : World → Prop) : Option AM := bnd (mQs V) behind
def tdQ2 : List AItem := tdO (todoOf (mQsb fun _ => True))
def keepQ2 : List (Nat × AV) := [(0, .sym 0), (5, .sym 50), (44, .sym 60)]
def thQ2 : List (Nat × AV) := [(0, .sym 0), (50, .sym 50)]
theorem cQ2_fr (V : World → Prop) : enterA (EQ V) fSplit [.sym 0, .str [32]] .normal = frOf (mQs V) := by kernel_rfl
theorem cQ2_dst (V : World → Prop) : isB (mQs V) (fun m => dstIs m 44) = true := by kernel_rfl
theorem cQ2_gen (V : World → Prop) : isB (mQsb V) (genOK gl [] fLinesReads 80 keepQ2 [] thQ2 [] [44]) = true := by kernel_rfl
theorem cQ2_td (V : World → Prop) : todoOf (mQsb V) = some tdQ2 := by kernel_rfl
theorem tdQ2_noD : noD tdQ2 = true := by kernel_rfl
def pQ2 : AM := patM gl [] fLinesReads 80 tdQ2 keepQ2 []
def orQ2 (a b : Bool) : List OR := [⟨1, [.sym 61, .int .i64 1], .sym 62⟩, ⟨13, [.sym 6, .int .i64 1], .bool a⟩, ⟨15, [.sym 6, .int .i64 9999], .bool b⟩]
def krQ2 (ok : Bool) : List KR := [⟨fAtoi, [.sym 9], ⟨.tuple [.sym 6, errA ok], []⟩⟩]
def EQ2 (V : World → Prop) (ok a b : Bool) : Env := ER V (orQ2 a b) mrR (krQ2 ok)
theorem runQ2_end (V : World → Prop) : ∀ ok a b : Bool, (!ok || a || b) = true → retIs (EQ2 V ok a b) fLinesReads (.bool true) (runS (EQ2 V ok a b) doneA 2000 pQ2) = true := by
  intro ok a b h
  cases ok <;> cases a <;> cases b <;> first | (cases h; done) | kernel_rfl
def orQ3 : List OR := ⟨0, [.sym 10, .int .i64 1], .sym 11⟩ :: orQ2 false false
def krQ3 : List KR := ⟨fAhead1, [.sym 6], ⟨.sym 10, []⟩⟩ :: krQ2 true
def EQ3 (V : World → Prop) : Env := ER V orQ3 mrR krQ3
def keepQ4 : List (Nat × AV) := [(0, .sym 0), (5, .sym 50), (9, .sym 6), (11, .sym 12)]
def thQ4 (x : AV) : List (Nat × AV) := [(0, .sym 0), (50, .sym 50), (6, .sym 6), (12, x)]
def tpQ4 (V : World → Prop) : Option (List AItem) := toPat (EQ3 V) gl [] 2 1000 0 fLinesReads 80 keepQ4 [] (thQ4 (.sym 11)) [] pQ2
def tdQ4 : List AItem := tdO (tpQ4 fun _ => True)
theorem runQ3 (V : World → Prop) : tpQ4 V = some tdQ4 := by kernel_rfl
theorem tdQ4_noD : noD tdQ4 = true := by kernel_rfl
def pQ4 : AM := patM gl [] fLinesReads 80 tdQ4 keepQ4 []
def orQ4 (b : Bool) : List OR := [⟨0, [.sym 6, .int .i64 1], .sym 13⟩, ⟨14, [.sym 12, .sym 14], .bool b⟩, ⟨11, [.sym 15, .sym 0], .bool false⟩, ⟨0, [.sym 12, .int .i64 1], .sym 16⟩]
def orQ5 : List OR := [⟨0, [.sym 6, .int .i64 1], .sym 13⟩, ⟨14, [.sym 12, .sym 14], .bool false⟩]
def krQ4 : List KR := [⟨fAhead1, [.sym 13], ⟨.sym 14, []⟩⟩, ⟨fText18, [.sym 50, .sym 12], ⟨.sym 15, []⟩⟩]
def EQ4 (V : World → Prop) : Env := ER V (orQ4 true) [] krQ4
theorem runQ4 (V : World → Prop) : toPat (EQ4 V) gl [] 2 1000 0 fLinesReads 80 keepQ4 [] (thQ4 (.sym 16)) [] pQ4 = some tdQ4 := by kernel_rfl
theorem runQ5 (V : World → Prop) : retIs (ER V orQ5 [] krQ4) fLinesReads (.bool true) (runS (ER V orQ5 [] krQ4) doneA 2000 pQ4) = true := by kernel_rfl

def sgQ (p : Value) (s : List UInt8) (a N len : Nat) (lst : List UInt8) (x : Nat) : Nat → Value
  | 0 => strV s
  | 1 => .int .u8 (a : Int)
  | 2 => .int .i64 ((s.length : Nat) : Int)
  | 3 => .int .i64 ((readN (a % 4) s : Nat) : Int)
  | 6 => .int .i64 (atoiN lst)
  | 9 => strV lst
  | 10 => .int .i64 (aheadI (atoiN lst))
  | 11 => .int .i64 (aheadI (atoiN lst) + 1)
  | 12 => .int .i64 (x : Int)
  | 13 => .int .i64 (atoiN lst + 1)
  | 14 => .int .i64 (aheadI (atoiN lst + 1))
  | 15 => strV (lineI (a % 4) (x : Int))
  | 16 => .int .i64 ((x + 1 : Nat) : Int)
  | 17 => strV (lineI (a % 4) ((readN (a % 4) s : Nat) : Int))
  | 50 => p
  | 60 => .slice (some ⟨N, 0, none⟩) len len
  | 61 => .int .i64 ((len : Nat) : Int)
  | 62 => .int .i64 ((len - 1 : Nat) : Int)
  | 63 => .pointer (some ⟨N, 0 + (len - 1), none⟩)
  | _ => .nilIface
def OutQ (w : World) (cs : List Frame) (M : Machine) : Prop := Wins Tryz.prog fLinesReads cs (fun e w' => e = .returned (.bool true) ∧ Below w.heap.size w w') M
theorem true_out {E : Env} {b : Nat → Prop} {ρ0 : Rho} {σ : Nat → Value} {cs : List Frame} {mm : AM} {M : Machine} {w w1 : World} (hP : E.P = Tryz.prog) (ok : EnvS E σ) (mo : MemoOK E σ) (hv : Hold E.V b w1) (hB : Below w.heap.size w w1) (hb : ∀ j, j < w.heap.size → b j) (h : Live E b ρ0 σ cs mm M w1) {n : Nat}
    (hx : retIs E fLinesReads (.bool true) (runS E doneA n mm) = true) : OutQ w cs M := by
  have := h.wins ok mo hv hx
  rw [hP] at this
  refine this.mono ?_
  rintro e w' ⟨u, ρ', rfl, hu, hK⟩
  have hu : u = .bool true := hu
  subst hu
  exact ⟨rfl, Below.kept hB hK hb⟩

section
variable {a : Nat} {ρt : Rho} {p : Value} {s : List UInt8} {m : Int} {N len : Nat} {lst : List UInt8}
theorem reads_loop (hk : a % 4 < 4) (hp : PtrX (a % 4) ρt p) (hno : ∀ x, 1 ≤ x → x ≤ 3652059 → lineF (a % 4) x ≠ s) {y : Nat} (hy : atoiN lst = (y : Int)) (y1 : 1 ≤ y) (y2 : y ≤ 9999) {w : World} {ρ0 : Rho} {cs : List Frame} :
    ∀ fuel x : Nat, aheadN (y + 1) + 1 - x ≤ fuel → 1 ≤ x → x ≤ 3652060 → ∀ M, AtR (a % 4) ρt w ρ0 (withM (sgQ p s a N len lst x) m) cs pQ4 M → OutQ w cs M := by
  have ah : aheadN (y + 1) ≤ 3652059 := by
    have := ahead_mono (y := y + 1) (z := 10000) (by omega) (by omega)
    have e : aheadN 10000 = 3652059 := by decide
    omega
  have e13 : withM (sgQ p s a N len lst 0) m 13 = .int .i64 ((y + 1 : Nat) : Int) := by
    show Value.int .i64 (atoiN lst + 1) = _
    rw [hy]; congr 1
  have e14 : aheadI (atoiN lst + 1) = (aheadN (y + 1) : Int) := by
    rw [hy, ← ahead_eq (by omega)]; congr 1
  have krs : ∀ x : Nat, ∀ r ∈ krQ4, KRow Tryz.prog gl (withM (sgQ p s a N len lst x) m) r.f r.args r.img (tabW (a % 4) ρt) := fun x r hr => by
    simp only [krQ4, List.mem_cons, List.mem_nil_iff, or_false] at hr
    rcases hr with rfl | rfl
    · refine KRow.ofC (withM_kM _ _) rfl rfl (va := #[.int .i64 ((y + 1 : Nat) : Int)]) ⟨_, _, rfl, ⟨?_, rfl⟩, rfl⟩ (.inl rfl) (u := .int .i64 (aheadI ((y + 1 : Nat) : Int))) ⟨?_, rfl⟩ (CallsV.more (c_ahead1 (by omega) (by omega)).all fun _ _ => True.intro)
      · exact e13.symm
      · show Value.int .i64 _ = Value.int .i64 (aheadI (atoiN lst + 1))
        rw [hy]; congr 2
    · exact kr_text18 hk hp (fun _ h => h) (withM_kM _ _) (z := (x : Int)) rfl rfl rfl
  intro fuel
  induction fuel with
  | zero =>
    intro x hf h1 h2 M ⟨b, w1, q1, q2, q3, q4⟩
    obtain ⟨ok, mo⟩ := envR (V := tabW (a % 4) ρt) orQ5 [] krQ4 (σ := withM (sgQ p s a N len lst x) m) (fun r hr => by
      simp only [orQ5, List.mem_cons, List.mem_nil_iff, or_false] at hr
      rcases hr with rfl | rfl
      · exact RowOK.add64 (x := atoiN lst) (y := 1) rfl rfl rfl rfl (by omega) (by omega)
      · exact RowOK.cmp .i64 (x := (x : Int)) (y := aheadI (atoiN lst + 1)) rfl rfl (.inr (.inr (.inr (.inl ⟨rfl, by symm; rw [e14, decide_eq_false_iff_not]; omega⟩))))) (fun r hr => by cases hr) (krs x)
    exact true_out (E := ER (tabW (a % 4) ρt) orQ5 [] krQ4) rfl ok mo q3 q2 q1 (q4 _) (runQ5 _)
  | succ fuel ih =>
    intro x hf h1 h2 M ⟨b, w1, q1, q2, q3, q4⟩
    by_cases hx : x ≤ aheadN (y + 1)
    · obtain ⟨ok, mo⟩ := envR (V := tabW (a % 4) ρt) (orQ4 true) [] krQ4 (σ := withM (sgQ p s a N len lst x) m) (fun r hr => by
        simp only [orQ4, List.mem_cons, List.mem_nil_iff, or_false] at hr
        rcases hr with rfl | rfl | rfl | rfl
        · exact RowOK.add64 (x := atoiN lst) (y := 1) rfl rfl rfl rfl (by omega) (by omega)
        · exact RowOK.cmp .i64 (x := (x : Int)) (y := aheadI (atoiN lst + 1)) rfl rfl (.inr (.inr (.inr (.inl ⟨rfl, by symm; rw [e14, decide_eq_true_eq]; omega⟩))))
        · refine RowOK.seq (p := nats (lineI (a % 4) (x : Int))) (q := nats s) rfl rfl (.inl ⟨rfl, ?_⟩)
          symm
          rw [decide_eq_false_iff_not, nats_iff, lineI_nat h1 (by omega)]
          exact hno x h1 (by omega)
        · exact RowOK.add64 (x := (x : Int)) (y := 1) (z := ((x + 1 : Nat) : Int)) rfl rfl rfl (by omega) (by omega) (by omega)) (fun r hr => by cases hr) (krs x)
      obtain ⟨M', w', b', g1, g2, g3, g4⟩ := (q4 (EQ4 (tabW (a % 4) ρt))).toPat (E' := E0) (σ' := withM (sgQ p s a N len lst (x + 1)) m) ok mo q3 (runQ4 _) glOK gl_bareM rfl rfl ⟨rfl, rfl, rfl, rfl, trivial⟩
      exact Wins.steps g1 (ih (x + 1) (by omega) (by omega) (by omega) M' ⟨b', w', fun j hj => g3 _ (q1 j hj), Below.kept q2 g2 q1, (q3.kept g2).wide g3, fun E => Live.env g4 rfl tdQ4_noD⟩)
    · obtain ⟨ok, mo⟩ := envR (V := tabW (a % 4) ρt) orQ5 [] krQ4 (σ := withM (sgQ p s a N len lst x) m) (fun r hr => by
        simp only [orQ5, List.mem_cons, List.mem_nil_iff, or_false] at hr
        rcases hr with rfl | rfl
        · exact RowOK.add64 (x := atoiN lst) (y := 1) rfl rfl rfl rfl (by omega) (by omega)
        · exact RowOK.cmp .i64 (x := (x : Int)) (y := aheadI (atoiN lst + 1)) rfl rfl (.inr (.inr (.inr (.inl ⟨rfl, by symm; rw [e14, decide_eq_false_iff_not]; omega⟩))))) (fun r hr => by cases hr) (krs x)
      exact true_out (E := ER (tabW (a % 4) ρt) orQ5 [] krQ4) rfl ok mo q3 q2 q1 (q4 _) (runQ5 _)
theorem orQ0_ok {E : Env} (hT : E.ty = E0.ty) {b : Bool} {x : Nat} (hb : b = decide (60 < s.length)) : ∀ r ∈ orQ0 b, RowOK E 9 (withM (sgQ p s a N len lst x) m) r := by
  intro r hr
  simp only [orQ0, List.mem_cons, List.mem_nil_iff, or_false] at hr
  rcases hr with rfl | rfl
  · exact RowOK.len (typ9 hT) (x := nats s) rfl (by rw [nats_len]; rfl)
  · exact RowOK.cmp .i64 (x := ((s.length : Nat) : Int)) (y := 60) rfl rfl (.inr (.inr (.inr (.inr (.inl ⟨rfl, by rw [hb, decide_eq_decide]; omega⟩)))))
theorem krQ_ok {x : Nat} (hk : a % 4 < 4) (hp : PtrX (a % 4) ρt p) (hs : s.length ≤ 60) : ∀ r ∈ krQ (readB (a % 4) s), KRow Tryz.prog gl (withM (sgQ p s a N len lst x) m) r.f r.args r.img (tabW (a % 4) ρt) := by
  intro r hr
  simp only [krQ, List.mem_cons, List.mem_nil_iff, or_false] at hr
  rcases hr with rfl | rfl
  · exact kr_read hk hp (fun _ h => h) (withM_kM _ _) (s := s) (by omega) rfl rfl rfl rfl
  · exact kr_text18 hk hp (fun _ h => h) (withM_kM _ _) (z := ((readN (a % 4) s : Nat) : Int)) rfl rfl rfl

theorem reads_via (hk : a % 4 < 4) (hp : PtrX (a % 4) ρt p) (hs : s.length ≤ 60) (hno : ∀ x, 1 ≤ x → x ≤ 3652059 → lineF (a % 4) x ≠ s) {fa : List (List UInt8)} {ta : List UInt8} (es : tailS fa ta = s) {w w1 : World} {cs : List Frame} {ρ0 : Rho} {M : Machine} (hmem : memR (a % 4) ρt N (fa ++ [ta]) w1) (hB : Below w.heap.size w w1)
    {b : Nat → Prop} (hbN : b N) (hbl : ∀ j, j < w.heap.size → b j) (hT : Hold (tabW (a % 4) ρt) b w1) (hL : ∀ E : Env, Live E b ρ0 (withM (sgQ p s a N (fa.length + 1) ta 0) m) cs pQ2 M w1) : OutQ w cs M := by
  have hlen : ta.length ≤ 60 ∧ fa.length ≤ 60 := by
    have h1 := tail_len_le fa ta
    rw [es] at h1
    omega
  have hH : Hold (memR (a % 4) ρt N (fa ++ [ta])) b w1 := memR_hold hmem hbN hT
  have mr : ∀ {E : Env}, E.ty = E0.ty → EnvOK E → (∀ w, E.V w → memR (a % 4) ρt N (fa ++ [ta]) w) → ∀ r ∈ mrR, RowM E (withM (sgQ p s a N (fa.length + 1) ta 0) m) r := by
    intro E hT ok hV r hr
    obtain ⟨hu, hz⟩ := typStrs hT
    obtain ⟨ti, hti, hA⟩ := tyStr hT
    simp only [mrR, List.mem_cons, List.mem_nil_iff, or_false] at hr
    rcases hr with rfl | rfl | rfl
    · exact RowM.len (u := tStrs) (len := fa.length + 1) (cap := fa.length + 1) (ad := some ⟨N, 0, none⟩) hu rfl rfl ok
    · exact RowM.at (u := tStrs) (n := fa.length) (kd := .i64) (blk := N) (off := 0) (len := fa.length + 1) (cap := fa.length + 1) hu hz rfl rfl (by omega) rfl ok
    · refine RowM.load (u := tStr) (blk := N) (off := 0 + fa.length) rfl hti hA (fun w hw => ?_) ok
      obtain ⟨⟨c, t', fr, e1, e2⟩, _⟩ := hV w hw
      refine ⟨c, t', fr, strV ta, e1, ?_, fun ρ => ⟨rfl, rfl⟩⟩
      rw [← Array.getElem?_toList, e2, List.getElem?_map, show 0 + fa.length = fa.length by omega, List.getElem?_append_right (Nat.le_refl _), Nat.sub_self]; rfl
  have hbd := atoiN_bounds ta
  have or2 : ∀ {E : Env} {c d : Bool}, c = decide (atoiN ta < 1) → d = decide (9999 < atoiN ta) → ∀ r ∈ orQ2 c d, RowOK E 9 (withM (sgQ p s a N (fa.length + 1) ta 0) m) r := by
    intro E c d hc hd r hr
    simp only [orQ2, List.mem_cons, List.mem_nil_iff, or_false] at hr
    rcases hr with rfl | rfl | rfl
    · exact RowOK.sub64 (x := ((fa.length + 1 : Nat) : Int)) (y := 1) (z := ((fa.length + 1 - 1 : Nat) : Int)) rfl rfl rfl (by omega) (by omega) (by omega)
    · exact RowOK.cmp .i64 (x := atoiN ta) (y := 1) rfl rfl (.inr (.inr (.inl ⟨rfl, hc⟩)))
    · exact RowOK.cmp .i64 (x := atoiN ta) (y := 9999) rfl rfl (.inr (.inr (.inr (.inr (.inl ⟨rfl, hd⟩)))))
  have eV : ∀ {o mr kr}, EnvOK (ER (memR (a % 4) ρt N (fa ++ [ta])) o mr kr) := ⟨envOK.ty, envOK.fns, envOK.mixed⟩
  have kr2 : ∀ r ∈ krQ2 (atoiB ta), KRow Tryz.prog gl (withM (sgQ p s a N (fa.length + 1) ta 0) m) r.f r.args r.img (memR (a % 4) ρt N (fa ++ [ta])) := by
    intro r hr
    simp only [krQ2, List.mem_cons, List.mem_nil_iff, or_false] at hr
    subst hr
    exact kr_atoiV (fun _ h => h.2.2) (withM_kM _ _) rfl rfl (by omega) ⟨rfl, rfl⟩ rfl ⟨rfl, rfl⟩
  by_cases hend : (!atoiB ta || decide (atoiN ta < 1) || decide (9999 < atoiN ta)) = true
  · obtain ⟨ok, mo⟩ := envR (V := memR (a % 4) ρt N (fa ++ [ta])) (orQ2 (decide (atoiN ta < 1)) (decide (9999 < atoiN ta))) mrR (krQ2 (atoiB ta)) (σ := withM (sgQ p s a N (fa.length + 1) ta 0) m) (or2 rfl rfl) (mr rfl eV fun _ h => h) kr2
    exact true_out (E := EQ2 (memR (a % 4) ρt N (fa ++ [ta])) (atoiB ta) (decide (atoiN ta < 1)) (decide (9999 < atoiN ta))) rfl ok mo hH hB hbl (hL _) (runQ2_end _ _ _ _ hend)
  · have hend : (!atoiB ta || decide (atoiN ta < 1) || decide (9999 < atoiN ta)) = false := by simpa using hend
    rw [Bool.or_eq_false_iff, Bool.or_eq_false_iff] at hend
    obtain ⟨⟨h1, h2⟩, h3⟩ := hend
    have h1 : atoiB ta = true := by simpa using h1
    have h2' := of_decide_eq_false h2
    have h3' := of_decide_eq_false h3
    obtain ⟨y, hy⟩ : ∃ y : Nat, atoiN ta = (y : Int) := ⟨(atoiN ta).toNat, by omega⟩
    rw [h1] at kr2
    have ahb : aheadN y ≤ 3652059 := by
      have := ahead_mono (y := y) (z := 10000) (by omega) (by omega)
      have e : aheadN 10000 = 3652059 := by decide
      omega
    have ea : aheadI (atoiN ta) = (aheadN y : Int) := by rw [hy, ahead_eq (by omega)]
    obtain ⟨ok, mo⟩ := envR (V := memR (a % 4) ρt N (fa ++ [ta])) orQ3 mrR krQ3 (σ := withM (sgQ p s a N (fa.length + 1) ta 0) m) (fun r hr => by
      rcases List.mem_cons.1 hr with rfl | hr
      · exact RowOK.add64 (x := aheadI (atoiN ta)) (y := 1) rfl rfl rfl rfl (by omega) (by omega)
      · exact or2 h2.symm h3.symm r hr) (mr rfl eV fun _ h => h) (fun r hr => by
      rcases List.mem_cons.1 hr with rfl | hr
      · exact KRow.ofC (withM_kM _ _) rfl rfl (va := #[.int .i64 (atoiN ta)]) ⟨_, _, rfl, ⟨rfl, rfl⟩, rfl⟩ (.inl rfl) (u := .int .i64 (aheadI (atoiN ta))) ⟨rfl, rfl⟩ (CallsV.more (c_ahead1 (by omega) (by omega)).all fun _ _ => True.intro)
      · exact kr2 r hr)
    obtain ⟨M', w', b', g1, g2, g3, g4⟩ := (hL (EQ3 (memR (a % 4) ρt N (fa ++ [ta])))).toPat (E' := E0) (σ' := withM (sgQ p s a N (fa.length + 1) ta (aheadN y + 1)) m) ok mo hH (runQ3 _) glOK gl_bareM rfl rfl ⟨rfl, rfl, rfl, by
      show some (Value.int .i64 (aheadI (atoiN ta) + 1)) = some (.int .i64 ((aheadN y + 1 : Nat) : Int))
      rw [ea]; congr 2, trivial⟩
    exact Wins.steps g1 (reads_loop hk hp hno hy (by omega) (by omega) (aheadN (y + 1) + 1) (aheadN y + 1) (by omega) (by omega) (by omega) M' ⟨b', w', fun j hj => g3 _ (hbl j hj), Below.kept hB g2 hbl, (hT.kept g2).wide g3, fun E => Live.env g4 rfl tdQ4_noD⟩)
end

/-- Whatever the text, LinesReads hands back true. -/
theorem reads_calls {W : World} (hL : laidMet Tryz.prog Tryz.laid W) (hS : W.ShapedOpen Tryz.prog) {a : Nat} {t : ByteArray} :
    Calls Tryz.prog fLinesReads #[.string t, .int .u8 a] W (fun e W' => e = .returned (.bool true) ∧ Below W.heap.size W W') := by
  have hvars : Vars gl W := by
    obtain ⟨m, hm⟩ := vars_laid hL hS
    exact ⟨m, hm⟩
  have hE0 := errV_laid hL hS
  have hk : a % 4 < 4 := Nat.mod_lt _ (by omega)
  let s : List UInt8 := t.data.toList
  obtain ⟨fa, ta, hba, hta, es⟩ := fields_of s
  intro cs
  obtain ⟨m, ρ0, ρt, p, M2, w2, hp, g1, hB, _, g4⟩ := via_start (a := a) (n := 1000) (o := []) (mc := mQc) (td := tdQ) (σ0 := sgQ .nilIface s a 0 0 [] 0) (va := #[.string t, .int .u8 a]) rfl cQ_fr cQ_dst cQ_td cQ_gen (by kernel_rfl) tdQ_noD hvars hE0 (fun m ρ => ⟨_, _, rfl, ⟨rfl, rfl⟩, _, _, rfl, ⟨rfl, rfl⟩, rfl⟩) (fun m r hr => by cases hr) (fun m => rfl) cs
  obtain ⟨b', q1, _, q3, q5⟩ := g4 (sgQ p s a 0 0 [] 0) rfl ⟨rfl, rfl, trivial⟩
  refine Wins.steps g1 ?_
  show OutQ W cs M2
  by_cases h60 : 60 < s.length
  · have eO : EnvOK (ER (tabW (a % 4) ρt) (orQ0 true) mrNil []) := ⟨envOK.ty, envOK.fns, envOK.mixed⟩
    obtain ⟨ok, mo⟩ := envR (V := tabW (a % 4) ρt) (orQ0 true) mrNil [] (σ := withM (sgQ p s a 0 0 [] 0) m) (orQ0_ok (by rfl) (decide_eq_true h60).symm) (mrNil_ok (by rfl) eO hp rfl) (fun r hr => by cases hr)
    exact true_out (E := ER (tabW (a % 4) ρt) (orQ0 true) mrNil []) rfl ok mo q3 hB q1 (q5 _) (runQ_long _)
  have o0 : ∀ {E : Env}, E.ty = E0.ty → ∀ r ∈ orQ0 false, RowOK E 9 (withM (sgQ p s a 0 0 [] 0) m) r := fun hT => orQ0_ok hT (decide_eq_false h60).symm
  have krs := krQ_ok (a := a) (s := s) (p := p) (ρt := ρt) (m := m) (N := 0) (len := 0) (lst := []) (x := 0) hk hp (by omega)
  rcases read_spec (a % 4) s with ⟨h1, h2, h3, h4⟩ | ⟨h1, h2, h3⟩
  · rw [h1] at krs
    have eO : EnvOK (ER (tabW (a % 4) ρt) (orQ0 false ++ orQ1 true) mrNil (krQ true)) := ⟨envOK.ty, envOK.fns, envOK.mixed⟩
    obtain ⟨ok, mo⟩ := envR (V := tabW (a % 4) ρt) (orQ0 false ++ orQ1 true) mrNil (krQ true) (σ := withM (sgQ p s a 0 0 [] 0) m) (fun r hr => by
      rcases List.mem_append.1 hr with hr | hr
      · exact o0 (by rfl) r hr
      have hr : r ∈ [(⟨12, [.sym 3, .int .i64 0], .bool true⟩ : OR), ⟨16, [.sym 3, .int .i64 1], .bool true⟩, ⟨14, [.sym 3, .int .i64 3652059], .bool true⟩, ⟨11, [.sym 17, .sym 0], .bool true⟩] := hr
      simp only [List.mem_cons, List.mem_nil_iff, or_false] at hr
      rcases hr with rfl | rfl | rfl | rfl
      · exact RowOK.cmp .i64 (x := ((readN (a % 4) s : Nat) : Int)) (y := 0) rfl rfl (.inr (.inl ⟨rfl, by rw [decide_eq_false (by omega)]; rfl⟩))
      · exact RowOK.cmp .i64 (x := ((readN (a % 4) s : Nat) : Int)) (y := 1) rfl rfl (.inr (.inr (.inr (.inr (.inr ⟨rfl, by symm; rw [decide_eq_true_eq]; omega⟩)))))
      · exact RowOK.cmp .i64 (x := ((readN (a % 4) s : Nat) : Int)) (y := 3652059) rfl rfl (.inr (.inr (.inr (.inl ⟨rfl, by symm; rw [decide_eq_true_eq]; omega⟩))))
      · refine RowOK.seq (p := nats (lineI (a % 4) ((readN (a % 4) s : Nat) : Int))) (q := nats s) rfl rfl (.inl ⟨rfl, ?_⟩)
        rw [lineI_nat h2 h3, h4]; simp) (mrNil_ok (by rfl) eO hp rfl) krs
    exact true_out (E := ER (tabW (a % 4) ρt) (orQ0 false ++ orQ1 true) mrNil (krQ true)) rfl ok mo q3 hB q1 (q5 _) (runQ_ok _)
  · rw [h1] at krs
    have eO : EnvOK (ER (tabW (a % 4) ρt) (orQ0 false ++ orQ1 false) mrNil (krQ false)) := ⟨envOK.ty, envOK.fns, envOK.mixed⟩
    obtain ⟨ok, mo⟩ := envR (V := tabW (a % 4) ρt) (orQ0 false ++ orQ1 false) mrNil (krQ false) (σ := withM (sgQ p s a 0 0 [] 0) m) (fun r hr => by
      rcases List.mem_append.1 hr with hr | hr
      · exact o0 (by rfl) r hr
      have hr : r ∈ [(⟨12, [.sym 3, .int .i64 0], .bool false⟩ : OR)] := hr
      simp only [List.mem_cons, List.mem_nil_iff, or_false] at hr
      subst hr
      exact RowOK.cmp .i64 (x := ((readN (a % 4) s : Nat) : Int)) (y := 0) rfl rfl (.inr (.inl ⟨rfl, by rw [h2]; rfl⟩))) (mrNil_ok (by rfl) eO hp rfl) krs
    cases hc : mQs (tabW (a % 4) ρt) with
    | none => have := cQ2_dst (tabW (a % 4) ρt); rw [hc] at this; cases this
    | some m1 =>
      have hfr : enterA (EQ (tabW (a % 4) ρt)) fSplit [.sym 0, .str [32]] .normal = some m1.fr := by have := cQ2_fr (tabW (a % 4) ρt); rwa [hc] at this
      have hdst : dstIs m1 44 = true := by have := cQ2_dst (tabW (a % 4) ρt); rwa [hc] at this
      have htd := cQ2_td (tabW (a % 4) ρt)
      have hgen := cQ2_gen (tabW (a % 4) ρt)
      unfold mQsb at htd hgen
      rw [hc] at htd hgen
      have htd : todoOf (behind m1) = some tdQ2 := htd
      have hgen : isB (behind m1) (genOK gl [] fLinesReads 80 keepQ2 [] thQ2 [] [44]) = true := hgen
      cases hm2 : behind m1 with
      | none => rw [hm2] at htd; cases htd
      | some m2 =>
        rw [hm2] at htd hgen
        have htd : m2.fr.todo = tdQ2 := Option.some.inj htd
        obtain ⟨N, M3, w3, c1, hB3, hmem, c4⟩ := via_split (o := orQ0 false ++ orQ1 false) (mr := mrNil) (kr := krQ false) (i0 := 60) (td := tdQ2) rfl ok mo hvars q1 hB q3 (q5 _) hc hfr hdst hm2 htd hgen (by kernel_rfl) tdQ2_noD rfl (by omega) hba hta es
        obtain ⟨b3, s1, s2, s3, s5⟩ := c4 (withM (sgQ p s a N (fa.length + 1) ta 0) m) rfl rfl ⟨rfl, rfl, trivial⟩
        exact Wins.steps c1 (reads_via hk hp (by omega) h3 es hmem hB3 s1 s2 s3 s5)

theorem reads_lifted (os : Os) (started : os.Started) (H : Type) (enc : TypeId × Value → H) :
    ReturnsInHanded {} Tryz.checked os 5 .any (fun w args => (Rows.linesReadsSpec.pre enc Tryz.prog Tryz.f5 [] false w args ∧ laidMetH Tryz.prog Tryz.laid w) ∧ sizedMet enc Tryz.prog Tryz.f5 (OpenSpec.ofChange Rows.linesReadsSpec) false w args)
      (Rows.linesReadsSpec.post enc Tryz.prog Tryz.f5 false true false false) := by
  refine handed_shaped (C := Tryz.checked) (X := fun w _ => laidMetH Tryz.prog Tryz.laid w) (fun _ _ _ hh h => h.of_heap hh) Tryz.own started (by kernel_rfl) Tryz.func5
    (ChangeSpec.witness_shaped (enc := enc) (C := Tryz.checked) (os := os) (X := fun w _ => laidMetH Tryz.prog Tryz.laid w) false (World.laidAll Tryz.prog os Tryz.laid) #[.string ⟨#[]⟩, .int .u8 0] 8 (World.laidAll_os _ _ _)
      (World.shaped_of_ZipB (by kernel_rfl) (by kernel_rfl)) (by kernel_rfl) (by kernel_rfl) (by kernel_rfl)
      (by rw [MakeChecks.laidMetH_plain _ _ _ (by kernel_rfl)]; exact laidMet_laidAll _ (by kernel_rfl) (by kernel_rfl))) ?_
  intro W base args ds gs before hS hval0 hW hL
  have hval : ∀ (j : Nat) t v, Tryz.f5.params[j]? = some t → args[j]? = some v → Value.okWide Tryz.prog W .any base t v := hval0
  have hW' := hW
  obtain ⟨p, q, hA0, hV, rfl, _, _⟩ := hW
  have hA : DataW.TrodAll enc Tryz.prog W 0 (fun _ => true) true Tryz.f5.params.toList args.toList ds p := hA0
  rw [Tryz.params5] at hA hval
  rw [MakeChecks.laidMetH_plain _ _ _ (by kernel_rfl)] at hL
  obtain ⟨v0, v1, d0, d1, p0, p1, rfl, rfl, rfl, h0, h1⟩ := trodAll_two hA
  obtain ⟨rfl, rfl⟩ := trodVars_none hV
  obtain ⟨s, rfl, rfl, rfl, w0⟩ := ChangeMaps.open_string Tryz.underlying9 (hval 0 9 v0 rfl rfl) h0
  obtain ⟨a, rfl, rfl, rfl, w1⟩ := open_int Tryz.underlying5 (hval 1 5 v1 rfl rfl) h1
  have e1 : Rows.linesReadsSpec.fn H ([.lit (.string s.data.toList), .lit (.int .u8 a)] ++ []) = { results := [.lit (.bool true)], args := [.lit (.string s.data.toList), .lit (.int .u8 a)] } := by simp [Rows.linesReadsSpec]
  obtain ⟨a, rfl, _⟩ := nat8_of_wf w1
  refine (reads_calls hL hS).mono fun e W' ⟨he, hB⟩ => ?_
  subst he
  refine ⟨_, rfl, _, _, _, [], [], [], hW', ?_, ?_, ?_, hB.frame _, fun h => by cases h⟩
  · rw [e1]; exact trodAll_mk1 (shut_bool Tryz.underlying4 true)
  · rw [e1]; exact trodAll_mk2 (ChangeMaps.shut_string Tryz.underlying9 w0) (shut_int Tryz.underlying5 w1)
  · rw [e1]; rfl
end
end Go.Proofs.YtnnhijfbdkokkaaGreatDoor

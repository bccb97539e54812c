/- The language's table, called for: a law's way to behind that call. A law's beginning: to behind its first call of Table; rows that all laws share. A day's text by the document, as a row. No condition. -/
import Derived.Test.YtnnhijfbdkokkaaGreatDoorMg
import Derived.Test.YtnnhijfbdkokkaaGreatDoorRk18
import Derived.Test.YtnnhijfbdkokkaaGreatDoorMe
/-! The language's table, called for: a law's way to behind that call. -/
namespace Go.Proofs.YtnnhijfbdkokkaaGreatDoor
open Go Go.Eng Go.RowKit
noncomputable section
set_option maxRecDepth 100000
abbrev tTab : Nat := 24
abbrev tI32 : Nat := 21

/-! ### Table -/
def tabs4 : List (FuncId × Img) := [(fEnglish, englishImg), (fGerman, germanImg), (fFrench, frenchImg), (fPolish, polishImg)]
theorem tabs4_ok (σ : Nat → Value) {E : Env} (hP : E.P = Tryz.prog) : MemoOK { E with memo := memoI gl tabs4 } σ := by
  refine MemoOK.ofI ?_ _
  rw [hP]
  intro x hx
  simp only [tabs4, List.mem_cons, List.mem_nil_iff, or_false] at hx
  rcases hx with rfl | rfl | rfl | rfl
  · exact knowenglish
  · exact knowgerman
  · exact knowfrench
  · exact knowpolish
def upFrom (b n : Nat) : List Nat := Nat.rec (motive := fun _ => Nat → List Nat) (fun _ => []) (fun _ ih b => b :: ih (Nat.succ b)) n b
def ETb (r : Nat) : Env := E0.askM 9 [⟨4, [.sym 1, .int .u8 4], .int .u8 (Int.ofNat r)⟩] [] (memoOr (memoI gl tabs4) (memoKH gl []))
theorem runTb : allB (fun r => imgRunA (ETb r) gl fTable9 [.sym 1] 1000 (upFrom (Nat.add 1001 (Nat.mul 45 r)) 43) (tabI r)) k4 = true := by kernel_rfl
theorem place_tab : allB (fun r => match place (tabI r) (stOf gl) with | some _ => true | none => false) k4 = true := by kernel_rfl
theorem kr_table {σ : Nat → Value} {a : Nat} (h1 : σ 1 = .int .u8 (a : Int)) : KRow Tryz.prog gl σ fTable9 [.sym 1] (tabI (a % 4)) := by
  have ok : EnvS (ETb (a % 4)) σ := EnvS.askM envOK (fun r hr => by
    simp only [List.mem_cons, List.mem_nil_iff, or_false] at hr
    subst hr
    exact RowOK.rem .u8 (x := ((a : Nat) : Int)) (y := ((4 : Nat) : Int)) (by show concS 1 (σ 1) = _; rw [h1]; rfl) rfl rfl (by decide) (tmodN a 4)) (fun r hr => by cases hr)
  have mo : MemoOK (ETb (a % 4)) σ := MemoOK.or (E := ETb (a % 4)) (tabs4_ok σ (E := ETb (a % 4)) rfl) (memoKH_ok (E := ETb (a % 4)) rfl fun r hr => by cases hr)
  exact KRow.of (E := ETb (a % 4)) ok mo glOK (allB_spec runTb (a % 4) (mem_k4 (Nat.mod_lt _ (by omega))))
theorem Vars.below {w w1 : World} (h : Vars gl w) (hB : Below w.heap.size w w1) : Vars gl w1 := by
  obtain ⟨m, hm⟩ := h
  refine ⟨m, fun σ hσ => ?_⟩
  obtain ⟨ρ, hR⟩ := hm σ hσ
  exact ⟨_, (hR.frame hB).start glOK gl_has⟩
/-- A table is handed back, all of it new. -/
theorem table_calls {w : World} (hw : Vars gl w) (a : Nat) : Calls Tryz.prog fTable9 #[.int .u8 (a : Int)] w (fun e w2 => ∃ u, e = .returned u ∧ u.oneCell' = true ∧ Below w.heap.size w w2 ∧
    ∃ ρt, HasX (tabX (a % 4)) ρt w2 ∧ PtrX (a % 4) ρt u ∧ ∀ i L, ρt i = some L → w.heap.size ≤ L.blk ∧ L.blk < w2.heap.size) := by
  have h4 : a % 4 < 4 := Nat.mod_lt _ (by omega)
  obtain ⟨m, hm⟩ := hw
  obtain ⟨ρ, hR⟩ := hm (withM (fun _ => .int .u8 (a : Int)) m) (withM_kM _ _)
  have hpl := allB_spec place_tab (a % 4) (mem_k4 h4)
  have hob := allB_spec tab_okB (a % 4) (mem_k4 h4)
  rw [Bool.and_eq_true] at hob
  cases hp : place (tabI (a % 4)) (stOf gl) with
  | none => rw [hp] at hpl; cases hpl
  | some x =>
    obtain ⟨v, s'⟩ := x
    refine (kr_table (σ := withM (fun _ => .int .u8 (a : Int)) m) (a := a) rfl (.at w.heap.size) ρ (stOf gl) w #[.int .u8 (a : Int)] (Hold.all (fun _ => True.intro) _ _) hR gl_has ⟨_, _, rfl, ⟨rfl, rfl⟩, rfl⟩ v s' hp).mono ?_
    rintro e w2 ⟨u, ρ', rfl, _, hu, hR2, hK⟩
    obtain ⟨h1, h2, h3⟩ := hR2.toX hp hob.1
    have hlen : 0 < (tabI (a % 4)).bs.length := by
      have := Nat.le_of_ble_eq_true hob.2
      rw [len_eq] at this; exact this
    obtain ⟨L, hL, e⟩ := h3 0 u (tab_ptr _ h4) hu hlen
    refine ⟨u, rfl, by rw [e]; rfl, hK.at, rhoT (tabI (a % 4)).bs.length ρ', h1, ⟨L, hL, e, isX_iff.2 ⟨Nat.le_refl _, by rw [tabX_len]; omega⟩⟩, h2⟩

theorem Live.size {E : Env} {b : Nat → Prop} {ρ0 : Rho} {σ : Nat → Value} {cs : List Frame} {m : AM} {M : Machine} {w : World} (h : Live E b ρ0 σ cs m M w) : ∀ k, b k → k < w.heap.size := by
  obtain ⟨ρ, f, cs', pd, q, rfl, hm, hlow⟩ := h
  exact hm.r.size

/-- A law's way from a place to behind its next call of Table: a symbol stands for the table then. -/
theorem via_table {E : Env} {b : Nat → Prop} {ρ0 : Rho} {σ : Nat → Value} {cs : List Frame} {m mc m2 : AM} {M : Machine} {w0 w : World} {n a it t0 i0 f nt : Nat} {keep θ : List (Nat × AV)} {td : List AItem} (hP : E.P = Tryz.prog) (hV : ∀ w, E.V w → errV w) (ok : EnvS E σ) (mo : MemoOK E σ)
    (hvars : Vars gl w0) (hE0 : errV w0) (hb : ∀ j, j < w0.heap.size → b j) (hB0 : Below w0.heap.size w0 w) (hold : Hold E.V b w) (h : Live E b ρ0 σ cs m M w)
    (hrun : runS E (atCall fTable9) n m = some mc) (hfr : enterA E fTable9 [.sym it] .normal = some mc.fr) (hdst : dstIs mc t0 = true) (hm2 : behind mc = some m2) (htd : m2.fr.todo = td) (hgen : genOK gl [] f nt keep [] θ [] [t0] m2 = true)
    (hk : tget (patT nt keep) t0 = .sym i0) (hno : noD td = true) (hi : σ it = .int .u8 (a : Int)) :
    ∃ ρt p M2 w2, PtrX (a % 4) ρt p ∧ Steps Tryz.prog M M2 ∧ Below w0.heap.size w0 w2 ∧ tabW (a % 4) ρt w2 ∧ ∀ σ' : Nat → Value, σ' i0 = p → σ' kM = σ kM → TheOK σ σ' θ →
      ∃ b', (∀ j, j < w0.heap.size → b' j) ∧ Hold E.V b' w2 ∧ Hold (tabW (a % 4) ρt) b' w2 ∧ Hold (fun w => E.V w ∧ tabW (a % 4) ρt w) b' w2 ∧ ∀ E' : Env, Live E' b' ρ0 σ' cs (patM gl [] f nt td keep []) M2 w2 := by
  obtain ⟨⟨M1, w1, g1, g2, g3⟩, _⟩ := h.run ok mo hold hrun
  have hold1 := hold.kept g2
  have hB1 : Below w0.heap.size w0 w1 := Below.kept hB0 g2 hb
  have hv1 := Vars.below hvars hB1
  obtain ⟨u, w2, M2, c1, c2, ⟨ρt, x1, x2, x3⟩, c4⟩ := g3.call (E' := E) (gl := gl) (xs := []) (fn := f) (nt := nt) (keep := keep) (bs := []) (θ := θ) (μ := []) (f := fTable9) (args := [.sym it]) (t0 := t0) (i0 := i0) (m2 := m2)
    (Post := fun u w2 => ∃ ρt, HasX (tabX (a % 4)) ρt w2 ∧ PtrX (a % 4) ρt u ∧ ∀ i L, ρt i = some L → w1.heap.size ≤ L.blk ∧ L.blk < w2.heap.size) ok.ok hfr hdst hm2 hgen hk rfl glOK gl_bareM rfl fun va hva => by
      have e : va = #[.int .u8 (a : Int)] := Array.ext' (tellsVs_funs (l := [.sym it]) (ρ := fun _ => none) (ρ' := fun _ => none) rfl hva ⟨_, _, rfl, ⟨hi.symm, rfl⟩, rfl⟩)
      subst e
      rw [hP]
      exact table_calls hv1 a
  rw [hP] at g1 c1
  have hB2 : Below w0.heap.size w0 w2 := hB1.trans (c2.mono hB1.size)
  have hsz := Live.size g3
  have kb : Kept b w1 w2 := ⟨c2.os, c2.tape, c2.output, c2.size, fun k hk => c2.block k (hsz k hk)⟩
  have hold2 := hold1.kept kb
  have ht : tabW (a % 4) ρt w2 := ⟨x1, hV w2 hold2.now⟩
  refine ⟨ρt, u, M2, w2, x2, g1.trans c1, hB2, ht, fun σ' h1 h2 h3 => ?_⟩
  obtain ⟨b', p1, p2, p3⟩ := c4 σ' h1 h2 h3
  rw [htd] at p3
  have bl : ∀ j, j < w0.heap.size → b' j := fun j hj => p1 j (hb j hj)
  have hE : Hold E.V b' w2 := hold2.wide p1
  have he : Hold errV b' w2 := ((errV_hold w0 hE0).kept ⟨hB2.os, hB2.tape, hB2.output, hB2.size, fun k hk => hB2.block k hk⟩).wide bl
  have hT : Hold (tabW (a % 4) ρt) b' w2 := tabW_hold ht (fun i L _ hL => p2 _ (x3 i L hL).1 (x3 i L hL).2) he
  exact ⟨b', bl, hE, hT, ⟨⟨hE.now, hT.now⟩, fun wa wb ⟨ha, hb⟩ hK => ⟨hE.keep _ _ ha hK, hT.keep _ _ hb hK⟩⟩, fun E' => Live.env p3 rfl hno⟩
end
end Go.Proofs.YtnnhijfbdkokkaaGreatDoor

/-! A law's beginning: to behind its first call of Table; rows that all laws share. -/
namespace Go.Proofs.YtnnhijfbdkokkaaGreatDoor
open Go Go.Eng Go.RowKit
noncomputable section
set_option maxRecDepth 100000

def tabs18 : List (FuncId × Img) := [(fAwake18, yes)]
theorem tabs18_ok {E : Env} (hP : E.P = Tryz.prog) (σ : Nat → Value) : MemoOK { E with memo := memoI gl tabs18 } σ := by
  refine MemoOK.ofI ?_ _
  rw [hP]
  intro x hx
  simp only [tabs18, List.mem_cons, List.mem_nil_iff, or_false] at hx
  rcases hx with rfl
  exact know18
/-- The environment of a law's beginning. -/
def EL (o : List OR) : Env := Ee.askM 9 o [] (memoOr (memoI gl tabs18) (memoKH gl []))
theorem envEL {o : List OR} {σ : Nat → Value} (ho : ∀ r ∈ o, RowOK (EL o) 9 σ r) : EnvS (EL o) σ ∧ MemoOK (EL o) σ :=
  ⟨EnvS.askM envEe ho (fun r hr => by cases hr), MemoOK.or (E := EL o) (tabs18_ok (E := EL o) rfl _) (memoKH_ok (E := EL o) rfl fun r hr => by cases hr)⟩

def mrNil : List OR := [⟨Nat.add (Nat.mul 8 tTab) 7, [.sym 50, .nilptr], .bool false⟩, ⟨Nat.add (Nat.mul 8 tTab) 8, [.sym 50, .nilptr], .bool true⟩]
def dayN (n : Nat) : Nat := 1 + n % 3652059
theorem dayN_ok (n : Nat) : 1 ≤ dayN n ∧ dayN n ≤ 3652059 := by unfold dayN; omega
/-- A table's symbol is no nil. -/
theorem mrNil_ok {E : Env} {σ : Nat → Value} {k : Nat} {ρt : Rho} {p : Value} (hT : E.ty = E0.ty) (ok : EnvOK E) (hp : PtrX k ρt p) (h : σ 50 = p) : ∀ r ∈ mrNil, RowM E σ r := by
  obtain ⟨L, _, e, _⟩ := hp
  have hu : und E tTab = some (.pointer 86) := by unfold und; rw [hT]; kernel_rfl
  intro r hr
  simp only [mrNil, List.mem_cons, List.mem_nil_iff, or_false] at hr
  rcases hr with rfl | rfl
  · exact RowM.nil (u := tTab) hu (h.trans e) (.inl ⟨rfl, rfl⟩) ok
  · exact RowM.nil (u := tTab) hu (h.trans e) (.inr ⟨rfl, rfl⟩) ok
/-- A day's reckoning out of a number. -/
theorem conv_u32 {E : Env} (hT : E.ty = E0.ty) {σ : Nat → Value} {i j : Nat} {n : Nat} (hn : n < 4294967296) (hi : conc σ (.sym i) = .int .u32 (n : Int)) (hj : conc σ (.sym j) = .int .i64 (n : Int)) : RowOK E 9 σ ⟨cv tU32 tDay, [.sym i], .sym j⟩ := by
  refine RowOK.conv (u := tU32) (d := tDay) (k := .u32) (k' := .i64) (n := (n : Int)) ?_ ?_ hi ?_ (by decide)
  · unfold und; rw [hT]; kernel_rfl
  · unfold und; rw [hT]; kernel_rfl
  · rw [hj, wrap64_id (by omega) (by omega)]
/-- Calls of Text, Read on a table's symbol, as rows. -/
theorem kr_text {k : Nat} {ρt : Rho} (hk : k < 4) {p : Value} (hp : PtrX k ρt p) {V : World → Prop} (hV : ∀ w, V w → tabW k ρt w) {σ : Nat → Value} {m : Int} (hm : σ kM = .int .i64 m) {i j q : Nat} {z : Int} (h50 : σ q = p) (hi : σ i = .int .i64 z) (hj : σ j = strV (lineI k z)) :
    KRow Tryz.prog gl σ fLText [.sym q, .sym i] ⟨.sym j, []⟩ V := by
  have hp1 : p.oneCell' = true := by obtain ⟨L, _, rfl, _⟩ := hp; rfl
  exact KRow.ofC hm rfl rfl (va := #[p, .int .i64 z]) ⟨_, _, rfl, ⟨h50.symm, hp1⟩, _, _, rfl, ⟨hi.symm, rfl⟩, rfl⟩ (.inl rfl) (u := strV (lineI k z)) ⟨hj.symm, rfl⟩ (CallsV.more (c_ltextI hk hp z) hV)
theorem kr_read {k : Nat} {ρt : Rho} (hk : k < 4) {p : Value} (hp : PtrX k ρt p) {V : World → Prop} (hV : ∀ w, V w → tabW k ρt w) {σ : Nat → Value} {m : Int} (hm : σ kM = .int .i64 m) {i j q : Nat} {s : List UInt8} {bb : Bool} (hs : s.length ≤ 1000) (h50 : σ q = p) (hi : σ i = strV s) (hj : σ j = .int .i64 (readN k s : Nat)) (hb : bb = readB k s) :
    KRow Tryz.prog gl σ fLRead [.sym q, .sym i] ⟨.tuple [.sym j, .bool bb], []⟩ V := by
  have hp1 : p.oneCell' = true := by obtain ⟨L, _, rfl, _⟩ := hp; rfl
  subst hb
  exact KRow.ofC hm rfl rfl (va := #[p, strV s]) ⟨_, _, rfl, ⟨h50.symm, hp1⟩, _, _, rfl, ⟨hi.symm, rfl⟩, rfl⟩ (.inr ⟨_, rfl, rfl⟩) (u := readV k s) ⟨_, rfl, _, _, rfl, ⟨hj.symm, rfl⟩, _, _, rfl, rfl, rfl⟩ (CallsV.more (c_read hk hp hs) hV)


theorem PtrX.one {k : Nat} {ρt : Rho} {p : Value} (hp : PtrX k ρt p) : p.oneCell' = true := by obtain ⟨L, _, rfl, _⟩ := hp; rfl
/-- From a law's beginning to behind its first call of Table. -/
theorem via_start {f nt n t0 it a : Nat} {args : List AV} {keep θ : List (Nat × AV)} {td : List AItem} {o : List OR} {mc : Option AM} (hmc : mc = bnd (startM (EL o) (stOf gl) f args) (runS (EL o) (atCall fTable9) n)) (hfr : enterA (EL o) fTable9 [.sym it] .normal = frOf mc)
    (hdst : isB mc (fun m => dstIs m t0) = true) (htd : todoOf (bnd mc behind) = some td) (hgen : isB (bnd mc behind) (genOK gl [] f nt keep [] θ [] [t0]) = true) (hk : tget (patT nt keep) t0 = .sym 50) (hno : noD td = true)
    {W : World} (hvars : Vars gl W) (hE0 : errV W) {σ0 : Nat → Value} {va : Array Value} (hva : ∀ m ρ, VRs ρ (withM σ0 m) args va.toList) (ho : ∀ m, ∀ r ∈ o, RowOK (EL o) 9 (withM σ0 m) r) (hi : ∀ m, withM σ0 m it = .int .u8 (a : Int)) (cs : List Frame) :
    ∃ m ρ0 ρt p M2 w2, PtrX (a % 4) ρt p ∧ Steps Tryz.prog (lone (Frame.enter Tryz.prog f va .normal) cs W) M2 ∧ Below W.heap.size W w2 ∧ tabW (a % 4) ρt w2 ∧ ∀ σ' : Nat → Value, withM σ' m 50 = p → TheOK (withM σ0 m) (withM σ' m) θ →
      ∃ b', (∀ j, j < W.heap.size → b' j) ∧ Hold errV b' w2 ∧ Hold (tabW (a % 4) ρt) b' w2 ∧ ∀ E' : Env, Live E' b' ρ0 (withM σ' m) cs (patM gl [] f nt td keep []) M2 w2 := by
  obtain ⟨m, hm⟩ := id hvars
  obtain ⟨ρ, hR⟩ := hm (withM σ0 m) (withM_kM _ _)
  cases hc : mc with
  | none => rw [hc] at hdst; cases hdst
  | some m1 =>
    rw [hc] at hmc hfr hdst htd hgen
    have hfr : enterA (EL o) fTable9 [.sym it] .normal = some m1.fr := hfr
    have hdst : dstIs m1 t0 = true := hdst
    have htd : todoOf (behind m1) = some td := htd
    have hgen : isB (behind m1) (genOK gl [] f nt keep [] θ [] [t0]) = true := hgen
    cases hm2 : behind m1 with
    | none => rw [hm2] at htd; cases htd
    | some m2 =>
      rw [hm2] at htd hgen
      have htd : m2.fr.todo = td := Option.some.inj htd
      obtain ⟨m0, hm0, hm1⟩ := bnd_some hmc.symm
      obtain ⟨fr, hfr0, rfl⟩ := startM_some hm0
      obtain ⟨ok, mo⟩ := envEL (o := o) (σ := withM σ0 m) (ho m)
      have hL0 := Live.start (E := EL o) (cs := cs) ok.ok hR (hva m ρ) hfr0
      obtain ⟨ρt, p, M2, w2, hp, g1, hB, ht, g4⟩ := via_table (a := a) (it := it) (i0 := 50) (td := td) rfl (fun _ h => h) ok mo hvars hE0 (fun _ h => h) (Below.refl _ _) (errV_hold W hE0) hL0 hm1 hfr hdst hm2 htd hgen hk hno (hi m)
      refine ⟨m, ρ, ρt, p, M2, w2, hp, g1, hB, ht, fun σ' h1 h2 => ?_⟩
      obtain ⟨b', q1, q2, q3, _, q5⟩ := g4 (withM σ' m) h1 ((withM_kM _ _).trans (withM_kM _ _).symm) h2
      exact ⟨b', q1, q2, q3, q5⟩
end
end Go.Proofs.YtnnhijfbdkokkaaGreatDoor

/-! A day's text by the document, as a row. -/
namespace Go.Proofs.YtnnhijfbdkokkaaGreatDoor
open Go Go.Eng Go.RowKit
noncomputable section

theorem kr_text18 {k : Nat} {ρt : Rho} (hk : k < 4) {p : Value} (hp : PtrX k ρt p) {V : World → Prop} (hV : ∀ w, V w → tabW k ρt w) {σ : Nat → Value} {m : Int} (hm : σ kM = .int .i64 m) {i j q : Nat} {z : Int} (h50 : σ q = p) (hi : σ i = .int .i64 z) (hj : σ j = strV (lineI k z)) :
    KRow Tryz.prog gl σ fText18 [.sym q, .sym i] ⟨.sym j, []⟩ V := by
  have hp1 : p.oneCell' = true := by obtain ⟨L, _, rfl, _⟩ := hp; rfl
  exact KRow.ofC hm rfl rfl (va := #[p, .int .i64 z]) ⟨_, _, rfl, ⟨h50.symm, hp1⟩, _, _, rfl, ⟨hi.symm, rfl⟩, rfl⟩ (.inl rfl) (u := strV (lineI k z)) ⟨hj.symm, rfl⟩ (CallsV.more (c_text18I hk hp z) hV)
end
end Go.Proofs.YtnnhijfbdkokkaaGreatDoor

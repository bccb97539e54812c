/- Contracts by closed runs that look at memory; rows with structs. Contracts at any input: Long, Of, Atoi, Parse. The contract of Parse at any string. Fields between blanks; numerals: plain laws. No condition. -/
import Derived.Test.YtnnhijfbdkokkaaGreatDoorBd
import Derived.Test.YtnnhijfbdkokkaaGreatDoorE14
import Derived.Test.YtnnhijfbdkokkaaGreatDoorCh
import Derived.Lib.SplitLaws
/-! Contracts by closed runs that look at memory; rows with structs. -/
namespace Go.Proofs.YtnnhijfbdkokkaaGreatDoor
open Go Go.Eng Go.RowKit
abbrev tInts : Nat := 46
abbrev tRule : Nat := 131
abbrev tSpan : Nat := 231
abbrev tStr : Nat := 9
noncomputable section
set_option maxRecDepth 100000

theorem tellsVs_funs {ρ ρ' : Rho} {σ : Nat → Value} : ∀ {l : List AV}, l.all tellsV = true → ∀ {u v : List Value}, VRs ρ σ l u → VRs ρ' σ l v → u = v
  | [], _, _, _, h1, h2 => h1.trans h2.symm
  | a :: l, ha, _, _, ⟨x, r, e, h1, hl⟩, ⟨y, q, e', h2, hq⟩ => by
    simp only [List.all_cons, Bool.and_eq_true] at ha
    rw [e, e', tellsV_fun ha.1 h1 h2, tellsVs_funs ha.2 hl hq]

/-- A contract is a row, structs among its arguments. -/
theorem KRow.ofC {V : World → Prop} {σ : Nat → Value} {m : Int} (hm : σ kM = .int .i64 m) {f : FuncId} {args : List AV} {a : AV} {va : Array Value} {u : Value} (ht : args.all tellsV = true) (hg : args.all plainG = true) (ha : VRs (fun _ => none) σ args va.toList) (hp : plainA a = true ∨ (∃ l, a = .tuple l ∧ l.all plainA = true))
    (hu : VR (fun _ => none) σ a u) (h : CallsV Tryz.prog gl f va u V) : KRow Tryz.prog gl σ f args ⟨a, []⟩ V :=
  KRow.ofPG glOK hg hp (PRow.ofV glOK gl_bareM gl_has hm fun w va' hva hw hV => by
    have e : va' = va := Array.ext' (tellsVs_funs ht hva ha)
    subst e
    exact (h w hw hV).mono fun e w' ⟨h1, h2⟩ => ⟨u, h1, hu, h2⟩)

/-- A closed run that looks at memory is a contract. -/
theorem CallsV.scriptM {E : Env} (ok : EnvOK E) (hP : E.P = Tryz.prog) {σ : Nat → Value} {f : FuncId} {args : List AV} {n : Nat} {v : AV} {va : Array Value} {u : Value} {orows mrows : List OR} {krows : List KR}
    (ho : ∀ m, ∀ r ∈ orows, RowOK (E.askM 9 orows mrows (memoKH gl krows)) 9 (withM σ m) r) (hmr : ∀ m, ∀ r ∈ mrows, RowM (E.askM 9 orows mrows (memoKH gl krows)) (withM σ m) r) (hk : ∀ m, ∀ r ∈ krows, KRow Tryz.prog gl (withM σ m) r.f r.args r.img E.V)
    (run : rowRunG (E.askM 9 orows mrows (memoKH gl krows)) gl f args n v = true) (ha : ∀ m, VRs (fun _ => none) (withM σ m) args va.toList) (hu : ∀ m, VR (fun _ => none) (withM σ m) v u) (ht : tellsV v = true)
    (hV : ∀ w, E.V w → Hold E.V (fun k => k < w.heap.size) w) : CallsV Tryz.prog gl f va u E.V := by
  intro w ⟨m, hm⟩ hw
  obtain ⟨ρ, hR⟩ := hm (withM σ m) (withM_kM σ m)
  have mo : MemoOK (E.askM 9 orows mrows (memoKH gl krows)) (withM σ m) := by
    have h := MemoOK.ofK (E := E.askM 9 orows mrows (memoKH gl krows)) (gl := gl) (rows := krows) (σ := withM σ m) (by rw [show (E.askM 9 orows mrows (memoKH gl krows)).P = Tryz.prog from hP]; exact hk m)
    rw [← memoKH_eq] at h
    exact h
  have row := PRow.ofGr (E := E.askM 9 orows mrows (memoKH gl krows)) (EnvS.askM ok (ho m) (hmr m)) mo run
  rw [show (E.askM 9 orows mrows (memoKH gl krows)).P = Tryz.prog from hP] at row
  exact (row w va (hV w hw) ⟨ρ, hR⟩ (ha m)).mono fun e w' ⟨u', h1, h2, h3⟩ => ⟨by rw [h1, tellsV_fun ht h2 (hu m)], h3⟩

theorem memoKH_ok {E : Env} (hP : E.P = Tryz.prog) {σ : Nat → Value} {krows : List KR} (hk : ∀ r ∈ krows, KRow Tryz.prog gl σ r.f r.args r.img E.V) : MemoOK { E with memo := memoKH gl krows } σ := by
  have h := MemoOK.ofK (E := E) (gl := gl) (rows := krows) (σ := σ) (by rw [hP]; exact hk)
  rw [← memoKH_eq] at h
  exact h

section
variable {E E' : Env} {b : Nat → Prop} {ρ0 : Rho} {σ : Nat → Value} {cs : List Frame} {m : AM} {M : Machine} {w : World}
/-- Where no region is under way the environment may be another one. -/
theorem Live.env (h : Live E b ρ0 σ cs m M w) (hc : m.callers = []) (hn : noD m.fr.todo = true) : Live E' b ρ0 σ cs m M w := by
  obtain ⟨ρ, f, cs', pd, q, rfl, ⟨hf, hcs, hr⟩, hl⟩ := h
  obtain ⟨⟨tm, todo, inf⟩, callers, s⟩ := m
  have hc : callers = [] := hc
  subst hc
  have hn : noD todo = true := hn
  have hpd := hf.tt.noP hn
  obtain ⟨hi, tr⟩ := hf.tt.noD hn
  exact ⟨ρ, f, cs', pd, q, rfl, ⟨⟨hf.fn, hf.kind, hf.ro, hf.defers, hf.mode, .plain hpd hi tr⟩, hcs, hr⟩, hl⟩
end
/-- What lay there stays. -/
theorem Below.kept {n : Nat} {b : Nat → Prop} {w w1 w2 : World} (h : Below n w w1) (k : Kept b w1 w2) (hb : ∀ j, j < n → b j) : Below n w w2 :=
  ⟨k.os.trans h.os, k.tape.trans h.tape, k.output.trans h.output, Nat.le_trans h.size k.size, fun j hj => (k.block j (hb j hj)).trans (h.block j hj)⟩
/-- Where a call begins. -/
def startM (E : Env) (s : St) (f : FuncId) (args : List AV) : Option AM := match enterA E f args .normal with
  | some fr => some ⟨fr, [], s⟩
  | none => none
def bnd {α β : Type} (o : Option α) (f : α → Option β) : Option β := match o with
  | some a => f a
  | none => none
theorem bnd_some {α β : Type} {o : Option α} {f : α → Option β} {y : β} (h : bnd o f = some y) : ∃ x, o = some x ∧ f x = some y := by
  cases o with
  | none => cases h
  | some x => exact ⟨x, rfl, h⟩
theorem startM_some {E : Env} {s : St} {f : FuncId} {args : List AV} {m : AM} (h : startM E s f args = some m) : ∃ fr, enterA E f args .normal = some fr ∧ m = ⟨fr, [], s⟩ := by
  unfold startM at h
  split at h
  · rename_i fr hfr; cases h; exact ⟨fr, hfr, rfl⟩
  · cases h
end
end Go.Proofs.YtnnhijfbdkokkaaGreatDoor

/-! Contracts at any input: Long, Of, Atoi, Parse. -/
namespace Go.Proofs.YtnnhijfbdkokkaaGreatDoor
open Go Go.Eng Go.RowKit
noncomputable section
set_option maxRecDepth 100000

/-! ### The errors' variables -/
def ifaceAt (g : Nat) (w : World) : Prop := ∃ ev, w.cell? ⟨g, 0, none⟩ = some ev ∧ (ev = .nilIface ∨ ∃ te pe, ev = .iface te pe)
def errV (w : World) : Prop := tabV w ∧ ifaceAt 2 w ∧ ifaceAt 3 w
theorem cell_kept {g : Nat} {b : Nat → Prop} {w w' : World} (hK : Kept b w w') (hb : b g) : w'.cell? ⟨g, 0, none⟩ = w.cell? ⟨g, 0, none⟩ := by
  unfold World.cell?
  rw [hK.block g hb]
theorem errV_hold (w : World) (h : errV w) : Hold errV (fun k => k < w.heap.size) w := by
  have ht := tabV_hold w h.1
  obtain ⟨_, h2, h3⟩ := h
  refine ⟨⟨ht.now, h2, h3⟩, fun w1 w2 ⟨q1, q2, q3⟩ hK => ⟨ht.keep _ _ q1 hK, ?_, ?_⟩⟩
  · obtain ⟨ev, e1, e2⟩ := h2
    obtain ⟨ev', e1', e2'⟩ := q2
    exact ⟨ev', by rw [cell_kept hK (Lib.lt_of_cell e1)]; exact e1', e2'⟩
  · obtain ⟨ev, e1, e2⟩ := h3
    obtain ⟨ev', e1', e2'⟩ := q3
    exact ⟨ev', by rw [cell_kept hK (Lib.lt_of_cell e1)]; exact e1', e2'⟩
def Ee : Env := { E0 with V := errV }
theorem envEe : EnvOK Ee := ⟨envOK.ty, envOK.fns, envOK.mixed⟩
/-- A contract where the errors' variables stand. -/
abbrev CE (f : FuncId) (va : Array Value) (u : Value) : Prop := CallsV Tryz.prog gl f va u errV
theorem CG.e {f : FuncId} {va : Array Value} {u : Value} (h : CG f va u) : CE f va u := CallsV.more h fun _ h => h.1

/-- A row that hands back a number and an error that is there. -/
theorem KRow.err {V : World → Prop} {σ : Nat → Value} {f : FuncId} {args : List AV} {a : AV} {t : TypeId} (ha : args.all plainG = true) (hp : plainA a = true) (h : PRow Tryz.prog gl σ f args (.tuple [a, .iface t .any]) V) : KRow Tryz.prog gl σ f args ⟨.tuple [a, .iface t .any], []⟩ V := by
  intro B ρ s w va hv0 hR hs hva v s' hpl cs
  have hpl : v = .tuple [a, .iface t .any] ∧ s' = s := by
    obtain ⟨N, tt⟩ := s
    unfold place at hpl
    simp only [putB] at hpl
    cases hpl
    refine ⟨?_, rfl⟩
    have pl : ∀ (f : Nat → Nat), ren f a = a := fun f => by cases a <;> first | rfl | cases hp
    unfold ren rens rens rens
    rw [pl]; rfl
  obtain ⟨rfl, rfl⟩ := hpl
  obtain ⟨e, w', fr, ⟨u, rfl, hu, hB⟩, h2⟩ := h w va (hv0.wide hR.size) ⟨_, hR.start glOK hs⟩ (plainGs_any ha hva) cs
  refine ⟨_, w', fr, ⟨u, ρ, rfl, Ext.refl _, ?_, hR.frame hB, ⟨hB.os, hB.tape, hB.output, hB.size, fun k hk => hB.block k (hR.size k hk)⟩⟩, h2⟩
  obtain ⟨vs, rfl, x, r, e1, hx, y, r', rfl, ⟨z, rfl, hz⟩, rfl⟩ := hu
  exact ⟨_, rfl, x, _, e1, plainA_any hp hx, _, _, rfl, ⟨z, rfl, hz⟩, rfl⟩

/-! ### Atoi at any string -/
/-- What Atoi comes to: a number; is it one? -/
def atoiN (l : List UInt8) : Int := match Lib.atoiAll l with
  | .ok n => n
  | .range => Lib.atoiSat l
  | _ => 0
def atoiB (l : List UInt8) : Bool := match Lib.atoiAll l with
  | .ok _ => true
  | _ => false
theorem atoiN_bounds (l : List UInt8) : -9223372036854775808 ≤ atoiN l ∧ atoiN l ≤ 9223372036854775807 := by
  unfold atoiN
  split
  · exact Lib.atoiAll_bounds (by assumption)
  · exact Lib.atoiSat_bounds l
  · omega
def errA (ok : Bool) : AV := match ok with
  | true => .nilIface
  | false => .iface 140 .any
theorem c_atoi_err (l : List UInt8) (hl : l.length ≤ 1000000) (h : atoiB l = false) (w : World) (hw : errV w) :
    Calls Tryz.prog fAtoi #[strV l] w (fun e w' => ∃ N, e = .returned (.tuple #[.int .i64 (atoiN l), .iface 140 (.pointer (some ⟨N, 0, none⟩))]) ∧ Below w.heap.size w w') := by
  obtain ⟨_, ⟨e2, h2, k2⟩, ⟨e3, h3, k3⟩⟩ := hw
  have hsz : (⟨l.toArray⟩ : ByteArray).size ≤ 281474976710656 := by show l.toArray.size ≤ _; rw [List.size_toArray]; omega
  unfold atoiB at h
  unfold atoiN
  cases e : Lib.atoiAll l
  · rw [e] at h; cases h
  all_goals first
    | exact (Any.strconv_Atoi_syntax Tryz.laysC172 ⟨l.toArray⟩ hsz e e2 w h2 k2).mono fun _ _ ⟨N, q1, _, _, q4⟩ => ⟨N, q1, q4⟩
    | exact (Any.strconv_Atoi_syntax Tryz.laysC172 ⟨l.toArray⟩ hsz e e3 w h3 k3).mono fun _ _ ⟨N, q1, _, _, q4⟩ => ⟨N, q1, q4⟩
    | exact (Any.strconv_Atoi_range Tryz.laysC172 ⟨l.toArray⟩ hsz e e2 w h2 k2).mono fun _ _ ⟨N, q1, _, _, q4⟩ => ⟨N, q1, q4⟩
    | exact (Any.strconv_Atoi_range Tryz.laysC172 ⟨l.toArray⟩ hsz e e3 w h3 k3).mono fun _ _ ⟨N, q1, _, _, q4⟩ => ⟨N, q1, q4⟩
theorem c_atoiL (l : List UInt8) (n : Int) (hl : l.length ≤ 1000000) (h : Lib.atoiAll l = .ok n) : CE fAtoi #[strV l] (.tuple #[.int .i64 n, .nilIface]) := by
  intro w _ _
  refine (Tryz.strconv_Atoi_ok ⟨l.toArray⟩ (by show l.toArray.size ≤ _; rw [List.size_toArray]; omega) n h w).mono ?_
  rintro e w' ⟨rfl, rfl | ⟨t, rfl⟩⟩
  · exact ⟨rfl, Below.refl _ _⟩
  · exact ⟨rfl, Lib.bytesWorld_below _ _ _⟩
/-- Atoi at any string, as a row. -/
theorem kr_atoi {σ : Nat → Value} {m : Int} (hm : σ kM = .int .i64 m) {a b : AV} {l : List UInt8} (ha : tellsV a = true) (hg : plainG a = true) (hl : l.length ≤ 1000000) (h1 : VR (fun _ => none) σ a (strV l)) (hp : plainA b = true) (h2 : VR (fun _ => none) σ b (.int .i64 (atoiN l))) :
    KRow Tryz.prog gl σ fAtoi [a] ⟨.tuple [b, errA (atoiB l)], []⟩ errV := by
  have hgs : [a].all plainG = true := by rw [List.all_cons, hg]; rfl
  have hts : [a].all tellsV = true := by rw [List.all_cons, ha]; rfl
  cases hB : atoiB l with
  | true =>
    have e : Lib.atoiAll l = .ok (atoiN l) := by
      unfold atoiB at hB
      unfold atoiN
      split at hB
      · rename_i n e; rw [e]
      · cases hB
    exact KRow.ofC hm hts hgs (va := #[strV l]) ⟨_, _, rfl, h1, rfl⟩ (.inr ⟨_, rfl, by rw [List.all_cons, hp]; rfl⟩) (u := .tuple #[.int .i64 (atoiN l), .nilIface]) ⟨_, rfl, _, _, rfl, h2, _, _, rfl, rfl, rfl⟩ (c_atoiL l _ hl e)
  | false =>
    refine KRow.err hgs hp (PRow.ofV glOK gl_bareM gl_has hm fun w va hva _ hV => ?_)
    have e : va = #[strV l] := Array.ext' (tellsVs_funs hts hva ⟨_, _, rfl, h1, rfl⟩)
    subst e
    refine (c_atoi_err l (by omega) hB w hV).mono fun e w' ⟨N, q1, q2⟩ => ⟨_, q1, ⟨_, rfl, _, _, rfl, h2, _, _, rfl, ⟨_, rfl, rfl⟩, rfl⟩, q2⟩

/-! ### Long and Of at any numbers -/
def noM (σ : Nat → Value) (a b c : Value) (i : Nat) : Value := match i with
  | 0 => a
  | 1 => b
  | 2 => c
  | j + 3 => σ j
def orLn (a b : Bool) : List OR := [⟨13, [.sym 1, .int .i64 1], .bool a⟩, ⟨15, [.sym 1, .int .i64 12], .bool b⟩]
def ELn (a b : Bool) : Env := Ee.askM 9 (orLn a b) [] (memoKH gl [])
theorem runLn : ∀ a b : Bool, (a || b) = true → rowRunG (ELn a b) gl fLong [.sym 0, .sym 1] 200 (.int .i64 0) = true := by
  intro a b h
  cases a <;> cases b <;> first | (cases h; done) | kernel_rfl
theorem c_long_none (y m : Int) (h : m < 1 ∨ 12 < m) : CE fLong #[.int .i64 y, .int .i64 m] (.int .i64 0) := by
  refine CallsV.scriptM (E := Ee) envEe rfl (σ := noM (fun _ => .nilIface) (.int .i64 y) (.int .i64 m) .nilIface) (orows := orLn (decide (m < 1)) (decide (12 < m))) (mrows := []) (krows := []) (fun mm r hr => ?_) (fun _ r hr => by cases hr) (fun _ r hr => by cases hr)
    (runLn _ _ (by rw [Bool.or_eq_true, decide_eq_true_eq, decide_eq_true_eq]; exact h)) (fun _ => ⟨_, _, rfl, ⟨rfl, rfl⟩, _, _, rfl, ⟨rfl, rfl⟩, rfl⟩) (fun _ => rfl) rfl errV_hold
  simp only [orLn, List.mem_cons, List.mem_nil_iff, or_false] at hr
  rcases hr with rfl | rfl
  · exact RowOK.cmp .i64 (x := m) (y := 1) rfl rfl (.inr (.inr (.inl ⟨rfl, rfl⟩)))
  · exact RowOK.cmp .i64 (x := m) (y := 12) rfl rfl (.inr (.inr (.inr (.inr (.inl ⟨rfl, rfl⟩)))))

def orOn (a b c e : Bool) : List OR := [⟨13, [.sym 0, .int .i64 1], .bool a⟩, ⟨15, [.sym 0, .int .i64 9999], .bool b⟩, ⟨13, [.sym 2, .int .i64 1], .bool c⟩, ⟨15, [.sym 2, .sym 3], .bool e⟩]
def krOn : List KR := [⟨fLong, [.sym 0, .sym 1], ⟨.sym 3, []⟩⟩]
def EOn (a b c e : Bool) : Env := Ee.askM 9 (orOn a b c e) [] (memoKH gl krOn)
theorem runOn : ∀ a b c e : Bool, (a || b || c || e) = true → rowRunG (EOn a b c e) gl fOf [.sym 0, .sym 1, .sym 2] 300 (.tuple [.int .i64 0, .bool false]) = true := by
  intro a b c e h
  cases a <;> cases b <;> cases c <;> cases e <;> first | (cases h; done) | kernel_rfl
/-- How many days: none where there is no such month. -/
def longI (y m : Int) : Int := if m < 1 ∨ 12 < m then 0 else longN (leapB y) m.toNat
theorem c_longI (y m : Int) : CE fLong #[.int .i64 y, .int .i64 m] (.int .i64 (longI y m)) := by
  unfold longI
  split
  · exact c_long_none y m (by assumption)
  · have h := (c_long y (m := m.toNat) (by omega) (by omega)).w.g
    rw [show ((m.toNat : Nat) : Int) = m by omega] at h
    exact CG.e h
theorem c_of_none (y m d : Int) (h : y < 1 ∨ 9999 < y ∨ d < 1 ∨ longI y m < d) : CE fOf #[.int .i64 y, .int .i64 m, .int .i64 d] (.tuple #[.int .i64 0, .bool false]) := by
  refine CallsV.scriptM (E := Ee) envEe rfl (σ := noM (fun _ => .int .i64 (longI y m)) (.int .i64 y) (.int .i64 m) (.int .i64 d)) (orows := orOn (decide (y < 1)) (decide (9999 < y)) (decide (d < 1)) (decide (longI y m < d))) (mrows := []) (krows := krOn) (fun mm r hr => ?_) (fun _ r hr => by cases hr) (fun mm r hr => ?_)
    (runOn _ _ _ _ (by simp only [Bool.or_eq_true, decide_eq_true_eq]; omega)) (fun _ => ⟨_, _, rfl, ⟨rfl, rfl⟩, _, _, rfl, ⟨rfl, rfl⟩, _, _, rfl, ⟨rfl, rfl⟩, rfl⟩) (fun _ => ⟨_, rfl, _, _, rfl, rfl, _, _, rfl, rfl, rfl⟩) rfl errV_hold
  · simp only [orOn, List.mem_cons, List.mem_nil_iff, or_false] at hr
    rcases hr with rfl | rfl | rfl | rfl
    · exact RowOK.cmp .i64 (x := y) (y := 1) rfl rfl (.inr (.inr (.inl ⟨rfl, rfl⟩)))
    · exact RowOK.cmp .i64 (x := y) (y := 9999) rfl rfl (.inr (.inr (.inr (.inr (.inl ⟨rfl, rfl⟩)))))
    · exact RowOK.cmp .i64 (x := d) (y := 1) rfl rfl (.inr (.inr (.inl ⟨rfl, rfl⟩)))
    · exact RowOK.cmp .i64 (x := d) (y := longI y m) rfl rfl (.inr (.inr (.inr (.inr (.inl ⟨rfl, rfl⟩)))))
  · simp only [krOn, List.mem_cons, List.mem_nil_iff, or_false] at hr
    subst hr
    exact KRow.ofC (withM_kM _ _) rfl rfl (va := #[.int .i64 y, .int .i64 m]) ⟨_, _, rfl, ⟨rfl, rfl⟩, _, _, rfl, ⟨rfl, rfl⟩, rfl⟩ (.inl rfl) (u := .int .i64 (longI y m)) ⟨rfl, rfl⟩ (c_longI y m)
/-- Of at any numbers: a day, or none; a day has a text. -/
theorem c_of_all (y m d : Int) : ∃ (n : Int) (ok : Bool), CE fOf #[.int .i64 y, .int .i64 m, .int .i64 d] (.tuple #[.int .i64 n, .bool ok]) ∧ (ok = true → ∃ T : List UInt8, CE fText #[.int .i64 n] (strV T)) := by
  by_cases h : y < 1 ∨ 9999 < y ∨ d < 1 ∨ longI y m < d
  · exact ⟨0, false, c_of_none y m d h, fun h => by cases h⟩
  · have hm : ¬ (m < 1 ∨ 12 < m) := fun hm => by
      have : longI y m = 0 := by unfold longI; rw [if_pos hm]
      omega
    have hd : d ≤ longN (leapB y) m.toNat := by
      have : longI y m = longN (leapB y) m.toNat := by unfold longI; rw [if_neg hm]
      omega
    obtain ⟨yN, rfl⟩ : ∃ k : Nat, y = k := ⟨y.toNat, by omega⟩
    obtain ⟨mN, rfl⟩ : ∃ k : Nat, m = k := ⟨m.toNat, by omega⟩
    obtain ⟨dN, rfl⟩ : ∃ k : Nat, d = k := ⟨d.toNat, by omega⟩
    rw [show ((mN : Nat) : Int).toNat = mN by omega] at hd
    have c := c_of (y := yN) (mm := mN) (d := dN) (by omega) (by omega) (by omega) (by omega) (by omega) (by omega)
    refine ⟨_, true, CG.e c.w.g, fun _ => ?_⟩
    have up : aheadN yN + dN + daysM (leapB (yN : Int)) (mN - 1) ≤ 3652059 := by
      have e1 : daysM (leapB (yN : Int)) (mN - 1) + dN ≤ daysM (leapB (yN : Int)) 12 := by
        have key : ∀ l : Bool, ∀ k, k < 12 → daysM l k + longN l (k + 1) ≤ daysM l 12 := by decide
        have := key (leapB (yN : Int)) (mN - 1) (by omega)
        rw [show mN - 1 + 1 = mN by omega] at this
        omega
      have e2 := ahead_step yN (by omega)
      rw [days12] at e1
      have e3 := ahead_mono (y := yN + 1) (z := 10000) (by omega) (by omega)
      have e4 : aheadN 10000 = 3652059 := by decide
      omega
    obtain ⟨y', m', d', hD⟩ := dated (aheadN yN + dN + daysM (leapB (yN : Int)) (mN - 1)) (by omega) up
    exact ⟨_, CG.e (c_text hD).g⟩
end
end Go.Proofs.YtnnhijfbdkokkaaGreatDoor

/-! The contract of Parse at any string. -/
namespace Go.Proofs.YtnnhijfbdkokkaaGreatDoor
open Go Go.Eng Go.RowKit
noncomputable section
set_option maxRecDepth 100000

def sgPa (l : List UInt8) (n : Int) (T : List UInt8) (c4 c7 : Nat) : Nat → Value
  | 0 => strV l
  | 1 => strV (l.take 4)
  | 2 => strV ((l.drop 5).take 2)
  | 3 => strV (l.drop 8)
  | 4 => .int .i64 (atoiN (l.take 4))
  | 5 => .int .i64 (atoiN ((l.drop 5).take 2))
  | 6 => .int .i64 (atoiN (l.drop 8))
  | 7 => .int .i64 n
  | 8 => strV T
  | 9 => .int .i64 (l.length : Nat)
  | 10 => .int .u8 (c4 : Int)
  | 11 => .int .u8 (c7 : Int)
  | _ => .nilIface
def orP0 (a : Bool) : List OR := [⟨20, [.sym 0], .sym 9⟩, ⟨12, [.sym 9, .int .i64 10], .bool a⟩]
def orP1 (b c : Bool) : List OR := [⟨21, [.sym 0, .int .i64 4], .sym 10⟩, ⟨12, [.sym 10, .int .u8 45], .bool b⟩, ⟨21, [.sym 0, .int .i64 7], .sym 11⟩, ⟨12, [.sym 11, .int .u8 45], .bool c⟩]
def orP2 (ne : Bool) : List OR := [⟨24, [.sym 0, .int .i64 4], .sym 1⟩, ⟨22, [.sym 0, .int .i64 5, .int .i64 7], .sym 2⟩, ⟨23, [.sym 0, .int .i64 8], .sym 3⟩, ⟨12, [.sym 8, .sym 0], .bool ne⟩]
def krP (e1 e2 e3 ok : Bool) : List KR := [⟨fAtoi, [.sym 1], ⟨.tuple [.sym 4, errA e1], []⟩⟩, ⟨fAtoi, [.sym 2], ⟨.tuple [.sym 5, errA e2], []⟩⟩, ⟨fAtoi, [.sym 3], ⟨.tuple [.sym 6, errA e3], []⟩⟩, ⟨fOf, [.sym 4, .sym 5, .sym 6], ⟨.tuple [.sym 7, .bool ok], []⟩⟩] ++ bif_ ok [⟨fText, [.sym 7], ⟨.sym 8, []⟩⟩] []
def EP (o : List OR) (k : List KR) : Env := Ee.askM 9 o [] (memoKH gl k)
def noDay : AV := .tuple [.int .i64 0, .bool false]
theorem runPa : rowRunG (EP (orP0 true) []) gl fParse [.sym 0] 300 noDay = true := by kernel_rfl
theorem runPb : ∀ b c : Bool, (b || c) = true → rowRunG (EP (orP0 false ++ orP1 b c) []) gl fParse [.sym 0] 300 noDay = true := by
  intro b c h
  cases b <;> cases c <;> first | (cases h; done) | kernel_rfl
def resP (g : Bool) : AV := bif_ g (.tuple [.sym 7, .bool true]) noDay
theorem runPc : ∀ e1 e2 e3 ok ne : Bool, rowRunG (EP (orP0 false ++ (orP1 false false ++ orP2 ne)) (krP e1 e2 e3 ok)) gl fParse [.sym 0] 500 (resP (e1 && e2 && e3 && ok && !ne)) = true := by
  intro e1 e2 e3 ok ne
  cases e1 <;> cases e2 <;> cases e3 <;> cases ok <;> cases ne <;> kernel_rfl

section
variable {l : List UInt8} {n : Int} {T : List UInt8} {c4 c7 : Nat} {m : Int} {E : Env} (ht : E.ty = E0.ty)
include ht
theorem orP0_ok {a : Bool} (ha : a = !decide (l.length = 10)) : ∀ r ∈ orP0 a, RowOK E 9 (withM (sgPa l n T c4 c7) m) r := by
  intro r hr
  simp only [orP0, List.mem_cons, List.mem_nil_iff, or_false] at hr
  rcases hr with rfl | rfl
  · exact RowOK.len (typ9 ht) (x := nats l) rfl (by rw [nats_len]; rfl)
  · exact RowOK.cmp .i64 (x := ((l.length : Nat) : Int)) (y := 10) rfl rfl (.inr (.inl ⟨rfl, by rw [ha]; congr 1; rw [decide_eq_decide]; omega⟩))
theorem orP1_ok {b c : Bool} (h4 : (nats l)[4]? = some c4) (h7 : (nats l)[7]? = some c7) (hb : b = !decide (c4 = 45)) (hc : c = !decide (c7 = 45)) : ∀ r ∈ orP1 b c, RowOK E 9 (withM (sgPa l n T c4 c7) m) r := by
  intro r hr
  simp only [orP1, List.mem_cons, List.mem_nil_iff, or_false] at hr
  rcases hr with rfl | rfl | rfl | rfl
  · exact RowOK.idx (typ9 ht) (x := nats l) (k := .i64) (n := 4) (c := c4) rfl rfl h4 rfl
  · exact RowOK.cmp .u8 (x := (c4 : Int)) (y := 45) rfl rfl (.inr (.inl ⟨rfl, by rw [hb]; congr 1; rw [decide_eq_decide]; omega⟩))
  · exact RowOK.idx (typ9 ht) (x := nats l) (k := .i64) (n := 7) (c := c7) rfl rfl h7 rfl
  · exact RowOK.cmp .u8 (x := (c7 : Int)) (y := 45) rfl rfl (.inr (.inl ⟨rfl, by rw [hc]; congr 1; rw [decide_eq_decide]; omega⟩))
theorem orP2_ok {ne : Bool} (hl : l.length = 10) (hn : ne = !decide (nats T = nats l)) : ∀ r ∈ orP2 ne, RowOK E 9 (withM (sgPa l n T c4 c7) m) r := by
  have h10 : (nats l).length = 10 := by rw [nats_len, hl]
  have et : ∀ k, (nats l).take k = nats (l.take k) := fun k => by unfold nats; rw [List.map_take]
  have ed : ∀ k, (nats l).drop k = nats (l.drop k) := fun k => by unfold nats; rw [List.map_drop]
  intro r hr
  simp only [orP2, List.mem_cons, List.mem_nil_iff, or_false] at hr
  rcases hr with rfl | rfl | rfl | rfl
  · exact RowOK.part (typ9 ht) (a := .sym 0) (x := nats l) (lo := 0) (hi := 4) rfl (by omega) (by omega) (by rw [List.drop_zero, et]; rfl) (.inr (.inr ⟨rfl, rfl, _, .i64, rfl, rfl⟩))
  · exact RowOK.part (typ9 ht) (a := .sym 0) (x := nats l) (lo := 5) (hi := 7) rfl (by omega) (by omega) (by
      rw [ed]
      show AV.str (nats ((l.drop 5).take 2)) = .str ((nats (l.drop 5)).take 2)
      unfold nats; rw [List.map_take]) (.inl ⟨rfl, _, _, .i64, .i64, rfl, rfl, rfl⟩)
  · exact RowOK.part (typ9 ht) (a := .sym 0) (x := nats l) (lo := 8) (hi := 10) rfl (by omega) (by omega) (by
      rw [ed]
      show AV.str (nats (l.drop 8)) = .str ((nats (l.drop 8)).take 2)
      rw [List.take_of_length_le (by rw [nats_len, List.length_drop, hl]; omega)]) (.inr (.inl ⟨rfl, h10.symm, _, .i64, rfl, rfl⟩))
  · exact RowOK.seq (p := nats T) (q := nats l) rfl rfl (.inr ⟨rfl, hn⟩)
end

/-- Parse at any string: a day, or none. -/
theorem c_parse_all (l : List UInt8) : ∃ (n : Int) (ok : Bool), CE fParse #[strV l] (.tuple #[.int .i64 n, .bool ok]) := by
  by_cases h10 : l.length = 10
  case neg =>
    refine ⟨0, false, CallsV.scriptM (E := Ee) envEe rfl (σ := sgPa l 0 [] 0 0) (orows := orP0 true) (mrows := []) (krows := []) (fun mm r hr => orP0_ok (by rfl) (by rw [decide_eq_false h10]; rfl) r hr) (fun _ r hr => by cases hr) (fun _ r hr => by cases hr)
      runPa (fun _ => ⟨_, _, rfl, ⟨rfl, rfl⟩, rfl⟩) (fun _ => ⟨_, rfl, _, _, rfl, rfl, _, _, rfl, rfl, rfl⟩) rfl errV_hold⟩
  obtain ⟨c4, h4⟩ : ∃ c, (nats l)[4]? = some c := ⟨_, List.getElem?_eq_getElem (by rw [nats_len]; omega)⟩
  obtain ⟨c7, h7⟩ : ∃ c, (nats l)[7]? = some c := ⟨_, List.getElem?_eq_getElem (by rw [nats_len]; omega)⟩
  have f10 : false = !decide (l.length = 10) := by rw [decide_eq_true h10]; rfl
  by_cases hd : c4 = 45 ∧ c7 = 45
  case neg =>
    refine ⟨0, false, CallsV.scriptM (E := Ee) envEe rfl (σ := sgPa l 0 [] c4 c7) (orows := orP0 false ++ orP1 (!decide (c4 = 45)) (!decide (c7 = 45))) (mrows := []) (krows := []) (fun mm r hr => ?_) (fun _ r hr => by cases hr) (fun _ r hr => by cases hr)
      (runPb _ _ ?_) (fun _ => ⟨_, _, rfl, ⟨rfl, rfl⟩, rfl⟩) (fun _ => ⟨_, rfl, _, _, rfl, rfl, _, _, rfl, rfl, rfl⟩) rfl errV_hold⟩
    · rcases List.mem_append.1 hr with hr | hr
      · exact orP0_ok (by rfl) f10 r hr
      · exact orP1_ok (by rfl) h4 h7 rfl rfl r hr
    · by_cases h : c4 = 45
      · rw [decide_eq_true h, decide_eq_false (fun e => hd ⟨h, e⟩)]; rfl
      · rw [decide_eq_false h]; rfl
  obtain ⟨hd4, hd7⟩ := hd
  obtain ⟨n, ok, hOf, hTx⟩ := c_of_all (atoiN (l.take 4)) (atoiN ((l.drop 5).take 2)) (atoiN (l.drop 8))
  obtain ⟨T, hT⟩ : ∃ T : List UInt8, ok = true → CE fText #[.int .i64 n] (strV T) := by
    cases ok with
    | false => exact ⟨[], fun h => by cases h⟩
    | true => obtain ⟨T, h⟩ := hTx rfl; exact ⟨T, fun _ => h⟩
  have l2 : ((l.drop 5).take 2).length ≤ 1000000 := by rw [List.length_take]; omega
  have l4 : (l.take 4).length ≤ 1000000 := by rw [List.length_take]; omega
  have l8 : (l.drop 8).length ≤ 1000000 := by rw [List.length_drop]; omega
  have rows : ∀ mm, ∀ r ∈ orP0 false ++ (orP1 false false ++ orP2 (!decide (nats T = nats l))), RowOK (EP (orP0 false ++ (orP1 false false ++ orP2 (!decide (nats T = nats l)))) (krP (atoiB (l.take 4)) (atoiB ((l.drop 5).take 2)) (atoiB (l.drop 8)) ok)) 9 (withM (sgPa l n T c4 c7) mm) r := fun mm r hr => by
    rcases List.mem_append.1 hr with hr | hr
    · exact orP0_ok (by rfl) f10 r hr
    rcases List.mem_append.1 hr with hr | hr
    · exact orP1_ok (by rfl) h4 h7 (by rw [decide_eq_true hd4]; rfl) (by rw [decide_eq_true hd7]; rfl) r hr
    · exact orP2_ok (by rfl) h10 rfl r hr
  have krs : ∀ mm, ∀ r ∈ krP (atoiB (l.take 4)) (atoiB ((l.drop 5).take 2)) (atoiB (l.drop 8)) ok, KRow Tryz.prog gl (withM (sgPa l n T c4 c7) mm) r.f r.args r.img errV := fun mm r hr => by
    unfold krP at hr
    rcases List.mem_append.1 hr with hr | hr
    · simp only [List.mem_cons, List.mem_nil_iff, or_false] at hr
      rcases hr with rfl | rfl | rfl | rfl
      · exact kr_atoi (withM_kM _ _) (l := l.take 4) rfl rfl l4 ⟨rfl, rfl⟩ rfl ⟨rfl, rfl⟩
      · exact kr_atoi (withM_kM _ _) (l := (l.drop 5).take 2) rfl rfl l2 ⟨rfl, rfl⟩ rfl ⟨rfl, rfl⟩
      · exact kr_atoi (withM_kM _ _) (l := l.drop 8) rfl rfl l8 ⟨rfl, rfl⟩ rfl ⟨rfl, rfl⟩
      · exact KRow.ofC (withM_kM _ _) rfl rfl (va := #[.int .i64 (atoiN (l.take 4)), .int .i64 (atoiN ((l.drop 5).take 2)), .int .i64 (atoiN (l.drop 8))]) ⟨_, _, rfl, ⟨rfl, rfl⟩, _, _, rfl, ⟨rfl, rfl⟩, _, _, rfl, ⟨rfl, rfl⟩, rfl⟩ (.inr ⟨_, rfl, rfl⟩) (u := .tuple #[.int .i64 n, .bool ok]) ⟨_, rfl, _, _, rfl, ⟨rfl, rfl⟩, _, _, rfl, rfl, rfl⟩ hOf
    · cases ok with
      | false => cases hr
      | true =>
        have hr : r ∈ [(⟨fText, [.sym 7], ⟨.sym 8, []⟩⟩ : KR)] := hr
        simp only [List.mem_cons, List.mem_nil_iff, or_false] at hr
        subst hr
        exact KRow.ofC (withM_kM _ _) rfl rfl (va := #[.int .i64 n]) ⟨_, _, rfl, ⟨rfl, rfl⟩, rfl⟩ (.inl rfl) (u := strV T) ⟨rfl, rfl⟩ (hT rfl)
  have run := runPc (atoiB (l.take 4)) (atoiB ((l.drop 5).take 2)) (atoiB (l.drop 8)) ok (!decide (nats T = nats l))
  generalize (atoiB (l.take 4) && atoiB ((l.drop 5).take 2) && atoiB (l.drop 8) && ok && !(!decide (nats T = nats l))) = g at run
  cases g with
  | true =>
    exact ⟨n, true, CallsV.scriptM (E := Ee) envEe rfl (σ := sgPa l n T c4 c7) rows (fun _ r hr => by cases hr) krs run (fun _ => ⟨_, _, rfl, ⟨rfl, rfl⟩, rfl⟩) (fun _ => ⟨_, rfl, _, _, rfl, ⟨rfl, rfl⟩, _, _, rfl, rfl, rfl⟩) rfl errV_hold⟩
  | false =>
    exact ⟨0, false, CallsV.scriptM (E := Ee) envEe rfl (σ := sgPa l n T c4 c7) rows (fun _ r hr => by cases hr) krs run (fun _ => ⟨_, _, rfl, ⟨rfl, rfl⟩, rfl⟩) (fun _ => ⟨_, rfl, _, _, rfl, rfl, _, _, rfl, rfl, rfl⟩) rfl errV_hold⟩
end
end Go.Proofs.YtnnhijfbdkokkaaGreatDoor

/-! Fields between blanks; numerals: plain laws. -/
namespace Go.Proofs.YtnnhijfbdkokkaaGreatDoor
open Go Go.Eng Go.RowKit
noncomputable section
set_option maxRecDepth 100000

/-! ### Numerals -/
def digs (l : List UInt8) : Prop := ∀ b ∈ l, 48 ≤ b.toNat ∧ b.toNat ≤ 57
def nvF (a : Nat) (l : List UInt8) : Nat := l.foldl (fun a c => 10 * a + (c.toNat - 48)) a
def nv (l : List UInt8) : Nat := nvF 0 l
theorem nvF_cons (a : Nat) (c : UInt8) (l : List UInt8) : nvF a (c :: l) = nvF (10 * a + (c.toNat - 48)) l := by simp only [nvF, List.foldl_cons]
theorem nv_snoc (l : List UInt8) (c : UInt8) : nv (l ++ [c]) = 10 * nv l + (c.toNat - 48) := by simp only [nv, nvF, List.foldl_append, List.foldl_cons, List.foldl_nil]
theorem nvF_ge (l : List UInt8) : ∀ a : Nat, a ≤ nvF a l := by
  induction l with
  | nil => intro a; exact Nat.le_refl a
  | cons c l ih =>
    intro a
    have := ih (10 * a + (c.toNat - 48))
    rw [nvF_cons]; omega
theorem nvF_lt : ∀ (l : List UInt8) (a k : Nat), digs l → a < 10 ^ k → nvF a l < 10 ^ (k + l.length)
  | [], _, _, _, h => h
  | c :: l, a, k, hd, h => by
    rw [nvF_cons]
    have hc := hd c (by simp)
    have h10 : (10 : Nat) ^ (k + 1) = 10 ^ k * 10 := Nat.pow_succ 10 k
    have := nvF_lt l (10 * a + (c.toNat - 48)) (k + 1) (fun b hb => hd b (by simp [hb])) (by omega)
    rw [List.length_cons, show k + (l.length + 1) = k + 1 + l.length by omega]; exact this
theorem nv_lt {l : List UInt8} (hd : digs l) : nv l < 10 ^ l.length := by
  have := nvF_lt l 0 0 hd (by decide)
  rwa [Nat.zero_add] at this
theorem u8_at {d : Nat} (h : d < 10) : (UInt8.ofNat (48 + d)).toNat = 48 + d := by
  rw [UInt8.toNat_ofNat']; omega
theorem u8_eq {c : UInt8} {d : Nat} (h : c.toNat = 48 + d) : c = UInt8.ofNat (48 + d) := by
  apply UInt8.toNat_inj.1
  rw [UInt8.toNat_ofNat', h]
  have := c.toNat_lt
  omega
theorem dec_small {u : Nat} (h : u < 10) : Lib.decDigits u = [UInt8.ofNat (48 + u)] := by rw [Lib.decDigits, dif_pos h]
theorem dec_big {u : Nat} (h : ¬ u < 10) : Lib.decDigits u = Lib.decDigits (u / 10) ++ [UInt8.ofNat (48 + u % 10)] := by rw [Lib.decDigits, dif_neg h]
theorem nv_dec (u : Nat) : nv (Lib.decDigits u) = u := by
  induction u using Nat.strongRecOn with
  | _ u ih =>
    by_cases h : u < 10
    · rw [dec_small h]
      show 10 * 0 + ((UInt8.ofNat (48 + u)).toNat - 48) = u
      rw [u8_at h]; omega
    · rw [dec_big h, nv_snoc, ih (u / 10) (by omega), u8_at (by omega)]; omega
theorem dec_head (u : Nat) : 1 ≤ u → ∃ c r, Lib.decDigits u = c :: r ∧ c.toNat ≠ 48 := by
  induction u using Nat.strongRecOn with
  | _ u ih =>
    intro h1
    by_cases h : u < 10
    · exact ⟨_, [], dec_small h, by rw [u8_at h]; omega⟩
    · obtain ⟨c, r, e, hc⟩ := ih (u / 10) (by omega) (by omega)
      exact ⟨c, r ++ [UInt8.ofNat (48 + u % 10)], by rw [dec_big h, e]; rfl, hc⟩
theorem dec_of (n : Nat) : ∀ (l : List UInt8), l.length = n → digs l → l ≠ [] → (1 < l.length → ∃ c r, l = c :: r ∧ c.toNat ≠ 48) → l = Lib.decDigits (nv l) := by
  induction n with
  | zero => intro l hn _ hne; exact absurd (List.eq_nil_of_length_eq_zero hn) hne
  | succ n ih =>
    intro l hn hd hne hh
    have hl := List.dropLast_concat_getLast hne
    generalize hr : l.dropLast = r at hl
    generalize l.getLast hne = c at hl
    have hc := hd c (by rw [← hl]; simp)
    have hdr : digs r := fun b hb => hd b (by rw [← hl]; simp [hb])
    have hrl : r.length = n := by rw [← hr, List.length_dropLast]; omega
    rw [← hl, nv_snoc]
    cases r with
    | nil =>
      rw [show nv [] = 0 from rfl, dec_small (by omega)]
      rw [List.nil_append]
      congr 1
      exact u8_eq (by omega)
    | cons b r' =>
      have hb : b.toNat ≠ 48 := by
        obtain ⟨x, y, e, hx⟩ := hh (by rw [hn]; simp at hrl; omega)
        have : b = x := by
          rw [← hl] at e
          exact (List.cons.inj e).1
        rwa [this]
      have e := ih (b :: r') hrl hdr (by simp) (fun _ => ⟨b, r', rfl, hb⟩)
      have hpos : nv (b :: r') ≠ 0 := fun h0 => by
        rw [h0, show Lib.decDigits 0 = [UInt8.ofNat 48] from dec_small (by omega)] at e
        have := (List.cons.inj e).1
        exact hb (by rw [this]; rfl)
      rw [dec_big (u := 10 * nv (b :: r') + (c.toNat - 48)) (by omega), show (10 * nv (b :: r') + (c.toNat - 48)) / 10 = nv (b :: r') by omega, ← e]
      congr 2
      exact u8_eq (by omega)
theorem parse_digs : ∀ (l : List UInt8) (a : Nat), digs l → nvF a l < 9223372036854775808 → Lib.parseUint10 a l = .ok (nvF a l)
  | [], _, _, _ => rfl
  | c :: l, a, hd, h => by
    have hc := hd c (by simp)
    rw [nvF_cons] at h ⊢
    have := nvF_ge l (10 * a + (c.toNat - 48))
    unfold Lib.parseUint10
    rw [if_pos hc, if_neg (by omega), if_neg (by omega), show a * 10 + (c.toNat - 48) = 10 * a + (c.toNat - 48) by omega]
    exact parse_digs l _ (fun b hb => hd b (by simp [hb])) h
theorem atoi_dec {v : Nat} (h : v < 9223372036854775808) : Lib.atoiAll (Lib.decDigits v) = .ok (v : Int) := by
  have hd : digs (Lib.decDigits v) := digits_all v
  have hp := parse_digs (Lib.decDigits v) 0 hd (by show nv _ < _; rw [nv_dec]; exact h)
  rw [show nvF 0 (Lib.decDigits v) = v from nv_dec v] at hp
  cases e : Lib.decDigits v with
  | nil => exact absurd e (digits_ne v)
  | cons c r =>
    have hc := hd c (by rw [e]; simp)
    have hm : Lib.parseMag (c :: r) = .ok v := by
      unfold Lib.parseMag
      rw [if_neg (by simp), ← e]; exact hp
    unfold Lib.atoiAll
    simp only
    rw [if_neg (by omega), hm]
    simp only
    rw [if_neg (by omega), if_neg (by omega), if_neg (by omega)]
/-- A numeral that an int holds. -/
def numOK (l : List UInt8) : Prop := ∃ v : Nat, v < 9223372036854775808 ∧ l = Lib.decDigits v
theorem numOK.val {l : List UInt8} (h : numOK l) : atoiN l = nv l ∧ atoiB l = true ∧ nv l < 9223372036854775808 ∧ digs l ∧ l ≠ [] ∧ l.length ≤ 19 ∧ Lib.itoa (atoiN l) = l ∧ (1 < l.length → ∃ c r, l = c :: r ∧ c.toNat ≠ 48) := by
  obtain ⟨v, hv, rfl⟩ := h
  have e := atoi_dec hv
  have en : atoiN (Lib.decDigits v) = (v : Int) := by unfold atoiN; rw [e]
  refine ⟨by rw [en, nv_dec], by unfold atoiB; rw [e], by rw [nv_dec]; exact hv, digits_all v, digits_ne v, ?_, by rw [en, Lib.itoa_nonneg], fun hl => ?_⟩
  · rw [Lib.decDigits_length]; exact nDigits_le 18 v (by omega)
  · by_cases h0 : 1 ≤ v
    · exact dec_head v h0
    · obtain rfl : v = 0 := by omega
      rw [dec_small (by omega)] at hl
      simp at hl
/-- As wire sees it. -/
theorem num_wire (l : List UInt8) : (atoiB l = true ∧ Lib.itoa (atoiN l) = l ∧ 0 ≤ atoiN l) ↔ numOK l := by
  constructor
  · rintro ⟨_, h2, h3⟩
    have := (atoiN_bounds l).2
    refine ⟨(atoiN l).toNat, by omega, ?_⟩
    rw [← Lib.itoa_nonneg, show (((atoiN l).toNat : Nat) : Int) = atoiN l by omega, h2]
  · intro h
    obtain ⟨h1, h2, _, _, _, _, h7, _⟩ := h.val
    exact ⟨h2, h7, by omega⟩
/-- As the law sees it. -/
theorem num_law {l : List UInt8} (hd : digs l) : (l ≠ [] ∧ nv l < 9223372036854775808 ∧ (1 < l.length → ∃ c r, l = c :: r ∧ c.toNat ≠ 48)) ↔ numOK l := by
  constructor
  · rintro ⟨h1, h2, h3⟩
    exact ⟨nv l, h2, dec_of _ l rfl hd h1 h3⟩
  · intro h
    obtain ⟨_, _, h3, _, h5, _, _, h8⟩ := h.val
    exact ⟨h5, h3, h8⟩

/-! ### Fields -/
def bare (l : List (List UInt8)) : Prop := ∀ f ∈ l, 32 ∉ f
theorem fields_of : ∀ s : List UInt8, ∃ (fs : List (List UInt8)) (t : List UInt8), bare fs ∧ 32 ∉ t ∧ tailS fs t = s
  | [] => ⟨[], [], fun f hf => (by cases hf), by simp, rfl⟩
  | c :: s => by
    obtain ⟨fs, t, h1, h2, h3⟩ := fields_of s
    by_cases hc : c = 32
    · refine ⟨[] :: fs, t, fun f hf => ?_, h2, ?_⟩
      · rcases List.mem_cons.1 hf with rfl | hf
        · simp
        · exact h1 f hf
      · show [] ++ 32 :: tailS fs t = _
        rw [h3, hc]; rfl
    · cases fs with
      | nil =>
        refine ⟨[], c :: t, fun f hf => (by cases hf), fun hm => ?_, ?_⟩
        · rcases List.mem_cons.1 hm with e | hm
          · exact hc e.symm
          · exact h2 hm
        · show c :: t = _
          rw [show t = s from h3]
      | cons g r =>
        refine ⟨(c :: g) :: r, t, fun f hf => ?_, h2, ?_⟩
        · rcases List.mem_cons.1 hf with rfl | hf
          · intro hm
            rcases List.mem_cons.1 hm with e | hm
            · exact hc e.symm
            · exact h1 g (by simp) hm
          · exact h1 f (by simp [hf])
        · show (c :: g) ++ 32 :: tailS r t = _
          rw [← h3]; rfl
theorem index_at {a b : List UInt8} (h : 32 ∉ a) : Lib.index (a ++ 32 :: b) [32] = (a.length : Nat) := by
  rw [Lib.index_one, indexByte_at a b h]
theorem indexByte_none : ∀ {a : List UInt8}, 32 ∉ a → Lib.indexByte a 32 = -1
  | [], _ => rfl
  | c :: a, h => by
    have hc : c ≠ 32 := fun e => h (by rw [e]; simp)
    unfold Lib.indexByte
    rw [indexByte_none (a := a) fun hm => h (by simp [hm])]
    have : (c == 32) = false := by rw [beq_eq_false_iff_ne]; exact hc
    rw [this]; rfl
theorem index_no {a : List UInt8} (h : 32 ∉ a) : Lib.index a [32] = -1 := by
  rw [Lib.index_one, indexByte_none h]
theorem count_tail : ∀ (fs : List (List UInt8)) (t : List UInt8), bare fs → 32 ∉ t → Lib.count (tailS fs t) [32] = fs.length
  | [], t, _, h => Lib.count_miss (index_no h)
  | f :: fs, t, hb, h => by
    have e : Lib.index (tailS (f :: fs) t) [32] = (f.length : Nat) := index_at (hb f (by simp))
    rw [Lib.count_hit (by simp) e]
    show 1 + Lib.count ((f ++ 32 :: tailS fs t).drop (f.length + 1)) [32] = _
    rw [← List.drop_drop, List.drop_left]
    show 1 + Lib.count (tailS fs t) [32] = _
    rw [count_tail fs t (fun g hg => hb g (by simp [hg])) h, List.length_cons, Nat.add_comm]
theorem split_tail : ∀ (fs : List (List UInt8)) (t : List UInt8), bare fs → 32 ∉ t → Lib.splitK [32] 0 fs.length (tailS fs t) = fs ++ [t]
  | [], _, _, _ => rfl
  | f :: fs, t, hb, h => by
    have e : Lib.index (tailS (f :: fs) t) [32] = (f.length : Nat) := index_at (hb f (by simp))
    have hm : ¬ (Lib.index (tailS (f :: fs) t) [32] == -1) = true := fun h => by have := beq_iff_eq.1 h; omega
    rw [List.length_cons, Lib.splitK, if_neg hm, e]
    show (f ++ 32 :: tailS fs t).take (f.length + 0) :: Lib.splitK [32] 0 fs.length ((f ++ 32 :: tailS fs t).drop (f.length + 1)) = _
    rw [← List.drop_drop, List.drop_left, Nat.add_zero, List.take_left]
    show f :: Lib.splitK [32] 0 fs.length (tailS fs t) = _
    rw [split_tail fs t (fun g hg => hb g (by simp [hg])) h]; rfl
theorem strV_list (b : ByteArray) : Value.string b = strV b.data.toList := rfl
theorem splitB_tail (fs : List (List UInt8)) (t : List UInt8) (hb : bare fs) (h : 32 ∉ t) :
    (Lib.splitB ⟨#[32]⟩ 0 (Lib.countB ⟨(tailS fs t).toArray⟩ ⟨#[32]⟩) ⟨(tailS fs t).toArray⟩).map Value.string = (fs ++ [t]).map strV := by
  have e : Lib.countB ⟨(tailS fs t).toArray⟩ ⟨#[32]⟩ = fs.length := count_tail fs t hb h
  rw [e]
  have := Lib.splitB_data ⟨#[32]⟩ 0 fs.length ⟨(tailS fs t).toArray⟩
  rw [show Lib.splitK ((⟨#[32]⟩ : ByteArray).data.toList) 0 fs.length ((⟨(tailS fs t).toArray⟩ : ByteArray).data.toList) = fs ++ [t] from split_tail fs t hb h] at this
  rw [← this, List.map_map]
  rfl
end
end Go.Proofs.YtnnhijfbdkokkaaGreatDoor

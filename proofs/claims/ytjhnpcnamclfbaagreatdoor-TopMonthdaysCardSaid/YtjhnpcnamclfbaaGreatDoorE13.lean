/- The engine: an abstract machine that runs closed code of any program, and its proof: part 13 of 14. No condition. -/
import Derived.Test.YtjhnpcnamclfbaaGreatDoorE12
/-! Cuts: a frame at a place of its code, its temporaries and its own blocks up to symbols. No condition. -/
namespace Go.Eng
open Go.RowKit
noncomputable section

/-! ### Runs that stop -/
def runS (E : Env) (stop : AM → Bool) (n : Nat) : AM → Option AM :=
  Nat.rec (motive := fun _ => AM → Option AM) (fun _ => none)
    (fun _ ih m => Bool.rec (motive := fun _ => Option AM) (Option.rec (motive := fun _ => Option AM) none (fun m' => ih m') (astep E m)) (some m) (stop m)) n

/-- At a loop of the lowest frame, so many things to do behind it. -/
def atLoop (L : Nat) (m : AM) : Bool :=
  match m.callers with
  | [] => match m.fr.inf.mode with
    | .run => match m.fr.todo with
      | .inLoop _ :: k => Nat.beq (len k) L
      | .code c :: k => match c with
        | .loop _ => Nat.beq (len k) L
        | _ => false
      | _ => false
    | _ => false
  | _ => false
/-- A function has just been entered. -/
def atCall (f : FuncId) (m : AM) : Bool :=
  match m.callers with
  | [_] => Nat.beq m.fr.inf.fn f
  | _ => false
/-- To a loop's head, past so many others. -/
def toLoop (E : Env) (L n : Nat) : Nat → AM → Option AM
  | 0, m => match runS E (atLoop L) n m with
    | some m' => astep E m'
    | none => none
  | k + 1, m => match runS E (atLoop L) n m with
    | some m' => match astep E m' with
      | some m2 => toLoop E L n k m2
      | none => none
    | none => none

/-! ### One state more general than another -/
def lookS (i : Nat) : List (Nat × AV) → Option AV
  | [] => none
  | (j, a) :: l => match Nat.beq i j with | true => some a | false => lookS i l

/-- The pattern's name i is the name j. -/
def nm (μ : List Nat) (i j : Nat) : Bool :=
  match Nat.blt i gN with
  | true => Nat.beq i j
  | false => match nth μ (Nat.sub i gN) with
    | some x => Nat.beq x j
    | none => false

def notAgg : AV → Bool
  | .agg _ => false
  | _ => true

mutual
def geV (θ : List (Nat × AV)) (μ : List Nat) : AV → AV → Bool
  | .any, a => notAgg a
  | .unk, a => a.oneCell
  | .sym i, a => match lookS i θ with
    | some x => avEq x a
    | none => false
  | .ptr i o, a => match a with
    | .ptr j q => nm μ i j && Nat.beq o q
    | _ => false
  | .slice i o n c z, a => match a with
    | .slice j o' n' c' z' => nm μ i j && Nat.beq o o' && Nat.beq n n' && Nat.ble c c' && Nat.beq z z'
    | _ => false
  | .map i, a => match a with
    | .map j => nm μ i j
    | _ => false
  | .yield i, a => match a with
    | .yield j => nm μ i j
    | _ => false
  | .func f x y, a => match a with
    | .func g x' y' => Nat.beq f g && geVs θ μ x x' && geVs θ μ y y'
    | _ => false
  | .iface t x, a => match a with
    | .iface u y => Nat.beq t u && geV θ μ x y
    | _ => false
  | .agg l, a => match a with
    | .agg m => geVs θ μ l m
    | _ => false
  | .tuple l, a => match a with
    | .tuple m => geVs θ μ l m
    | _ => false
  | .bool b, a => avEq (.bool b) a
  | .int k n, a => avEq (.int k n) a
  | .str s, a => avEq (.str s) a
  | .nilptr, a => avEq .nilptr a
  | .nilslice, a => avEq .nilslice a
  | .nilmap, a => avEq .nilmap a
  | .nilFunc, a => avEq .nilFunc a
  | .nilIface, a => avEq .nilIface a
def geVs (θ : List (Nat × AV)) (μ : List Nat) : List AV → List AV → Bool
  | [], [] => true
  | p :: l, a :: m => geV θ μ p a && geVs θ μ l m
  | _, _ => false
end
def geM (θ : List (Nat × AV)) (μ : List Nat) : List (AV × AV × Nat) → List (AV × AV × Nat) → Bool
  | [], [] => true
  | (k, v, b) :: l, (k', v', b') :: m => geV θ μ k k' && geV θ μ v v' && Nat.beq b b' && geM θ μ l m
  | _, _ => false
def geB (θ : List (Nat × AV)) (μ : List Nat) : Blk → Blk → Bool
  | .cells ps el wr, .cells as el' wr' => geVs θ μ ps as && Nat.beq el el' && (!wr || wr')
  | .map es k, .map es' k' => geM θ μ es es' && Nat.beq k k'
  | .siter s p, .siter s' p' => eqNats s s' && Nat.beq p p'
  | _, _ => false
/-- The pattern's blocks, one by one, and their names. -/
def geH (θ : List (Nat × AV)) (μ : List Nat) (s : St) : List Blk → List Nat → Bool
  | [], [] => true
  | b :: bs, j :: l => (match s.get j with
    | some a => geB θ μ b a
    | none => false) && Nat.ble gN j && !memN j l && geH θ μ s bs l
  | _, _ => false
def geT (θ : List (Nat × AV)) (μ ex : List Nat) (pt tm : T AV) (n : Nat) : Bool :=
  Nat.rec (motive := fun _ => Bool) true (fun t ih => (memN t ex || geV θ μ (tget pt t) (tget tm t)) && ih) n

def anyT (n : Nat) : T AV := Nat.rec (motive := fun _ => T AV) .leaf (fun t ih => ih.put t .any) n
def keepT : List (Nat × AV) → T AV → T AV
  | [], t => t
  | (i, a) :: l, t => keepT l (t.put i a)
/-- The temporaries of a pattern: these, and any others. -/
def patT (n : Nat) (keep : List (Nat × AV)) : T AV := keepT keep (anyT n)
def smallK (n : Nat) : List (Nat × AV) → Bool
  | [] => true
  | (i, _) :: l => Nat.blt i n && smallK n l

def plainIt : AItem → Bool
  | .code _ | .inBlock _ | .inLoop _ | .reg _ _ | .beginRound => true
  | _ => false
def plainTd : List AItem → Bool
  | [] => true
  | a :: l => plainIt a && plainTd l

def putBs : List Blk → Nat → T Blk → T Blk
  | [], _, t => t
  | b :: l, i, t => putBs l (i + 1) (t.put i b)
/-- The variables, and blocks that are only read. -/
def putX : List (Nat × Blk) → T Blk → T Blk
  | [], t => t
  | (i, b) :: l, t => putX l (t.put i b)
def stX (gl : List Gv) (xs : List (Nat × Blk)) : St := match stOf gl with | ⟨n, h⟩ => ⟨n, putX xs h⟩
/-- The same, and blocks of one's own. -/
def stI (gl : List Gv) (xs : List (Nat × Blk)) (bs : List Blk) : St := match stX gl xs with | ⟨_, h⟩ => ⟨gN + len bs, putBs bs gN h⟩
def hasX : List (Nat × Blk) → St → Bool
  | [], _ => true
  | (i, b) :: l, s => (match s.get i with
    | some x => blkEq b x
    | none => false) && hasX l s

/-- A cell that comes to no block but those, and bears no symbol but the length bound's. -/
def bareC : AV → Bool
  | .ptr i _ => Nat.blt i gN
  | .slice i _ _ _ _ => Nat.blt i gN
  | .map i => Nat.blt i gN
  | .sym i => Nat.beq i kM
  | a => plainA a
def bareV : AV → Bool
  | .agg l => l.all bareC
  | a => bareC a
def bareE : List (AV × AV × Nat) → Bool
  | [] => true
  | (k, v, _) :: l => bareV k && bareV v && bareE l
def bareB : Blk → Bool
  | .cells cs _ wr => !wr && cs.all bareC
  | .map es _ => bareE es
  | _ => false
/-- Are they in place for a state's beginning? -/
def okX (gl : List Gv) : List (Nat × Blk) → Bool
  | [] => true
  | (i, b) :: l => Nat.ble vN i && Nat.blt i gN && bareB b && gl.all (fun x => !(Nat.beq x.g i)) && !memN i (l.map (·.1)) && okX gl l

def patM (gl : List Gv) (xs : List (Nat × Blk)) (fn : FuncId) (nt : Nat) (todo : List AItem) (keep : List (Nat × AV)) (bs : List Blk) : AM :=
  ⟨⟨patT nt keep, todo, ⟨fn, nt, [], .run, .normal, none⟩⟩, [], stI gl xs bs⟩

def isNil {α : Type} : List α → Bool | [] => true | _ => false
def isRunM : AMode → Bool | .run => true | _ => false
def isNormal : CallKind → Bool | .normal => true | _ => false
def isNone {α : Type} : Option α → Bool | none => true | _ => false

def genOK (gl : List Gv) (xs : List (Nat × Blk)) (fn : FuncId) (nt : Nat) (keep : List (Nat × AV)) (bs : List Blk) (θ : List (Nat × AV)) (μ ex : List Nat) (m : AM) : Bool :=
  match m with
  | ⟨⟨tm, todo, ⟨fn', nt', defers, mode, kd, ro⟩⟩, callers, s⟩ =>
    isNil callers && isNil defers && isRunM mode && isNormal kd && isNone ro && Nat.beq fn fn' && Nat.beq nt nt' && plainTd todo && (hasG gl s && hasX xs s) && geH θ μ s bs μ && geT θ μ ex (patT nt keep) tm nt && smallK nt keep && Nat.ble (gN + len bs) T.most

/-- What a value of one cell stands for. -/
def denS (σ : Nat → Value) : AV → Option Value
  | .bool b => some (.bool b)
  | .int k n => some (.int k n)
  | .str l => some (.string ⟨(l.map UInt8.ofNat).toArray⟩)
  | .sym i => some (σ i)
  | .nilptr => some (.pointer none)
  | .nilslice => some (.slice none 0 0)
  | .nilmap => some (.map none)
  | .nilFunc => some .nilFunc
  | .nilIface => some .nilIface
  | _ => none
def TheOK (σ σ' : Nat → Value) : List (Nat × AV) → Prop
  | [] => True
  | (i, a) :: l => denS σ a = some (σ' i) ∧ TheOK σ σ' l

/-! ### Their laws -/
section
variable {ρ ρ' : Rho} {σ σ' : Nat → Value} {θ : List (Nat × AV)} {μ : List Nat}

theorem ofNat_back (s : ByteArray) : (⟨((bytesNat s).map UInt8.ofNat).toArray⟩ : ByteArray) = s := by
  apply ByteArray.ext
  apply Array.ext'
  unfold bytesNat
  rw [List.map_map]
  have : (UInt8.ofNat ∘ UInt8.toNat) = id := by funext x; simp
  rw [this, List.map_id]

theorem denS_ok {a : AV} {u v : Value} (h : denS σ a = some u) (hv : VR ρ σ a v) : v = u ∧ v.oneCell' = true := by
  cases a <;> first
    | (cases h; done)
    | (cases h; have hv : v = _ := hv; exact ⟨hv, by rw [hv]; rfl⟩)
    | (cases h; exact ⟨hv.1, hv.2⟩)
    | (cases h; obtain ⟨s, rfl, rfl⟩ := hv; exact ⟨by rw [ofNat_back], rfl⟩)

theorem lookS_the : ∀ {θ : List (Nat × AV)} {i : Nat} {x : AV}, TheOK σ σ' θ → lookS i θ = some x → denS σ x = some (σ' i)
  | [], _, _, _, h => by cases h
  | (j, a) :: l, i, x, ⟨h1, h2⟩, h => by
    unfold lookS at h
    split at h
    · rename_i e
      cases h
      rw [Nat.eq_of_beq_eq_true e]; exact h1
    · exact lookS_the h2 h

/-- The pattern's names. -/
def rhoP (μ : List Nat) (ρ : Rho) : Rho := fun i => if i < gN then ρ i else (μ[i - gN]?).bind ρ

theorem nm_ok {i j : Nat} (h : nm μ i j = true) : rhoP μ ρ i = ρ j := by
  unfold nm at h
  unfold rhoP
  split at h
  · rename_i hb
    have hi : i < gN := Nat.le_of_ble_eq_true hb
    rw [if_pos hi, Nat.eq_of_beq_eq_true h]
  · rename_i hb
    have hi : ¬ i < gN := fun hi => by
      have : Nat.blt i gN = true := Nat.ble_eq_true_of_le hi
      rw [this] at hb; cases hb
    rw [if_neg hi]
    rw [nth_eq] at h
    split at h
    · rename_i x hx
      rw [show μ[i - gN]? = some x from hx, Nat.eq_of_beq_eq_true h]; rfl
    · cases h

theorem notAgg_ok {a : AV} {v : Value} (h : notAgg a = true) (hv : VR ρ σ a v) : v.cells = #[v] := by
  cases a
  case agg l => cases h
  case tuple l => obtain ⟨vs, rfl, _⟩ := hv; rfl
  case any => exact hv
  all_goals
    have ho := hv.one rfl
    cases v <;> first | rfl | (simp [Value.oneCell'] at ho; done)

mutual
theorem geV_ok (hθ : TheOK σ σ' θ) : ∀ (p a : AV) (v : Value), geV θ μ p a = true → VR ρ σ a v → VR (rhoP μ ρ) σ' p v
  | .any, a, v, h, hv => notAgg_ok (a := a) h hv
  | .unk, a, v, h, hv => hv.one h
  | .sym i, a, v, h, hv => by
    unfold geV at h
    split at h
    · rename_i x hx
      have e := avEq_eq _ _ h
      subst e
      obtain ⟨h1, h2⟩ := denS_ok (lookS_the hθ hx) hv
      exact ⟨h1, h2⟩
    · cases h
  | .ptr i o, a, v, h, hv => by
    unfold geV at h
    split at h
    · simp only [Bool.and_eq_true] at h
      obtain ⟨L, hL, e⟩ := hv
      exact ⟨L, by rw [nm_ok h.1]; exact hL, by rw [Nat.eq_of_beq_eq_true h.2]; exact e⟩
    · cases h
  | .slice i o n c z, a, v, h, hv => by
    unfold geV at h
    split at h
    · simp only [Bool.and_eq_true] at h
      obtain ⟨⟨⟨⟨h1, h2⟩, h3⟩, h4⟩, h5⟩ := h
      obtain ⟨L, ad, c', hL, e, q1, q2, q3⟩ := hv
      have h4 := Nat.le_of_ble_eq_true h4
      rw [Nat.eq_of_beq_eq_true h2, Nat.eq_of_beq_eq_true h3, Nat.eq_of_beq_eq_true h5]
      exact ⟨L, ad, c', by rw [nm_ok h1]; exact hL, e, q1, by omega, q3⟩
    · cases h
  | .map i, a, v, h, hv => by
    unfold geV at h
    split at h
    · obtain ⟨L, hL, e⟩ := hv
      exact ⟨L, by rw [nm_ok h]; exact hL, e⟩
    · cases h
  | .yield i, a, v, h, hv => by
    unfold geV at h
    split at h
    · obtain ⟨L, hL, e⟩ := hv
      exact ⟨L, by rw [nm_ok h]; exact hL, e⟩
    · cases h
  | .func f x y, a, v, h, hv => by
    unfold geV at h
    split at h
    · simp only [Bool.and_eq_true] at h
      obtain ⟨⟨h1, h2⟩, h3⟩ := h
      obtain ⟨va, vb, e, q1, q2⟩ := hv
      rw [Nat.eq_of_beq_eq_true h1]
      exact ⟨va, vb, e, geVs_ok hθ _ _ _ h2 q1, geVs_ok hθ _ _ _ h3 q2⟩
    · cases h
  | .iface t x, a, v, h, hv => by
    unfold geV at h
    split at h
    · simp only [Bool.and_eq_true] at h
      obtain ⟨u, e, q⟩ := hv
      rw [Nat.eq_of_beq_eq_true h.1]
      exact ⟨u, e, geV_ok hθ _ _ _ h.2 q⟩
    · cases h
  | .agg l, a, v, h, hv => by
    unfold geV at h
    split at h
    · obtain ⟨vs, e, q⟩ := hv
      exact ⟨vs, e, geVs_ok hθ _ _ _ h q⟩
    · cases h
  | .tuple l, a, v, h, hv => by
    unfold geV at h
    split at h
    · obtain ⟨vs, e, q⟩ := hv
      exact ⟨vs, e, geVs_ok hθ _ _ _ h q⟩
    · cases h
  | .bool b, a, v, h, hv => by
    unfold geV at h
    have e := avEq_eq _ _ h
    subst e; exact hv
  | .int k n, a, v, h, hv => by
    unfold geV at h
    have e := avEq_eq _ _ h
    subst e; exact hv
  | .str s, a, v, h, hv => by
    unfold geV at h
    have e := avEq_eq _ _ h
    subst e; exact hv
  | .nilptr, a, v, h, hv => by
    unfold geV at h
    have e := avEq_eq _ _ h
    subst e; exact hv
  | .nilslice, a, v, h, hv => by
    unfold geV at h
    have e := avEq_eq _ _ h
    subst e; exact hv
  | .nilmap, a, v, h, hv => by
    unfold geV at h
    have e := avEq_eq _ _ h
    subst e; exact hv
  | .nilFunc, a, v, h, hv => by
    unfold geV at h
    have e := avEq_eq _ _ h
    subst e; exact hv
  | .nilIface, a, v, h, hv => by
    unfold geV at h
    have e := avEq_eq _ _ h
    subst e; exact hv
theorem geVs_ok (hθ : TheOK σ σ' θ) : ∀ (l m : List AV) (vs : List Value), geVs θ μ l m = true → VRs ρ σ m vs → VRs (rhoP μ ρ) σ' l vs
  | [], [], _, _, hv => hv
  | p :: l, a :: m, _, h, ⟨v, r, e, hv, hl⟩ => by
    unfold geVs at h
    rw [Bool.and_eq_true] at h
    exact ⟨v, r, e, geV_ok hθ p a v h.1 hv, geVs_ok hθ l m r h.2 hl⟩
  | [], _ :: _, _, h, _ => by unfold geVs at h; cases h
  | _ :: _, [], _, h, _ => by unfold geVs at h; cases h
end
theorem geVs_len : ∀ {l m : List AV}, geVs θ μ l m = true → l.length = m.length
  | [], [], _ => rfl
  | p :: l, a :: m, h => by
    unfold geVs at h
    rw [Bool.and_eq_true] at h
    simp [geVs_len h.2]
  | [], _ :: _, h => by unfold geVs at h; cases h
  | _ :: _, [], h => by unfold geVs at h; cases h
theorem geM_ok (hθ : TheOK σ σ' θ) : ∀ (l m : List (AV × AV × Nat)) (es : List MapEntry), geM θ μ l m = true → MR ρ σ m es → MR (rhoP μ ρ) σ' l es
  | [], [], _, _, hv => hv
  | (k, v, b) :: l, (k', v', b') :: m, _, h, ⟨e, r, he, h1, h2, h3, hl⟩ => by
    unfold geM at h
    simp only [Bool.and_eq_true] at h
    obtain ⟨⟨⟨g1, g2⟩, g3⟩, g4⟩ := h
    exact ⟨e, r, he, geV_ok hθ _ _ _ g1 h1, geV_ok hθ _ _ _ g2 h2, h3.trans (Nat.eq_of_beq_eq_true g3).symm, geM_ok hθ l m r g4 hl⟩
  | [], _ :: _, _, h, _ => by unfold geM at h; cases h
  | _ :: _, [], _, h, _ => by unfold geM at h; cases h
theorem geB_ok (hθ : TheOK σ σ' θ) {p a : Blk} (h : geB θ μ p a = true) {L : Loc} {ob : Obj} (hb : BO ρ σ L a ob) : BO (rhoP μ ρ) σ' L p ob := by
  cases p <;> cases a <;> first | (cases h; done) | skip
  · unfold geB at h
    simp only [Bool.and_eq_true] at h
    obtain ⟨⟨h1, h2⟩, h3⟩ := h
    have hl := geVs_len h1
    have h2 := Nat.eq_of_beq_eq_true h2
    obtain ⟨c, t, fr, e, ht, z, hv, r1, r2, r3⟩ := hb
    refine ⟨c, t, fr, e, by rw [h2]; exact ht, by rw [h2]; exact z, ?_, by rw [hl]; exact r1, r2, fun hw => r3 (by rw [hw] at h3; simpa using h3)⟩
    rw [hl]; exact geVs_ok hθ _ _ _ h1 hv
  · unfold geB at h
    simp only [Bool.and_eq_true] at h
    obtain ⟨z, m, e, hm⟩ := hb
    exact ⟨z, m, by rw [Nat.eq_of_beq_eq_true h.2]; exact e, geM_ok hθ _ _ _ h.1 hm⟩
  · unfold geB at h
    simp only [Bool.and_eq_true] at h
    obtain ⟨z, b, e, hm⟩ := hb
    exact ⟨z, b, by rw [Nat.eq_of_beq_eq_true h.2]; exact e, by rw [eqNats_id h.1]; exact hm⟩

theorem geH_spec {s : St} : ∀ {bs : List Blk} {l : List Nat}, geH θ μ s bs l = true → l.length = bs.length ∧ (∀ (j i : Nat) (b : Blk), l[j]? = some i → bs[j]? = some b → gN ≤ i ∧ ∃ a, s.get i = some a ∧ geB θ μ b a = true) ∧ l.Nodup
  | [], [], _ => ⟨rfl, fun j i b h => by simp at h, .nil⟩
  | b :: bs, i :: l, h => by
    unfold geH at h
    simp only [Bool.and_eq_true, Bool.not_eq_true'] at h
    obtain ⟨⟨⟨h1, h2⟩, h3⟩, h4⟩ := h
    obtain ⟨e1, e2, e3⟩ := geH_spec h4
    refine ⟨by simp [e1], fun j i' b' hi hb => ?_, ?_⟩
    · cases j with
      | zero =>
        simp only [List.getElem?_cons_zero, Option.some.injEq] at hi hb
        subst hi; subst hb
        refine ⟨Nat.le_of_ble_eq_true h2, ?_⟩
        split at h1
        · rename_i x hx; exact ⟨x, hx, h1⟩
        · cases h1
      | succ j => simp only [List.getElem?_cons_succ] at hi hb; exact e2 j i' b' hi hb
    · refine List.nodup_cons.2 ⟨fun hm => ?_, e3⟩
      rw [memN_iff.2 hm] at h3; cases h3
  | [], _ :: _, h => by unfold geH at h; cases h
  | _ :: _, [], h => by unfold geH at h; cases h

theorem putBs_get : ∀ (bs : List Blk) (i : Nat) (t : T Blk) (j : Nat), (putBs bs i t).get j = if i ≤ j ∧ j < i + bs.length then bs[j - i]? else t.get j
  | [], i, t, j => by unfold putBs; rw [if_neg (by simp)]
  | b :: l, i, t, j => by
    unfold putBs
    rw [putBs_get l (i + 1) _ j, show (t.put i b).get j = if i = j then some b else t.get j from T.get_set _ _ _ _, List.length_cons]
    by_cases e : i = j
    · subst e
      rw [if_neg (by omega), if_pos rfl, if_pos (by omega)]; simp
    · by_cases c : i + 1 ≤ j ∧ j < i + 1 + l.length
      · rw [if_pos c, if_pos (by omega), show j - i = (j - (i + 1)) + 1 by omega]; rfl
      · rw [if_neg c, if_neg e, if_neg (by omega)]
variable {xs : List (Nat × Blk)}
theorem stI_next (gl : List Gv) (bs : List Blk) : (stI gl xs bs).next = gN + bs.length := by
  unfold stI
  cases stX gl xs
  show gN + len bs = _
  rw [len_eq]
theorem stI_get (gl : List Gv) (bs : List Blk) (j : Nat) : (stI gl xs bs).get j = if gN ≤ j ∧ j < gN + bs.length then bs[j - gN]? else (stX gl xs).get j := by
  unfold stI
  cases stX gl xs
  exact putBs_get bs gN _ j
theorem stX_next (gl : List Gv) : (stX gl xs).next = gN := by
  have h := stOf_next gl
  unfold stX
  cases hs : stOf gl
  rw [hs] at h
  exact h
theorem putX_get : ∀ (xs : List (Nat × Blk)) (t : T Blk) (j : Nat) (b : Blk), (putX xs t).get j = some b → (j, b) ∈ xs ∨ t.get j = some b
  | [], _, _, _, h => .inr h
  | (i, a) :: l, t, j, b, h => by
    unfold putX at h
    rcases putX_get l _ j b h with h | h
    · exact .inl (by simp [h])
    · rw [show (t.put i a).get j = if i = j then some a else t.get j from T.get_set _ _ _ _] at h
      by_cases e : i = j
      · rw [if_pos e] at h; cases h; subst e; exact .inl (by simp)
      · rw [if_neg e] at h; exact .inr h
theorem stX_get (gl : List Gv) {j : Nat} {b : Blk} (h : (stX gl xs).get j = some b) : (j, b) ∈ xs ∨ (stOf gl).get j = some b := by
  unfold stX at h
  cases hs : stOf gl
  rw [hs] at h
  exact putX_get xs _ j b h
theorem hasX_spec : ∀ {xs : List (Nat × Blk)} {s : St}, hasX xs s = true → ∀ x ∈ xs, s.get x.1 = some x.2
  | [], _, _, x, hx => by cases hx
  | (i, b) :: l, s, h, x, hx => by
    unfold hasX at h
    rw [Bool.and_eq_true] at h
    rcases List.mem_cons.1 hx with rfl | hx
    · have h1 := h.1
      split at h1
      · rename_i y hy
        rw [show (i, b).1 = i from rfl, hy, blkEq_eq h1]
      · cases h1
    · exact hasX_spec h.2 x hx
theorem okX_spec {gl : List Gv} : ∀ {xs : List (Nat × Blk)}, okX gl xs = true → ∀ x ∈ xs, vN ≤ x.1 ∧ x.1 < gN ∧ bareB x.2 = true
  | [], _, x, hx => by cases hx
  | (i, b) :: l, h, x, hx => by
    unfold okX at h
    simp only [Bool.and_eq_true] at h
    rcases List.mem_cons.1 hx with rfl | hx
    · exact ⟨Nat.le_of_ble_eq_true h.1.1.1.1.1, Nat.le_of_ble_eq_true h.1.1.1.1.2, h.1.1.1.2⟩
    · exact okX_spec h.2 x hx

/-- What bears no own name and no symbol stays so. -/
theorem bareC_any {ρ ρ' : Rho} {σ σ' : Nat → Value} (hρ : ∀ g L, g < gN → ρ g = some L → ρ' g = some L) (hM : σ' kM = σ kM) : ∀ {a : AV}, bareC a = true → ∀ {v : Value}, VR ρ σ a v → VR ρ' σ' a v
  | .ptr _ _, h, _, ⟨L, hL, e⟩ => ⟨L, hρ _ _ (Nat.le_of_ble_eq_true h) hL, e⟩
  | .slice _ _ _ _ _, h, _, ⟨L, b, c, hL, r⟩ => ⟨L, b, c, hρ _ _ (Nat.le_of_ble_eq_true h) hL, r⟩
  | .map _, h, _, ⟨L, hL, e⟩ => ⟨L, hρ _ _ (Nat.le_of_ble_eq_true h) hL, e⟩
  | .sym _, h, _, ⟨h1, h2⟩ => by
    have := Nat.eq_of_beq_eq_true h
    subst this
    exact ⟨h1.trans hM.symm, h2⟩
  | .bool _, _, _, e => e
  | .int _ _, _, _, e => e
  | .str _, _, _, e => e
  | .nilptr, _, _, e => e
  | .nilslice, _, _, e => e
  | .nilmap, _, _, e => e
  | .nilFunc, _, _, e => e
  | .nilIface, _, _, e => e
  | .unk, _, _, e => e
  | .func _ _ _, h, _, _ => Bool.noConfusion h
  | .yield _, h, _, _ => Bool.noConfusion h
  | .iface _ _, h, _, _ => Bool.noConfusion h
  | .agg _, h, _, _ => Bool.noConfusion h
  | .tuple _, h, _, _ => Bool.noConfusion h
  | .any, h, _, _ => Bool.noConfusion h
theorem bareCs_any {ρ ρ' : Rho} {σ σ' : Nat → Value} (hρ : ∀ g L, g < gN → ρ g = some L → ρ' g = some L) (hM : σ' kM = σ kM) : ∀ {l : List AV} {vs : List Value}, l.all bareC = true → VRs ρ σ l vs → VRs ρ' σ' l vs
  | [], _, _, h => h
  | a :: l, _, hp, ⟨v, r, e, h, hl⟩ => by
    simp only [List.all_cons, Bool.and_eq_true] at hp
    exact ⟨v, r, e, bareC_any hρ hM hp.1 h, bareCs_any hρ hM hp.2 hl⟩
theorem bareV_any {ρ ρ' : Rho} {σ σ' : Nat → Value} (hρ : ∀ g L, g < gN → ρ g = some L → ρ' g = some L) (hM : σ' kM = σ kM) {a : AV} (h : bareV a = true) {v : Value} (hv : VR ρ σ a v) : VR ρ' σ' a v := by
  unfold bareV at h
  split at h
  · obtain ⟨vs, e, hl⟩ := hv; exact ⟨vs, e, bareCs_any hρ hM h hl⟩
  · exact bareC_any hρ hM h hv
theorem bareE_any {ρ ρ' : Rho} {σ σ' : Nat → Value} (hρ : ∀ g L, g < gN → ρ g = some L → ρ' g = some L) (hM : σ' kM = σ kM) : ∀ {l : List (AV × AV × Nat)} {es : List MapEntry}, bareE l = true → MR ρ σ l es → MR ρ' σ' l es
  | [], _, _, h => h
  | (k, v, b) :: l, _, hp, ⟨e, r, he, h1, h2, h3, hl⟩ => by
    unfold bareE at hp
    simp only [Bool.and_eq_true] at hp
    exact ⟨e, r, he, bareV_any hρ hM hp.1.1 h1, bareV_any hρ hM hp.1.2 h2, h3, bareE_any hρ hM hp.2 hl⟩
theorem bareB_any {ρ ρ' : Rho} {σ σ' : Nat → Value} (hρ : ∀ g L, g < gN → ρ g = some L → ρ' g = some L) (hM : σ' kM = σ kM) {b : Blk} (h : bareB b = true) {L : Loc} {ob : Obj} (hb : BO ρ σ L b ob) : BO ρ' σ' L b ob := by
  cases b <;> first | (cases h; done) | skip
  · unfold bareB at h
    rw [Bool.and_eq_true] at h
    obtain ⟨c, t, fr, e, ht, z, hv, r⟩ := hb
    exact ⟨c, t, fr, e, ht, z, bareCs_any hρ hM h.2 hv, r⟩
  · unfold bareB at h
    obtain ⟨z, m, e, hm⟩ := hb
    exact ⟨z, m, e, bareE_any hρ hM h hm⟩
theorem bareB_glob {b : Blk} (h : bareB b = true) : (∃ cs el, b = .cells cs el false) ∨ ∃ es c, b = .map es c := by
  cases b <;> first | (cases h; done) | skip
  · unfold bareB at h
    rw [Bool.and_eq_true] at h
    rename_i cs el wr
    have : wr = false := by simpa using h.1
    subst this
    exact .inl ⟨_, _, rfl⟩
  · exact .inr ⟨_, _, rfl⟩
theorem gv_bare {gl : List Gv} (hl : GlOK gl) (hb : bareMs gl = true) {x : Gv} (hx : x ∈ gl) : bareB (.cells x.cs x.el false) = true := by
  show (true && x.cs.all bareC) = true
  rw [Bool.true_and, List.all_eq_true]
  intro a ha
  have h1 := List.all_eq_true.1 (List.all_eq_true.1 hb x hx) a ha
  have h2 := hl.low x hx a ha
  cases a <;> first | exact h1 | exact h2 | exact Bool.noConfusion h2
/-- The blocks that are only read, of a state's beginning. -/
theorem stX_low {gl : List Gv} (hl : GlOK gl) (hb : bareMs gl = true) (hX : okX gl xs = true) {i : Nat} {b : Blk} (h : (stX gl xs).get i = some b) : i < gN ∧ bareB b = true ∧ ∀ s, hasG gl s = true → hasX xs s = true → s.get i = some b := by
  rcases stX_get gl h with h | h
  · obtain ⟨_, h2, h3⟩ := okX_spec hX _ h
    exact ⟨h2, h3, fun s _ hs => hasX_spec hs _ h⟩
  · obtain ⟨y, hy, rfl, rfl⟩ := stOf_get gl hl.small i b h
    exact ⟨hl.small y hy, gv_bare hl hb hy, fun s hs _ => hasG_spec hs y hy⟩

/-- The blocks that are not the pattern's own. -/
def restOf (μ : List Nat) (ρ : Rho) (w : World) : Nat → Prop := fun k => k < w.heap.size ∧ ∀ j ∈ μ, ∀ L, ρ j = some L → L.blk ≠ k

theorem R.gen {b : Nat → Prop} {s : St} {w : World} {gl : List Gv} {bs : List Blk} (h : R ⟨b, [[]]⟩ ρ σ s w) (hl : GlOK gl) (hb : bareMs gl = true) (hX : okX gl xs = true) (hs : hasG gl s = true) (hsX : hasX xs s = true) (hM : σ' kM = σ kM) (hθ : TheOK σ σ' θ) (hH : geH θ μ s bs μ = true)
    (hm : gN + bs.length ≤ T.most + 1) : R ⟨restOf μ ρ w, [[]]⟩ (rhoP μ ρ) σ' (stI gl xs bs) w ∧ ∀ k, b k → restOf μ ρ w k := by
  obtain ⟨c1, c2, c3⟩ := geH_spec hH
  have low : ∀ g, g < gN → rhoP μ ρ g = ρ g := fun g hg => by unfold rhoP; rw [if_pos hg]
  have high : ∀ g, gN ≤ g → rhoP μ ρ g = (μ[g - gN]?).bind ρ := fun g hg => by unfold rhoP; rw [if_neg (by omega)]
  have nov : ∀ i, Base.get ⟨b, [[]]⟩ i = none := fun i => rfl
  have lo : ∀ i x, (stI gl xs bs).get i = some x → i < gN → bareB x = true ∧ s.get i = some x := fun i x hi hlt => by
    rw [stI_get, if_neg (by omega)] at hi
    obtain ⟨_, h2, h3⟩ := stX_low hl hb hX hi
    exact ⟨h2, h3 s hs hsX⟩
  have hi' : ∀ i x, (stI gl xs bs).get i = some x → gN ≤ i → ∃ j a, μ[i - gN]? = some j ∧ gN ≤ j ∧ s.get j = some a ∧ geB θ μ x a = true := fun i x hi hge => by
    rw [stI_get] at hi
    by_cases c : gN ≤ i ∧ i < gN + bs.length
    · rw [if_pos c] at hi
      obtain ⟨j, hj⟩ : ∃ j, μ[i - gN]? = some j := ⟨_, List.getElem?_eq_getElem (by omega)⟩
      obtain ⟨q1, a, q2, q3⟩ := c2 _ _ _ hj hi
      exact ⟨j, a, hj, q1, q2, q3⟩
    · rw [if_neg c] at hi
      have := (stX_low hl hb hX hi).1
      omega
  have own : ∀ k, b k → restOf μ ρ w k := fun k hk => ⟨h.size k hk, fun j hj L hL e => by
    obtain ⟨i, hi⟩ := List.mem_iff_getElem?.1 hj
    obtain ⟨x, hx⟩ : ∃ x, bs[i]? = some x := ⟨_, List.getElem?_eq_getElem (by rw [← c1]; exact (List.getElem?_eq_some_iff.1 hi).1)⟩
    obtain ⟨q1, a, q2, _⟩ := c2 _ _ _ hi hx
    exact h.own j a L q2 hL q1 (by rw [e]; exact hk)⟩
  refine ⟨⟨fun i hi => ?_, by rw [stI_next]; omega, by rw [stI_next]; exact hm, fun i x hi => ?_, fun i x hv => (by cases hv), fun i j x y L L' hgi hi hj hne hL hL' => ?_, fun i x L hi hL hg hk => ?_, fun i x hi hlt => ?_, fun g hg => ?_, fun k hk => hk.1, List.nodup_nil⟩, own⟩
  · rw [stI_next] at hi
    rw [high i (by omega), List.getElem?_eq_none (by omega)]; rfl
  · right
    rcases Nat.lt_or_ge i gN with hlt | hge
    · obtain ⟨hbx, hsi⟩ := lo i x hi hlt
      rcases h.live _ _ hsi with ⟨_, hv⟩ | ⟨L, ob, hL, hob, hbo⟩
      · cases hv
      · exact ⟨L, ob, by rw [low _ hlt]; exact hL, hob, bareB_any (fun g L hg hL => by rw [low g hg]; exact hL) hM hbx hbo⟩
    · obtain ⟨j, a, hj, q1, q2, q3⟩ := hi' i x hi hge
      rcases h.live _ _ q2 with ⟨_, hv⟩ | ⟨L, ob, hL, hob, hbo⟩
      · cases hv
      · exact ⟨L, ob, by rw [high i hge, hj]; exact hL, hob, geB_ok hθ q3 hbo⟩
  · obtain ⟨p, a, hp, q1, q2, _⟩ := hi' i x hi hgi
    rw [high i hgi, hp] at hL
    rcases Nat.lt_or_ge j gN with hlt | hge
    · obtain ⟨_, hsj⟩ := lo j y hj hlt
      rw [low j hlt] at hL'
      exact h.inj p j a y L L' q1 q2 hsj (by omega) hL hL'
    · obtain ⟨p', a', hp', q1', q2', _⟩ := hi' j y hj hge
      rw [high j hge, hp'] at hL'
      refine h.inj p p' a a' L L' q1 q2 q2' (fun e => ?_) hL hL'
      subst e
      have := (List.getElem?_inj (lt_of_list hp) c3).1 (hp.trans hp'.symm)
      omega
  · obtain ⟨p, a, hp, q1, q2, _⟩ := hi' i x hi hg
    rw [high i hg, hp] at hL
    exact hk.2 p (List.mem_iff_getElem?.2 ⟨_, hp⟩) L hL rfl
  · exact bareB_glob (lo i x hi hlt).1
  · rw [low g hg]; exact h.vars g hg

/-! ### Temporaries -/
theorem anyT_get : ∀ (n t : Nat), n ≤ T.most → (anyT n).get t = if t < n then some .any else none
  | 0, t, _ => by rw [if_neg (by omega)]; exact T.get_leaf t
  | n + 1, t, h => by
    show ((anyT n).put n .any).get t = _
    rw [T.get_put _ _ _ (by omega), anyT_get n t (by omega)]
    by_cases e : n = t
    · subst e; rw [if_pos rfl, if_pos (by omega)]
    · rw [if_neg e]
      by_cases c : t < n
      · rw [if_pos c, if_pos (by omega)]
      · rw [if_neg c, if_neg (by omega)]
theorem keepT_get : ∀ (l : List (Nat × AV)) (n : Nat) (tm : T AV) (t : Nat), n ≤ T.most → smallK n l = true → n ≤ t → (keepT l tm).get t = tm.get t
  | [], _, _, _, _, _, _ => rfl
  | (i, a) :: l, n, tm, t, hn, h, ht => by
    unfold smallK at h
    rw [Bool.and_eq_true] at h
    have hi : i < n := Nat.le_of_ble_eq_true h.1
    unfold keepT
    rw [keepT_get l n _ t hn h.2 ht, T.get_put _ _ _ (by omega), if_neg (by omega)]
theorem geT_spec {ex : List Nat} {pt tm : T AV} : ∀ {n : Nat}, geT θ μ ex pt tm n = true → ∀ t, t < n → t ∈ ex ∨ geV θ μ (tget pt t) (tget tm t) = true
  | 0, _, t, ht => by omega
  | n + 1, h, t, ht => by
    have h : ((memN n ex || geV θ μ (tget pt n) (tget tm n)) && geT θ μ ex pt tm n) = true := h
    rw [Bool.and_eq_true, Bool.or_eq_true] at h
    by_cases e : t = n
    · subst e
      rcases h.1 with h1 | h1
      · exact .inl (memN_iff.1 h1)
      · exact .inr h1
    · exact geT_spec h.2 t (by omega)

theorem TR.gen {nt : Nat} {tm : T AV} {tmps : Array Value} {keep : List (Nat × AV)} {ex : List Nat} (tr : TR ρ σ tm nt tmps) (hθ : TheOK σ σ' θ) (hk : smallK nt keep = true) (hT : geT θ μ ex (patT nt keep) tm nt = true)
    (hex : ∀ t ∈ ex, t < nt → VR (rhoP μ ρ) σ' (tget (patT nt keep) t) (tmps.getD t undef)) : TR (rhoP μ ρ) σ' (patT nt keep) nt tmps := by
  refine ⟨tr.size, tr.most, fun t => ?_⟩
  rcases Nat.lt_or_ge t nt with ht | ht
  · rcases geT_spec hT t ht with h | h
    · exact hex t h ht
    · exact geV_ok hθ _ _ _ h (tr.vals t)
  · have e : tget (patT nt keep) t = undefA := by
      unfold patT
      rw [tget_def, keepT_get keep nt _ t tr.most hk ht, anyT_get nt t tr.most, if_neg (by omega)]
      rfl
    have e2 : tmps.getD t undef = undef := by
      rw [Array.getD_eq_getD_getElem?, Array.getElem?_eq_none (by rw [tr.size]; exact ht)]; rfl
    rw [e, e2]
    exact VR_undef

theorem plainIt_ok {a : AItem} {i : Item} (h : plainIt a = true) (hi : IR ρ a i) : IR ρ' a i := by
  cases a <;> first | exact hi | cases h
theorem plainTd_ok : ∀ {l : List AItem} {is : List Item}, plainTd l = true → IRs ρ l is → IRs ρ' l is
  | [], _, _, h => h
  | a :: l, _, h, ⟨i, r, e, h1, h2⟩ => by
    unfold plainTd at h
    rw [Bool.and_eq_true] at h
    exact ⟨i, r, e, plainIt_ok h.1 h1, plainTd_ok h.2 h2⟩
theorem plainTd_noD {l : List AItem} (h : plainTd l = true) : noD l = true := by
  cases l with
  | nil => rfl
  | cons a l =>
    unfold plainTd at h
    rw [Bool.and_eq_true] at h
    cases a <;> first | rfl | (cases h.1; done)
end

/-! ### Where the machine stands -/
/-- The machine stands where the engine's machine does; ρ0: where the variables lie. -/
def Live (E : Env) (b : Nat → Prop) (ρ0 : Rho) (σ : Nat → Value) (cs : List Frame) (m : AM) (M : Machine) (w : World) : Prop :=
  ∃ ρ f cs' pd q, M = lone f cs' w ∧ MR1 E b pd q ρ σ cs m f cs' w ∧ ∀ g, g < gN → ρ g = ρ0 g

section
variable {E E' : Env} {b : Nat → Prop} {ρ0 : Rho} {σ σ' : Nat → Value} {cs : List Frame} {m m' : AM} {M : Machine} {w : World}

theorem low_ext {B : Base} {ρ ρ' : Rho} {s : St} (h : R B ρ σ s w) (hx : Ext ρ ρ') {g : Nat} (hg : g < gN) : ρ' g = ρ g := by
  obtain ⟨L, hL, _⟩ := h.vars g hg
  rw [hL]; exact hx g L hL

theorem Live.step (ok : EnvS E σ) (mo : MemoOK E σ) (hv : Hold E.V b w) (h : Live E b ρ0 σ cs m M w) (hx : astep E m = some m') : ∃ M' w', Steps E.P M M' ∧ Kept b w w' ∧ Live E b ρ0 σ cs m' M' w' := by
  obtain ⟨ρ, f, cs', pd, q, rfl, hm, hlow⟩ := h
  obtain ⟨ρ', f', cs2, w', pd', q', hρ, hs, hB, hm'⟩ := astep_ok ok mo hv hm hx
  exact ⟨_, w', hs, hB, ρ', f', cs2, pd', q', rfl, hm', fun g hg => (low_ext hm.r hρ hg).trans (hlow g hg)⟩

theorem runS_succ (E : Env) (stop : AM → Bool) (n : Nat) (m : AM) : runS E stop (n + 1) m = Bool.rec (motive := fun _ => Option AM) (Option.rec (motive := fun _ => Option AM) none (fun m' => runS E stop n m') (astep E m)) (some m) (stop m) := rfl

theorem Live.run (ok : EnvS E σ) (mo : MemoOK E σ) {stop : AM → Bool} : ∀ {n : Nat} {m m' : AM} {M : Machine} {w : World}, Hold E.V b w → Live E b ρ0 σ cs m M w → runS E stop n m = some m' →
    (∃ M' w', Steps E.P M M' ∧ Kept b w w' ∧ Live E b ρ0 σ cs m' M' w') ∧ stop m' = true
  | 0, _, _, _, _, _, _, hx => by cases hx
  | n + 1, m, m', M, w, hv, h, hx => by
    rw [runS_succ] at hx
    cases hs : stop m with
    | true =>
      rw [hs] at hx
      cases hx
      exact ⟨⟨M, w, .refl _ _, Kept.refl _ _, h⟩, hs⟩
    | false =>
      rw [hs] at hx
      cases ha : astep E m with
      | none => rw [ha] at hx; cases hx
      | some m1 =>
        rw [ha] at hx
        obtain ⟨M1, w1, h1, h2, h3⟩ := h.step ok mo hv ha
        obtain ⟨⟨M2, w2, h4, h5, h6⟩, h7⟩ := Live.run ok mo (hv.kept h2) h3 hx
        exact ⟨⟨M2, w2, h1.trans h4, h2.trans h5, h6⟩, h7⟩

theorem Live.loop (ok : EnvS E σ) (mo : MemoOK E σ) {L n : Nat} : ∀ {k : Nat} {m m' : AM} {M : Machine} {w : World}, Hold E.V b w → Live E b ρ0 σ cs m M w → toLoop E L n k m = some m' →
    ∃ M' w', Steps E.P M M' ∧ Kept b w w' ∧ Live E b ρ0 σ cs m' M' w'
  | k, m, m', M, w, hv, h, hx => by
    have one : ∀ {m1}, runS E (atLoop L) n m = some m1 → ∀ {m2}, astep E m1 = some m2 → ∃ M' w', Steps E.P M M' ∧ Kept b w w' ∧ Live E b ρ0 σ cs m2 M' w' := fun h1 m2 h2 => by
      obtain ⟨⟨M1, w1, a1, a2, a3⟩, _⟩ := h.run ok mo hv h1
      obtain ⟨M2, w2, a4, a5, a6⟩ := a3.step ok mo (hv.kept a2) h2
      exact ⟨M2, w2, a1.trans a4, a2.trans a5, a6⟩
    cases k with
    | zero =>
      unfold toLoop at hx
      split at hx
      · rename_i m1 h1; exact one h1 hx
      · cases hx
    | succ k =>
      unfold toLoop at hx
      split at hx
      · rename_i m1 h1
        split at hx
        · rename_i m2 h2
          obtain ⟨M1, w1, a1, a2, a3⟩ := one h1 h2
          obtain ⟨M2, w2, a4, a5, a6⟩ := Live.loop ok mo (hv.kept a2) a3 hx
          exact ⟨M2, w2, a1.trans a4, a2.trans a5, a6⟩
        · cases hx
      · cases hx

/-- The machine stands where the pattern does. -/
theorem MR1.gen {gl : List Gv} {xs : List (Nat × Blk)} {fn : FuncId} {nt : Nat} {keep : List (Nat × AV)} {bs : List Blk} {θ : List (Nat × AV)} {μ ex : List Nat} {pd : List (Nat × Blk)} {q : List (List (Nat × Blk))} {ρ : Rho} {f : Frame} {cs' : List Frame}
    (h : MR1 E b pd q ρ σ cs m f cs' w) (hg : genOK gl xs fn nt keep bs θ μ ex m = true) (hl : GlOK gl) (hb : bareMs gl = true) (hX : okX gl xs = true) (hM : σ' kM = σ kM) (hθ : TheOK σ σ' θ)
    (hex : ∀ t ∈ ex, t < nt → VR (rhoP μ ρ) σ' (tget (patT nt keep) t) (f.tmps.getD t undef)) :
    cs' = cs ∧ MR1 E' (restOf μ ρ w) [] [] (rhoP μ ρ) σ' cs (patM gl xs fn nt m.fr.todo keep bs) f cs' w ∧ ∀ k, b k → restOf μ ρ w k := by
  obtain ⟨⟨tm, todo, ⟨fn', nt', defers, mode, kd, ro⟩⟩, callers, s⟩ := m
  unfold genOK at hg
  simp only [Bool.and_eq_true] at hg
  obtain ⟨⟨⟨⟨⟨⟨⟨⟨⟨⟨⟨⟨g1, g2⟩, g3⟩, g4⟩, g5⟩, g6⟩, g7⟩, g8⟩, g9⟩, g10⟩, g11⟩, g12⟩, g13⟩ := hg
  have e1 : callers = [] := by cases callers <;> first | rfl | cases g1
  have e2 : defers = [] := by cases defers <;> first | rfl | cases g2
  have e3 : mode = .run := by cases mode <;> first | rfl | cases g3
  have e4 : kd = .normal := by cases kd <;> first | rfl | cases g4
  have e5 : ro = none := by cases ro <;> first | rfl | cases g5
  have e6 := Nat.eq_of_beq_eq_true g6
  have e7 := Nat.eq_of_beq_eq_true g7
  subst e1; subst e2; subst e3; subst e4; subst e5; subst e6; subst e7
  obtain ⟨hf, hc, hr⟩ := h
  obtain ⟨rfl, rfl⟩ : cs' = cs ∧ q = [] := hc
  have hno := plainTd_noD g8
  have hpd : pd = [] := hf.tt.noP hno
  subst hpd
  obtain ⟨hi, tr⟩ := hf.tt.noD hno
  have hlen := Nat.le_of_ble_eq_true g13
  rw [len_eq] at hlen
  obtain ⟨g9, g9'⟩ := g9
  obtain ⟨hR, hown⟩ := hr.gen hl hb hX g9 g9' hM hθ g10 (by omega)
  refine ⟨rfl, ⟨⟨hf.fn, hf.kind, hf.ro, ?_, hf.mode, .plain rfl (plainTd_ok g8 hi) (tr.gen hθ g12 g11 hex)⟩, ⟨rfl, rfl⟩, hR⟩, hown⟩
  exact hf.defers

theorem Live.gen {gl : List Gv} {xs : List (Nat × Blk)} {fn : FuncId} {nt : Nat} {keep : List (Nat × AV)} {bs : List Blk} {θ : List (Nat × AV)} {μ : List Nat} (h : Live E b ρ0 σ cs m M w) (hg : genOK gl xs fn nt keep bs θ μ [] m = true) (hl : GlOK gl) (hb : bareMs gl = true) (hX : okX gl xs = true) (hM : σ' kM = σ kM) (hθ : TheOK σ σ' θ) :
    ∃ b', (∀ k, b k → b' k) ∧ Live E' b' ρ0 σ' cs (patM gl xs fn nt m.fr.todo keep bs) M w := by
  obtain ⟨ρ, f, cs', pd, q, rfl, hm, hlow⟩ := h
  obtain ⟨rfl, h1, h2⟩ := hm.gen (E' := E') hg hl hb hX hM hθ (fun t ht => by cases ht)
  exact ⟨_, h2, _, f, cs', [], [], rfl, h1, fun g hg => by unfold rhoP; rw [if_pos hg]; exact hlow g hg⟩

/-! ### Beginning, calls, the end -/
theorem Live.start {s : St} {ρ : Rho} {f : FuncId} {args : List AV} {va : Array Value} {fr : AFr} (ok : EnvOK E) (h : R (.at w.heap.size) ρ σ s w) (ha : VRs ρ σ args va.toList) (he : enterA E f args .normal = some fr) :
    Live E (fun k => k < w.heap.size) ρ σ cs ⟨fr, [], s⟩ (lone (Frame.enter E.P f va .normal) cs w) w :=
  ⟨ρ, _, cs, [], [], rfl, ⟨enterA_ok ok ha he _, ⟨rfl, rfl⟩, h⟩, fun _ _ => rfl⟩

/-- A frame that has just been entered is the machine's. -/
theorem entered (ok : EnvOK E) {so : Option St} {ρ : Rho} {f : FuncId} {args : List AV} {fr : AFr} {F : Frame} (he : enterA E f args .normal = some fr) (h : FrR E [] so ρ σ fr F) : ∃ va : Array Value, VRs ρ σ args va.toList ∧ F = Frame.enter E.P f va .normal := by
  unfold enterA at he
  split at he
  case h_2 => cases he
  rename_i i hi
  split at he
  case h_2 => cases he
  rename_i c hc
  split at he
  case h_2 => cases he
  rename_i hb
  cases he
  obtain ⟨hfn, _⟩ := ok.fns f i hi
  have hb' : max (len args) i.fn.ntmps ≤ T.most := Nat.le_of_ble_eq_true hb
  rw [len_eq] at hb'
  obtain ⟨h1, h2, h3, h4, h5, h6⟩ := h
  obtain ⟨hI, tr⟩ := h6.noD rfl
  obtain ⟨_, r, eI, eI2, er⟩ := hI
  have hsz : F.tmps.size = max args.length i.fn.ntmps := by have := tr.size; rw [len_eq] at this; exact this
  have hval : ∀ t, VR ρ σ (if 0 ≤ t ∧ t < 0 + args.length then (args[t - 0]?).getD undefA else tget (.leaf : T AV) t) (F.tmps.getD t undef) := fun t => by
    rw [← putAll_ok args 0 .leaf t (by omega)]
    exact tr.vals t
  have hleaf : ∀ t, tget (.leaf : T AV) t = undefA := fun t => by rw [tget_def, T.get_leaf]; rfl
  have hva : ∀ (l : List AV) (k : Nat), (∀ j, j < l.length → ∃ a, l[j]? = some a ∧ VR ρ σ a (F.tmps.getD (k + j) undef)) → VRs ρ σ l ((List.range' k l.length).map fun t => F.tmps.getD t undef) := by
    intro l
    induction l with
    | nil => intro k _; rfl
    | cons a l ih =>
      intro k hk
      obtain ⟨a', ha', hv'⟩ := hk 0 (by simp)
      simp only [List.getElem?_cons_zero, Option.some.injEq] at ha'
      subst ha'
      refine ⟨_, _, rfl, by simpa using hv', ?_⟩
      exact ih (k + 1) fun j hj => by
        obtain ⟨x, hx, hv⟩ := hk (j + 1) (by simp; omega)
        exact ⟨x, by simpa using hx, by rw [show k + 1 + j = k + (j + 1) by omega]; exact hv⟩
  refine ⟨((List.range' 0 args.length).map fun t => F.tmps.getD t undef).toArray, ?_, ?_⟩
  · refine hva args 0 fun j hj => ⟨args[j], by simp [hj], ?_⟩
    have := hval j
    rw [if_pos (by omega)] at this
    simpa [hj] using this
  · have e : Frame.enter E.P f ((List.range' 0 args.length).map fun t => F.tmps.getD t undef).toArray .normal =
        { fn := f, tmps := ((List.range' 0 args.length).map fun t => F.tmps.getD t undef).toArray ++ Array.replicate (i.fn.ntmps - ((List.range' 0 args.length).map fun t => F.tmps.getD t undef).toArray.size) undef, todo := [.code c], defers := [], mode := .run, kind := .normal } := by
      simp [Frame.enter, hfn, hc]
    rw [e]
    obtain ⟨Ffn, Ftmps, Ftodo, Fdefers, Fmode, Fkind, Fro⟩ := F
    have a1 : Ffn = f := h1
    have a2 : Fkind = .normal := h2
    have a3 : Fro = none := h3
    have a4 : Fdefers = [] := h4
    have a5 : Fmode = .run := h5
    have a6 : Ftodo = [.code c] := by
      have e2 : Ftodo = _ := eI
      rw [e2, show r = [] from er, show _ = Item.code c from eI2]
    subst a1; subst a2; subst a3; subst a4; subst a5; subst a6
    congr 1
    apply Array.ext
    · simp only [Array.size_append, Array.size_replicate, List.size_toArray, List.length_map, List.length_range']
      have : Ftmps.size = _ := hsz
      rw [this]; omega
    · intro t ht1 ht2
      have hsz' : Ftmps.size = max args.length i.fn.ntmps := hsz
      by_cases c : t < args.length
      · rw [Array.getElem_append_left (by simpa using c)]
        simp [Array.getD, ht1]
      · rw [Array.getElem_append_right (by simpa using c)]
        have := hval t
        rw [if_neg (by omega), hleaf] at this
        obtain ⟨vs, hv, hvs⟩ := this
        have hvs : vs.toList = [] := hvs
        have : vs = #[] := Array.ext' (by simpa using hvs)
        subst this
        simp only [Array.getElem_replicate]
        have e3 : Ftmps.getD t undef = Ftmps[t] := by simp [Array.getD, ht1]
        have hv : Ftmps.getD t undef = .tuple #[] := hv
        rw [← e3, hv]; rfl

theorem R.more {q q' : List (List (Nat × Blk))} {ρ : Rho} {s : St} {w2 : World} (h : R ⟨b, q⟩ ρ σ s w) (k : Below w.heap.size w w2) (hq : q.flatten = q'.flatten) : R ⟨fun j => b j ∨ (w.heap.size ≤ j ∧ j < w2.heap.size), q'⟩ ρ σ s w2 := by
  have h2 := (h.frame k).rebase (B' := ⟨b, q'⟩) rfl hq.symm
  refine ⟨h2.fresh, h2.base, h2.most, h2.live, h2.virt, h2.inj, fun i x L hi hL hg hb => ?_, h2.glob, h2.vars, fun j hj => ?_, h2.nd⟩
  · rcases hb with hb | ⟨h3, _⟩
    · exact h2.own i x L hi hL hg hb
    · obtain ⟨ob, hob, _⟩ := h.here hi hL
      have := lt_of_get hob
      omega
  · rcases hj with hj | ⟨_, hj⟩
    · exact h2.size j hj
    · exact hj

def dstOf (fr : AFr) : Option Nat := match fr.todo with
  | .reg _ (o :: _) :: _ => o.dst
  | _ => none
/-- Where the caller stands behind the call, its result not looked at. -/
def behind (m : AM) : Option AM := match m.callers with
  | [fr] => match fr.finish .any with
    | some fr' => some ⟨fr', [], m.st⟩
    | none => none
  | _ => none
def dstIs (m : AM) (t : Nat) : Bool := match m.callers with
  | [fr] => match dstOf fr with
    | some d => Nat.beq d t
    | none => false
  | _ => false

/-- A call with plain arguments that hands back one cell, which a symbol stands for from then on. -/
theorem Live.call {gl : List Gv} {xs : List (Nat × Blk)} {fn : FuncId} {nt : Nat} {keep : List (Nat × AV)} {bs : List Blk} {θ : List (Nat × AV)} {μ : List Nat} {f : FuncId} {args : List AV} {t0 i0 : Nat} {m2 : AM} {Post : Value → World → Prop} (ok : EnvOK E)
    (h : Live E b ρ0 σ cs m M w) (hf : enterA E f args .normal = some m.fr) (hd : dstIs m t0 = true) (hm2 : behind m = some m2) (hg : genOK gl xs fn nt keep bs θ μ [t0] m2 = true) (hk : tget (patT nt keep) t0 = .sym i0) (hp : args.all plainA = true)
    (hl : GlOK gl) (hb : bareMs gl = true) (hX : okX gl xs = true) (hcall : ∀ va : Array Value, VRs (fun _ => none) σ args va.toList → Calls E.P f va w (fun e w2 => ∃ u, e = .returned u ∧ u.oneCell' = true ∧ Below w.heap.size w w2 ∧ Post u w2)) :
    ∃ u w2 M2, Steps E.P M M2 ∧ Below w.heap.size w w2 ∧ Post u w2 ∧ ∀ σ' : Nat → Value, σ' i0 = u → σ' kM = σ kM → TheOK σ σ' θ →
      ∃ b', (∀ k, b k → b' k) ∧ (∀ k, w.heap.size ≤ k → k < w2.heap.size → b' k) ∧ Live E' b' ρ0 σ' cs (patM gl xs fn nt m2.fr.todo keep bs) M2 w2 := by
  obtain ⟨ρ, F, cs', pd, q, rfl, hm, hlow⟩ := h
  obtain ⟨fr0, callers, s⟩ := m
  have hc := hm.cs
  unfold behind at hm2
  simp only at hm2
  split at hm2
  case h_2 => cases hm2
  rename_i fr
  split at hm2
  case h_2 => cases hm2
  rename_i fr' hfin
  cases hm2
  obtain ⟨G, r, pd', q', rfl, rfl, hG, hr0⟩ := hc
  obtain ⟨rfl, rfl⟩ : r = cs ∧ q' = [] := hr0
  have hfr := hm.fr
  have hpd : pd = [] := hfr.tt.noP (by
    have hf : enterA E f args .normal = some fr0 := hf
    unfold enterA at hf
    repeat' (split at hf)
    all_goals first | (cases hf; rfl) | cases hf)
  subst hpd
  obtain ⟨va, hva, rfl⟩ := entered ok hf hfr
  obtain ⟨e, w2, fr2, ⟨u, rfl, hu1, hbel, hpost⟩, hcomes, hfn, hleave⟩ := hcall va (plains_any (plains_all hp) hva) (G :: r)
  have hcell : u.cells = #[u] := by cases u <;> first | rfl | (simp [Value.oneCell'] at hu1; done)
  have hfin' := finish_ok hG (x := .any) (v := u) hcell hfin s
  -- the result's place
  have hd' : dstOf fr = some t0 := by
    unfold dstIs at hd
    simp only at hd
    split at hd
    · rename_i d hdd; rw [hdd, Nat.eq_of_beq_eq_true hd]
    · cases hd
  have hplace : t0 < nt → (G.finish u).tmps.getD t0 undef = u := by
    intro ht0
    obtain ⟨tm, todo, ⟨fn', nt', ds, md, kd, ro⟩⟩ := fr
    unfold dstOf at hd'
    simp only at hd'
    split at hd'
    case h_2 => cases hd'
    rename_i ops o rest k
    obtain ⟨hI, tr⟩ := hG.tt.noD rfl
    obtain ⟨it, r', e1, ⟨is, e2, hmap⟩, _⟩ := hI
    cases is with
    | nil => simp at hmap
    | cons i is =>
      simp only [List.map_cons, List.cons.injEq] at hmap
      obtain ⟨ffn, tmps, ftodo, fds, fmd, fkd, fro⟩ := G
      have e1 : ftodo = it :: r' := e1
      subst e1; subst e2
      have hsz : tmps.size = nt' := tr.size
      unfold AFr.finish at hfin
      simp only at hfin
      unfold genOK at hg
      split at hfin
      · rename_i tm' hput
        cases hfin
        simp only [Bool.and_eq_true] at hg
        have e7 := Nat.eq_of_beq_eq_true hg.1.1.1.1.1.1.2
        simp only [Frame.finish, hmap.1, Option.bind_some, hd']
        have : t0 < tmps.size := by rw [hsz, ← e7]; exact ht0
        simp [Array.getD, this]
      · cases hfin
  have hR2 : R ⟨fun j => b j ∨ (w.heap.size ≤ j ∧ j < w2.heap.size), [[]]⟩ ρ σ s w2 := by
    have hpd' : pd' = [] := hG.tt.noP (by
      unfold dstOf at hd'
      split at hd'
      · rename_i h; rw [h]; rfl
      · cases hd')
    refine R.more hm.r hbel ?_
    rw [hpd']; rfl
  refine ⟨u, w2, lone (G.finish u) r w2, hcomes.trans (.one (step_leave_returned hleave)), hbel, hpost, fun σ' hi0 hM hθ => ?_⟩
  have hmr : MR1 E (fun j => b j ∨ (w.heap.size ≤ j ∧ j < w2.heap.size)) [] [] ρ σ r ⟨fr', [], s⟩ (G.finish u) r w2 := by
    have hpd' : pd' = [] := hG.tt.noP (by
      unfold dstOf at hd'
      split at hd'
      · rename_i h; rw [h]; rfl
      · cases hd')
    subst hpd'
    exact ⟨hfin', ⟨rfl, rfl⟩, hR2⟩
  obtain ⟨_, h1, h2⟩ := hmr.gen (E' := E') hg hl hb hX hM hθ (fun t ht hlt => by
    simp only [List.mem_singleton] at ht
    subst ht
    rw [hplace hlt, hk]
    exact ⟨hi0.symm, hu1⟩)
  exact ⟨_, fun k hk => h2 k (.inl hk), fun k h3 h4 => h2 k (.inr ⟨h3, h4⟩), _, _, r, [], [], rfl, h1, fun g hg => by unfold rhoP; rw [if_pos hg]; exact hlow g hg⟩

def retIs (E : Env) (f : FuncId) (v : AV) (o : Option AM) : Bool := match o with
  | some m => doneA m && endA f m.fr && (match retVal E m.st m.fr with
    | some x => avEq v x
    | none => false)
  | none => false
/-- What the lowest frame hands back: an image, its blocks by these names. -/
def imgIs (E : Env) (f : FuncId) (ns : List Nat) (i : Img) (o : Option AM) : Bool := match o with
  | some m => doneA m && endA f m.fr && (match retVal E m.st m.fr with
    | some x => avEq (ren (nameOf ns) i.v) x && chkL (nameOf ns) m.st ns i.bs
    | none => false)
  | none => false

/-- The lowest frame comes to its end. -/
theorem Live.done (ok : EnvS E σ) (mo : MemoOK E σ) (hv : Hold E.V b w) (h : Live E b ρ0 σ cs m M w) {n : Nat} {f : FuncId} (hx : runS E doneA n m = some m') (he : endA f m'.fr = true) {v : AV} (hr : retVal E m'.st m'.fr = some v) :
    ∃ fr w' u ρ, Steps E.P M (lone fr cs w') ∧ Kept b w w' ∧ fr.fn = f ∧ fr.leaving E.P w' (.returned u) ∧ VR ρ σ v u ∧ R ⟨b, [[]]⟩ ρ σ m'.st w' ∧ ∀ g, g < gN → ρ g = ρ0 g := by
  obtain ⟨⟨M', w', h1, h2, ρ, fr, cs', pd, q, rfl, hm, hlow⟩, hd⟩ := h.run ok mo hv hx
  obtain ⟨rfl, rfl, rfl, hfn, u, hu, hl⟩ := done_ok ok.ok hm hd he hr
  exact ⟨fr, w', u, ρ, h1, h2, hfn, hl, hu, hm.r, hlow⟩

/-- It hands back a plain value. -/
theorem Live.ret (ok : EnvS E σ) (mo : MemoOK E σ) (hv : Hold E.V b w) (h : Live E b ρ0 σ cs m M w) {n : Nat} {f : FuncId} {v : AV} (hx : retIs E f v (runS E doneA n m) = true) :
    ∃ fr w' u ρ, Steps E.P M (lone fr cs w') ∧ Kept b w w' ∧ fr.fn = f ∧ fr.leaving E.P w' (.returned u) ∧ VR ρ σ v u := by
  unfold retIs at hx
  split at hx
  case h_2 => cases hx
  rename_i m' hm'
  simp only [Bool.and_eq_true] at hx
  obtain ⟨⟨_, h2⟩, h3⟩ := hx
  split at h3
  case h_2 => cases h3
  rename_i x hxr
  have e := avEq_eq _ _ h3
  subst e
  obtain ⟨fr, w', u, ρ, a1, a2, a3, a4, a5, _⟩ := h.done ok mo hv hm' h2 hxr
  exact ⟨fr, w', u, ρ, a1, a2, a3, a4, a5⟩

/-- It hands back an image. -/
theorem Live.image (ok : EnvS E σ) (mo : MemoOK E σ) (hv : Hold E.V b w) (h : Live E b ρ0 σ cs m M w) {n : Nat} {f : FuncId} {ns : List Nat} {i : Img} (hx : imgIs E f ns i (runS E doneA n m) = true)
    {B : Base} {ρc : Rho} {sc s2 : St} {w0 : World} {v : AV} (hR : R B ρc σ sc w0) (hlow : ∀ g, g < gN → ρ0 g = ρc g) (hk : Below w0.heap.size w0 w) (hb : ∀ k, k < w0.heap.size → b k) (hp : place i sc = some (v, s2)) :
    ∃ fr w', Steps E.P M (lone fr cs w') ∧ Kept b w w' ∧ fr.fn = f ∧ ∃ u, fr.leaving E.P w' (.returned u) ∧ CallPost B ρc σ v s2 w0 (.returned u) w' := by
  unfold imgIs at hx
  split at hx
  case h_2 => cases hx
  rename_i m' hm'
  simp only [Bool.and_eq_true] at hx
  obtain ⟨⟨_, h2⟩, h3⟩ := hx
  split at h3
  case h_2 => cases h3
  rename_i x hxr
  rw [Bool.and_eq_true] at h3
  obtain ⟨h3, h4⟩ := h3
  have e := avEq_eq _ _ h3
  subst e
  obtain ⟨fr, w', u, ρ, a1, a2, a3, a4, a5, a6, a7⟩ := h.done ok mo hv hm' h2 hxr
  have hB' : Below w0.heap.size w0 w' := ⟨a2.os.trans hk.os, a2.tape.trans hk.tape, a2.output.trans hk.output, Nat.le_trans hk.size a2.size, fun k hk' => (a2.block k (hb k hk')).trans (hk.block k hk')⟩
  have hR1 : R (.at w0.heap.size) ρ σ m'.st w' := ⟨a6.fresh, a6.base, a6.most, a6.live, a6.virt, a6.inj, fun j x L hj hL hg hlt => a6.own j x L hj hL hg (hb _ hlt), a6.glob, a6.vars, fun k hk' => Nat.lt_of_lt_of_le hk' hB'.size, a6.nd⟩
  obtain ⟨ρ', q1, q2, q3⟩ := hR.image hB' hR1 (fun g hg => (a7 g hg).trans (hlow g hg)) a5 h4 hp
  exact ⟨fr, w', a1, a2, a3, u, a4, u, ρ', rfl, q1, q2, q3, ⟨hB'.os, hB'.tape, hB'.output, hB'.size, fun k hk' => hB'.block k (hR.size k hk')⟩⟩
end
end
end Go.Eng

/- The engine: an abstract machine that runs closed code of any program, and its proof: part 6 of 14. No condition. -/
import Derived.Test.YtjhnpcnamclfbaaGreatDoorE05
import Derived.Laws.BytesString
import Derived.Laws.BytesArg
import Derived.Laws.Externs
import Derived.KernelRfl
import Derived.Lib.Bytealg
/-! The engine's operations are the machine's: conversions. No condition. -/
namespace Go.Eng
open Go.RowKit

section
variable {E : Env} {B : Base} {ρ ρ' : Rho} {σ : Nat → Value} {s s' : St} {w w' : World} {tm : T AV} {ev : Operand → Value} {r : Res}

theorem bytesA_rel : ∀ (l : List UInt8), VRs ρ σ (bytesA (l.map UInt8.toNat)) (l.map fun b => Value.int .u8 b.toNat)
  | [] => rfl
  | _ :: l => ⟨_, _, rfl, rfl, bytesA_rel l⟩
theorem strOf_rel : ∀ {l : List AV} {r : List Nat} {vs : List Value}, strOf l = some r → VRs ρ σ l vs → vs = (r.map (Int.ofNat)).map (Value.int .u8) ∧ ∀ n ∈ r, n < 256
  | [], r, vs, h, hv => by simp [strOf] at h; subst h; cases hv; simp
  | a :: l, r, vs, h, hv => by
    obtain ⟨v, rest, rfl, ha, hl⟩ := hv
    unfold strOf at h
    split at h
    · rename_i heq; cases heq
    · rename_i n l' heq
      cases heq
      split at h
      · rename_i hb
        split at h
        · rename_i r' hr
          cases h
          obtain ⟨h1, h2⟩ := strOf_rel hr hl
          simp only [VR] at ha
          rw [blt_iff] at hb
          refine ⟨by rw [ha, h1]; rfl, fun m hm => ?_⟩
          rcases List.mem_cons.1 hm with rfl | hm
          · simpa using hb
          · exact h2 m hm
        · cases h
      · cases h
    · cases h

theorem str_of_nums {r : List Nat} (h : ∀ n ∈ r, n < 256) : bytesNat ((r.map Int.ofNat).foldl (fun r n => r.push (UInt8.ofNat n.toNat)) ByteArray.empty) = r := by
  rw [foldl_push_bytes]
  unfold bytesNat
  simp only [ByteArray.data_empty, Array.toList_append, List.map_map, List.nil_append]
  induction r with
  | nil => rfl
  | cons a r ih =>
    simp only [List.map_cons, Function.comp_apply, Int.ofNat_eq_natCast, Int.toNat_natCast]
    congr 1
    · have := h a (by simp)
      simp; omega
    · exact ih fun n hn => h n (by simp [hn])

theorem runes_rel (sb : ByteArray) : ∀ (n i : Nat) (acc : List AV) (va : Array Value), VRs ρ σ acc va.toList → VRs ρ σ (acc ++ runesN n ((bytesNat sb).drop i)) (Conv.runesFrom sb n i va).toList := by
  intro n
  induction n with
  | zero => intro i acc va h; simpa [runesN, Conv.runesFrom] using h
  | succ n ih =>
    intro i acc va h
    unfold Conv.runesFrom
    by_cases hlt : i < sb.size
    · rw [if_pos hlt]
      have hne : (bytesNat sb).drop i ≠ [] := by
        intro e
        have := congrArg List.length e
        rw [List.length_drop, bytesNat_len] at this
        simp at this; omega
      have hd := decodeN_ok sb i rfl hne
      cases hrest : (bytesNat sb).drop i with
      | nil => exact absurd hrest hne
      | cons b0 rest =>
        rw [hrest] at hd
        unfold runesN
        cases hdec : decodeN (b0 :: rest) with
        | mk c wd =>
          rw [hdec] at hd
          simp only [hd]
          have := ih (i + wd) (acc ++ [.int .i32 (Int.ofNat c)]) (va.push (.int .i32 (Int.ofNat c))) (by
            rw [Array.toList_push]; exact h.append ⟨_, _, rfl, rfl, rfl⟩)
          rw [List.append_assoc] at this
          have e : (b0 :: rest).drop wd = (bytesNat sb).drop (i + wd) := by rw [← hrest, List.drop_drop]
          rw [e]
          exact this
    · rw [if_neg hlt]
      have : (bytesNat sb).drop i = [] := by
        apply List.eq_nil_of_length_eq_zero
        rw [List.length_drop, bytesNat_len]; omega
      rw [this]
      have : runesN (n + 1) [] = [] := rfl
      rw [this, List.append_nil]; exact h

theorem upd_freeze {w : World} {g : Nat} {c : Array Value} {t : TypeId} {lo hi : Nat} (h : w.heap[g]? = some (.cells c t (lo, hi))) (o n : Nat) (hn : n ≠ 0) :
    Upd w g (.cells c t (if lo == hi then (o, o + n) else (min lo o, max hi (o + n)))) (w.freeze ⟨g, o, none⟩ n) := by
  unfold World.freeze
  rw [if_neg hn]
  refine ⟨rfl, rfl, rfl, by simp, ?_, fun k hk => ?_⟩
  · simp [Array.getElem?_modify, h]
  · simp only [Array.getElem?_modify]
    rw [if_neg (Ne.symm hk)]

theorem New.upd {w w1 w2 : World} {a b : Obj} (h : New w a w1) (k : Upd w1 w.heap.size b w2) : New w b w2 :=
  ⟨k.os.trans h.os, k.tape.trans h.tape, k.output.trans h.output, k.size.trans h.size, k.here, fun i hi => (k.other i (by omega)).trans (h.other i hi)⟩

theorem newCells_ok' (h : R B ρ σ s w) {cs : List AV} {el : TypeId} {i : Nat} (hn : newCells s cs el = some (i, s')) {c : Array Value} {fr : Nat × Nat} (hc : ∃ vs ex, c.toList = vs ++ ex ∧ VRs ρ σ cs vs)
    (k : New w (.cells c el fr) w') (hfr : ∀ o, o < c.size → ¬ (fr.1 ≤ o ∧ o < fr.2)) : ∃ ρ', Ext ρ ρ' ∧ R B ρ' σ s' w' ∧ ρ' i = some ⟨w.heap.size, 0, c.size⟩ := by
  obtain ⟨vs, ex, hc, hv⟩ := hc
  have hl := hv.length
  unfold newCells at hn
  split at hn
  case h_2 => cases hn
  rename_i hel
  refine h.new hn k ⟨c, el, fr, rfl, fun _ => (elOf_head hel).symm, fun _ => rfl, ?_, ?_, by simp, fun _ => hfr⟩
  · rw [List.drop_zero, hc, ← hl, List.take_left']
    · exact hv
    · rfl
  · have : c.size = vs.length + ex.length := by rw [← List.length_append, ← hc]; simp
    show cs.length ≤ c.size
    omega

theorem cap_ge (w : World) (need old : Nat) (e : TypeId) : need ≤ (Question.appendCap need old e).cut (w.tape w.drawn (.appendCap need old e)) := by simp [Question.cut]

theorem run_choose_cap {P : Program} (need old : Nat) (e : TypeId) : ∃ c, need ≤ c ∧ (choose (.appendCap need old e)).run P w = .ok c { w with drawn := w.drawn + 1 } :=
  ⟨_, cap_ge w need old e, by simp [run_choose, Question.forced]⟩

theorem bytesOfSl_spec {src : TypeId} (h : bytesOfSl E src = true) : ∃ e, und E src = some (.slice e) ∧ und E e = some (.int .u8) := by
  unfold bytesOfSl at h
  split at h
  · rename_i e hs
    split at h
    · rename_i he; exact ⟨e, hs, he⟩
    · cases h
  · cases h

variable (ok : EnvOK E) (h : R B ρ σ s w) (he : EvOK ρ σ tm ev)

include ok h in
theorem convertA_ok {src dst : TypeId} {x : AV} (hx : convertA E s src dst x = some r) {v : Value} (hv : VR ρ σ x v) :
    ResOK B ρ σ r w ((do pure (.value (← convert src dst v)) : Sem Next).run E.P w) := by
  unfold convertA at hx
  split at hx
  · cases hx
  rename_i ds hs
  have hus := ok.run_und hs w
  split at hx
  · rename_i k hd
    have hud := ok.run_und hd w
    unfold convIntA at hx
    split at hx
    case h_2 => cases hx
    rename_i k' n
    cases hx
    simp only [VR] at hv; subst hv
    refine res_of_val0 h (v := .int k (k.wrap n)) ?_ (by rw [fastWrap_eq]; rfl)
    simp only [convert, Sem.run_bind, hus, hud, Result.andThen_ok]
    cases ds <;> rfl
  · rename_i hd
    have hud := ok.run_und hd w
    unfold convStrA at hx
    split at hx
    · rename_i k n
      cases hx
      simp only [VR] at hv; subst hv
      refine res_of_val0 h (v := .string (Utf8.encode n)) ?_ ⟨_, rfl, rfl⟩
      simp only [convert, Sem.run_bind, hus, hud, Result.andThen_ok]
      cases ds <;> rfl
    · rename_i l
      cases hx
      obtain ⟨sb, rfl, hl⟩ := hv
      refine res_of_val0 h (v := .string sb) ?_ ⟨_, rfl, hl⟩
      simp only [convert, Sem.run_bind, hus, hud, Result.andThen_ok]
      cases ds <;> rfl
    · split at hx
      case h_2 => cases hx
      rename_i hb
      cases hx
      obtain ⟨e, he1, he2⟩ := bytesOfSl_spec hb
      simp only [VR] at hv; subst hv
      refine res_of_val0 h (v := .string .empty) ?_ ⟨_, rfl, rfl⟩
      rw [run_convert_bytes_string w src dst e _ _ _ (ok.und he1) (ok.und he2) (ok.und hd)]
      rfl
    · rename_i i o n c sz
      split at hx
      · cases hx
      rename_i hb
      simp only [Bool.and_eq_true] at hb
      have hsz : sz = 1 := Nat.eq_of_beq_eq_true hb.2
      subst hsz
      obtain ⟨e, he1, he2⟩ := bytesOfSl_spec hb.1
      obtain ⟨L, ad, c', hL, rfl, h1, h2, h3⟩ := hv
      split at hx
      · cases hx
        refine res_of_val0 h (v := .string .empty) ?_ ⟨_, rfl, rfl⟩
        rw [run_convert_bytes_string w src dst e _ _ _ (ok.und he1) (ok.und he2) (ok.und hd)]
        have := run_bytesToString (P := E.P) w ad 0 c' [] (by simp [loadCells, loadCellsFrom])
        simpa using this
      · rename_i n
        split at hx
        case h_2 => cases hx
        rename_i cs el wr hi
        split at hx
        case h_2 => cases hx
        rename_i l hl
        split at hx
        case h_2 => cases hx
        rename_i rr hrr
        cases hx
        obtain ⟨cc, bt, fr, hcc, _, hvs, hle, hszb, _⟩ := h.block hi hL
        obtain ⟨g1, g2⟩ := sub_eq hl
        obtain ⟨rfl, h4⟩ := h3.resolve_left (by omega)
        have hload := run_loadCells_known (P := E.P) (o := L.sh + o) (n := n + 1) hcc (by omega)
        have hrel : VRs ρ σ l ((cc.toList.drop (L.sh + o)).take (n + 1)) := by
          rw [g1]
          have := (hvs.drop o).take (n + 1)
          rw [take_sub _ _ _ _ g2, List.drop_drop] at this
          exact this
        obtain ⟨e1, e2⟩ := strOf_rel hrr hrel
        rw [e1] at hload
        refine res_of_val0 h (v := .string _) ?_ ⟨_, rfl, str_of_nums e2⟩
        rw [run_convert_bytes_string w src dst e _ _ _ (ok.und he1) (ok.und he2) (ok.und hd)]
        exact run_bytesToString (P := E.P) w _ (n + 1) c' _ hload
    · cases hx
  · rename_i e hd
    have hud := ok.run_und hd w
    unfold convSlA at hx
    split at hx
    case h_2 => cases hx
    rename_i l
    obtain ⟨sb, rfl, hl⟩ := hv
    split at hx
    · rename_i hde
      have hue := ok.run_und hde w
      split at hx
      case h_2 => cases hx
      rename_i i s' hn
      cases hx
      obtain ⟨cp, hcp, hch⟩ := run_choose_cap (P := E.P) (w := w) sb.size 0 e
      -- the block, frozen behind its end
      let C : Array Value := sb.data.map (fun b => .int .u8 b.toNat) ++ Array.replicate (cp - sb.size) (.int .u8 0)
      have hC : C.size = cp := by
        have : sb.data.size = sb.size := rfl
        simp [C, this]; omega
      have k1 : New w (.cells C e) (({ w with drawn := w.drawn + 1 } : World).alloc (.cells C e)) := New.of_same (Same.drew w) (New.alloc _ _)
      have k2 := k1.upd (upd_freeze k1.here C.size 1 (by simp))
      obtain ⟨ρ', hρ, hR, hi⟩ := newCells_ok' h hn (c := C) ⟨sb.data.toList.map (fun b => Value.int .u8 b.toNat), (Array.replicate (cp - sb.size) (Value.int .u8 0)).toList, by simp [C], by rw [← hl]; exact bytesA_rel _⟩ k2 (fun o ho => by simp; omega)
      have hlen : len l = sb.size := by rw [len_eq, ← hl, bytesNat_len]
      refine res_of_val (v := .slice (some ⟨w.heap.size, 0, none⟩) sb.size cp) ?_ (k2.below h.size) hρ hR ⟨_, _, cp, hi, by rw [hlen], by rw [hlen]; exact hcp, by rw [hlen]; exact hcp, .inr ⟨by simp, by simp [hC]⟩⟩
      have hsh : (shape w.heap.size).run E.P (({ w with drawn := w.drawn + 1 } : World).alloc (.cells C e)) = .ok (some (e, C.size)) (({ w with drawn := w.drawn + 1 } : World).alloc (.cells C e)) := by
        rw [run_shape]; congr 1
        unfold World.shape?
        rw [k1.here]
      have hnr : (newRow e C).run E.P ({ w with drawn := w.drawn + 1 } : World) = .ok ⟨w.heap.size, 0, none⟩ (({ w with drawn := w.drawn + 1 } : World).alloc (.cells C e)) := run_newRow e C
      have main : (Conv.stringToBytes e sb).run E.P w = .ok (.slice (some ⟨w.heap.size, 0, none⟩) sb.size cp) ((({ w with drawn := w.drawn + 1 } : World).alloc (.cells C e)).freeze ⟨w.heap.size, C.size, none⟩ 1) := by
        simp only [Conv.stringToBytes, Sem.run_bind, hch, Result.andThen_ok]
        rw [show (newRow e (sb.data.map (fun b => Value.int .u8 b.toNat) ++ Array.replicate (cp - sb.size) (Value.int .u8 0))) = newRow e C from rfl, hnr]
        simp only [Result.andThen_ok, markStringish, Sem.run_bind, hsh, run_freeze, Sem.run_pure]
      simp only [convert, Sem.run_bind, hus, hud, Result.andThen_ok]
      cases ds <;> (simp only [hue, Result.andThen_ok]; exact main)
    · rename_i hde
      have hue := ok.run_und hde w
      split at hx
      case h_2 => cases hx
      rename_i i s' hn
      cases hx
      let X := Conv.runesFrom sb sb.size 0 #[]
      obtain ⟨cp, hcp, hch⟩ := run_choose_cap (P := E.P) (w := w) X.size 0 e
      let C : Array Value := X ++ Array.replicate (cp - X.size) (.int .i32 0)
      have hC : C.size = cp := by simp [C]; omega
      have k1 : New w (.cells C e) (({ w with drawn := w.drawn + 1 } : World).alloc (.cells C e)) := New.of_same (Same.drew w) (New.alloc _ _)
      have hlen : len l = sb.size := by rw [len_eq, ← hl, bytesNat_len]
      have hrel : VRs ρ σ (runesN (len l) l) X.toList := by
        have := runes_rel (ρ := ρ) (σ := σ) sb sb.size 0 [] #[] rfl
        rw [List.nil_append, List.drop_zero, hl] at this
        rw [hlen]; exact this
      obtain ⟨ρ', hρ, hR, hi⟩ := newCells_ok' h hn (c := C) ⟨X.toList, (Array.replicate (cp - X.size) (Value.int .i32 0)).toList, by simp [C], hrel⟩ k1 (fun o ho => by simp)
      have hX : len (runesN (len l) l) = X.size := by rw [len_eq, ← hrel.length]; simp
      refine res_of_val (v := .slice (some ⟨w.heap.size, 0, none⟩) X.size cp) ?_ (k1.below h.size) hρ hR ⟨_, _, cp, hi, by rw [hX], by rw [hX]; exact hcp, by rw [hX]; exact hcp, .inr ⟨by simp, by simp [hC]⟩⟩
      have hnr : (newRow e C).run E.P ({ w with drawn := w.drawn + 1 } : World) = .ok ⟨w.heap.size, 0, none⟩ (({ w with drawn := w.drawn + 1 } : World).alloc (.cells C e)) := run_newRow e C
      have main : (Conv.stringToRunes e sb).run E.P w = .ok (.slice (some ⟨w.heap.size, 0, none⟩) X.size cp) (({ w with drawn := w.drawn + 1 } : World).alloc (.cells C e)) := by
        unfold Conv.stringToRunes
        simp only [Sem.run_bind]
        rw [show (choose (.appendCap (Conv.runesFrom sb sb.size 0 #[]).size 0 e)).run E.P w = _ from hch]
        simp only [Result.andThen_ok]
        rw [show (newRow e (Conv.runesFrom sb sb.size 0 #[] ++ Array.replicate (cp - (Conv.runesFrom sb sb.size 0 #[]).size) (Value.int .i32 0))) = newRow e C from rfl, hnr]
        rfl
      simp only [convert, Sem.run_bind, hus, hud, Result.andThen_ok]
      cases ds <;> (simp only [hue, Result.andThen_ok]; exact main)
    · cases hx
  · rename_i hd
    have hud := ok.run_und hd w
    unfold convUnA at hx
    split at hx
    case h_2 => cases hx
    rename_i i o
    split at hx
    case h_2 => cases hx
    rename_i t hst
    split at hx
    case h_2 => cases hx
    rename_i z hsz
    split at hx
    case h_2 => cases hx
    rename_i cs el wr hi
    split at hx
    case h_2 => cases hx
    rename_i hlt
    cases hx
    rw [blt_iff, len_eq] at hlt
    have hlt : o < cs.length := by simpa using hlt
    obtain ⟨L, hL, rfl⟩ := hv
    obtain ⟨cc, bt, fr, hcc, _, hvs, hle, hszb, _⟩ := h.block hi hL
    refine res_of_val0 h (v := .pointer (some ⟨L.blk, L.sh + o, none⟩)) ?_ ⟨L, hL, rfl⟩
    have hshape : w.shape? L.blk = some (bt, cc.size) := by unfold World.shape?; rw [hcc]
    have hs' : und E src = some (.pointer t) := hst
    have hus' := ok.run_und hst w
    have hs1 : (sizeOf t).run E.P w = .ok (z + 1) w := ok.run_sz hsz w
    have hno : ¬ (L.sh + o ≥ cc.size) := by omega
    have hseen : (Conv.seenAt ⟨L.blk, L.sh + o, none⟩).run E.P w = .ok ⟨L.blk, L.sh + o, none⟩ w := by
      simp [Conv.seenAt, viewAt, hshape]
    have hcin : (cellsIn L.blk).run E.P w = .ok (some cc.size) w := by simp [cellsIn, hshape]
    have main : (Conv.unsafePointer src dst (.pointer (some ⟨L.blk, L.sh + o, none⟩))).run E.P w = .ok (.pointer (some ⟨L.blk, L.sh + o, none⟩)) w := by
      simp only [Conv.unsafePointer, Sem.run_bind, hus', hud, Result.andThen_ok, hseen, hcin, hs1]
      simp [hno]
    rw [hst] at hs; cases hs
    simp only [convert, Sem.run_bind, hus, hud, Result.andThen_ok]
    exact main
  · rename_i u hd
    have hud := ok.run_und hd w
    unfold convPtrA at hx
    split at hx
    case h_2 => cases hx
    rename_i i o
    split at hx
    case h_2 => cases hx
    rename_i hst
    split at hx
    case h_2 => cases hx
    rename_i z hsz
    split at hx
    case h_2 => cases hx
    rename_i cs el wr hi
    split at hx
    case h_2 => cases hx
    rename_i hc
    cases hx
    simp only [Bool.and_eq_true] at hc
    obtain ⟨⟨⟨hc1, hc2⟩, hc3⟩, hc4⟩ := hc
    have hc1 : el = u := Nat.eq_of_beq_eq_true hc1
    have hc3 : o = 0 := Nat.eq_of_beq_eq_true hc3
    have hc4 : cs.length = z + 1 := by rw [← len_eq]; exact Nat.eq_of_beq_eq_true hc4
    subst hc1; subst hc3
    obtain ⟨L, hL, rfl⟩ := hv
    obtain ⟨cc, bt, fr, hcc, hbt, hvs, hle, hszb, _⟩ := h.block hi hL
    have hel := elOf_head hc2
    rw [blt_iff] at hc2
    have hc2 : el < 1000000 := by simpa using hc2
    have hbt' : bt = el := (hbt (Nat.ne_of_lt (Nat.lt_trans hc2 (by decide : 1000000 < unkT)))).trans hel
    have hsh0 : L.sh = 0 := h.head hi hL (by unfold tailN; exact hc2)
    refine res_of_val0 h (v := .pointer (some ⟨L.blk, L.sh + 0, none⟩)) ?_ ⟨L, hL, rfl⟩
    rw [hsh0]
    have hshape : w.shape? L.blk = some (el, cc.size) := by unfold World.shape?; rw [hcc, hbt']
    have hus' := ok.run_und hst w
    have hs1 : (sizeOf el).run E.P w = .ok (z + 1) w := ok.run_sz hsz w
    have hcells : E.P.cellsOf el = z + 1 := by
      obtain ⟨i, hi, hs⟩ := ok.sz hsz
      simp [Program.cellsOf, hi, hs]
    have hseen : (Conv.seenAt ⟨L.blk, 0 + 0, none⟩).run E.P w = .ok ⟨L.blk, 0 + 0, none⟩ w := by
      simp [Conv.seenAt, viewAt, hshape]
    have hvar : (variablesAt ⟨L.blk, 0 + 0, none⟩ el 1).run E.P w = .ok true w := by
      have hdep : ∃ d, E.P.depth = d + 1 := ⟨_, rfl⟩
      obtain ⟨d, hd'⟩ := hdep
      have hq : 1 ≤ cc.size / (z + 1) := by rw [Nat.le_div_iff_mul_le (by omega)]; omega
      have : liesAt E.P E.P.depth el (cc.size / (z + 1)) 0 el 1 = true := by
        rw [hd']
        unfold liesAt
        rw [hd']
        unfold rowAt
        have hsl : sameLayout E.P (d + 1) el el = true := by unfold sameLayout; simp
        have h1 : (decide (1 ≤ cc.size / (z + 1))) = true := by simpa using hq
        simp [hcells, hsl, hq]
      simp [variablesAt, hshape, hcells, this]
    have main : (Conv.unsafePointer src dst (.pointer (some ⟨L.blk, 0 + 0, none⟩))).run E.P w = .ok (.pointer (some ⟨L.blk, 0 + 0, none⟩)) w := by
      simp only [Conv.unsafePointer, Sem.run_bind, hus', hud, Result.andThen_ok, hseen, hs1, hvar]
      simp
    rw [hst] at hs; cases hs
    simp only [convert, Sem.run_bind, hus, hud, Result.andThen_ok]
    exact main
  · cases hx
end
end Go.Eng

/-! The engine's operations are the machine's: append, copy, len and their like. No condition. -/
namespace Go.Eng
open Go.RowKit

section
variable {E : Env} {B : Base} {ρ ρ' : Rho} {σ : Nat → Value} {s s' : St} {w w' : World} {tm : T AV} {ev : Operand → Value} {r : Res}

theorem srcCells_ok {P : Program} (h : R B ρ σ s w) {size n : Nat} {y : AV} {new : List AV} (hx : srcCells s size y = some (n, new)) {v : Value} (hv : VR ρ σ y v) :
    ∃ vs, VRs ρ σ new vs ∧ vs.length = n * size ∧ (Builtin.lenOf v).run P w = .ok n w ∧ ∀ m, m ≤ n → ∀ k, (Builtin.firstCells size m v).run P { w with drawn := w.drawn + k } = .ok (vs.take (m * size)).toArray { w with drawn := w.drawn + k } := by
  unfold srcCells at hx
  split at hx
  · simp at hx
    obtain ⟨rfl, rfl⟩ := hx
    simp only [VR] at hv; subst hv
    refine ⟨[], rfl, by simp, rfl, fun m hm k => ?_⟩
    simp [Builtin.firstCells]
  · rename_i l
    split at hx
    case h_2 => cases hx
    rename_i h1
    have h1 : size = 1 := Nat.eq_of_beq_eq_true h1
    subst h1
    simp at hx
    obtain ⟨rfl, rfl⟩ := hx
    obtain ⟨sb, rfl, rfl⟩ := hv
    refine ⟨sb.data.toList.map (fun b => Value.int .u8 b.toNat), bytesA_rel _, by simp [len_eq, bytesNat], by simp [Builtin.lenOf, len_eq, bytesNat_len], fun m hm k => ?_⟩
    rw [len_eq, bytesNat_len] at hm
    simp only [Builtin.firstCells, Sem.run_pure, Nat.mul_one]
    congr 1
    apply Array.toList_inj.1
    rw [Array.toList_map, ByteArray.data_extract, Array.toList_extract, List.extract_eq_take_drop, ← List.map_take]
    simp
  · rename_i i o n' c sz
    split at hx
    case h_2 => cases hx
    rename_i h1
    have h1 : sz = size := Nat.eq_of_beq_eq_true h1
    subst h1
    obtain ⟨L, ad, c', hL, rfl, g1, g2, g3⟩ := hv
    split at hx
    · simp at hx
      obtain ⟨rfl, rfl⟩ := hx
      refine ⟨[], rfl, by simp, rfl, fun m hm k => ?_⟩
      have : m = 0 := by omega
      subst this
      simp [Builtin.firstCells, loadCells, loadCellsFrom]
    · rename_i hn0
      split at hx
      case h_2 => cases hx
      rename_i cs el wr hi
      split at hx
      case h_2 => cases hx
      rename_i l hl
      simp at hx
      obtain ⟨rfl, rfl⟩ := hx
      obtain ⟨cc, bt, fr, hcc, _, hvs, hle, hszb, _⟩ := h.block hi hL
      obtain ⟨e1, e2⟩ := sub_eq hl
      have hpos : n' ≠ 0 := fun e => hn0 (by rw [e])
      obtain ⟨rfl, h4⟩ := g3.resolve_left (by omega)
      have hrel : VRs ρ σ l ((cc.toList.drop (L.sh + o)).take (n' * sz)) := by
        rw [e1]
        have := (hvs.drop o).take (n' * sz)
        rw [take_sub _ _ _ _ e2, List.drop_drop] at this
        exact this
      refine ⟨_, hrel, by simp; omega, rfl, fun m hm k => ?_⟩
      have hms : m * sz ≤ n' * sz := Nat.mul_le_mul_right _ hm
      simp only [Builtin.firstCells]
      rw [List.take_take, Nat.min_eq_left hms]
      exact run_loadCells_known (P := P) (w := { w with drawn := w.drawn + k }) (g := L.blk) (o := L.sh + o) (n := m * sz) hcc (by omega)
  · cases hx

theorem zeroCells_size (z : Array Value) (n : Nat) : (Builtin.zeroCells z n).size = n * z.size := by simp [Builtin.zeroCells]

/-- What an append asks for of the types and of what is appended. -/
structure AppIn (P : Program) (t u e : TypeId) (size bytes : Nat) (z : Value) (vy : Value) (n : Nat) (vs : List Value) (w : World) : Prop where
  und : P.underlying t = some (.slice e)
  notInt : ∃ d, P.underlying u = some d ∧ ∀ k, d ≠ .int k
  info : ∃ i, P.info? e = some i ∧ i.size = size ∧ i.bytes = bytes ∧ i.zero = some z
  zs : z.cells.size = size
  pos : 0 < size
  vl : vs.length = n * size
  len : (Builtin.lenOf vy).run P w = .ok n w
  first : ∀ k, (Builtin.firstCells size n vy).run P { w with drawn := w.drawn + k } = .ok vs.toArray { w with drawn := w.drawn + k }

theorem append_room {P : Program} {t u e ty : TypeId} {size bytes n : Nat} {z vy : Value} {vs : List Value} (a : AppIn P t u e size bytes z vy n vs w) {base : Option Addr} {l c : Nat} (hroom : l + n ≤ c) :
    (Builtin.append_ #[t, u] ty #[.slice base l c, vy]).run P w =
      ((match base with | some ad => storeCells (ad.add (l * size)) vs | none => pure () : Sem Unit).run P w).andThen fun _ w' => .ok (.slice base (l + n) c) w' := by
  obtain ⟨i, hi, hs, hb, hz⟩ := a.info
  obtain ⟨d, hd, hn⟩ := a.notInt
  have hf := a.first 0
  simp only [Nat.add_zero] at hf
  have hsz : (sizeOf e).run P w = .ok size w := by simp [sizeOf, typeInfo, hi, hs]
  have hu : (underlying t).run P w = .ok (.slice e) w := by simp [underlying, a.und]
  have hu2 : (underlying u).run P w = .ok d w := by simp [underlying, hd]
  have hm : (d matches .int _) = false := by cases d <;> first | rfl | exact absurd rfl (hn _)
  cases base with
  | none => simp [Builtin.append_, hu, hu2, hsz, a.len, hroom, hf]
  | some ad => simp [Builtin.append_, hu, hu2, hsz, a.len, hroom, hf]

theorem append_grow {P : Program} {t u e ty : TypeId} {size bytes n : Nat} {z vy : Value} {vs : List Value} (a : AppIn P t u e size bytes z vy n vs w) {base : Option Addr} {l c : Nat} (hroom : c < l + n)
    (hfit : (l + n) * bytes ≤ 140737488355328) (hmax : l + n ≤ 9223372036854775807) {old : List Value} (hold : ∀ k, (Builtin.firstCells size l (.slice base l c)).run P { w with drawn := w.drawn + k } = .ok old.toArray { w with drawn := w.drawn + k }) :
    ∃ cp w', l + n ≤ cp ∧ (Builtin.append_ #[t, u] ty #[.slice base l c, vy]).run P w = .ok (.slice (some ⟨w.heap.size, 0, none⟩) (l + n) cp) w' ∧
      ∃ rest : List Value, rest.length = (cp - (l + n)) * size ∧ New w (.cells (old ++ vs ++ rest).toArray e) w' := by
  obtain ⟨i, hi, hs, hb, hz⟩ := a.info
  obtain ⟨d, hd, hn⟩ := a.notInt
  have hf := a.first 1
  have ho := hold 1
  have hsz : (sizeOf e).run P w = .ok size w := by simp [sizeOf, typeInfo, hi, hs]
  have hu : (underlying t).run P w = .ok (.slice e) w := by simp [underlying, a.und]
  have hu2 : (underlying u).run P w = .ok d w := by simp [underlying, hd]
  have hti : ∀ w, (typeInfo e).run P w = .ok i w := fun w => by simp [typeInfo, hi]
  have hzr : ∀ w, (zeroValue e).run P w = .ok z w := fun w => by simp [zeroValue, typeInfo, hi, hz]
  obtain ⟨cp, hcp, hch⟩ := run_choose_cap (P := P) (w := w) (l + n) c e
  have hg := growslice_fits (bytes := i.bytes) hroom (by rw [hb]; exact hfit)
  have hbig : ¬ (Builtin.nextslicecap (l + n) c * i.bytes > 2 ^ 48) := by omega
  have hmx : ¬ (((l + n : Nat) : Int) > IntKind.i64.max ∧ (False ∨ i.bytes = 0)) := by
    simp [IntKind.max, IntKind.signed, IntKind.bits]; omega
  refine ⟨cp, _, hcp, ?_, (Builtin.zeroCells z.cells (cp - (l + n))).toList, by rw [Array.length_toList, zeroCells_size, a.zs], New.of_same (Same.drew w) (New.alloc _ _)⟩
  have hnr := fun C => run_newRow (P := P) (w := ({ w with drawn := w.drawn + 1 } : World)) e C
  have hnot : ¬ l + n ≤ c := by omega
  simp only [Builtin.append_, List.getElem?_toArray, List.getElem?_cons_zero, List.getElem?_cons_succ, Sem.run_bind, hu, hu2, hsz, a.len, Result.andThen_ok, Sem.run_pure, hnot, if_false, Bool.false_eq_true]
  simp only [hti, Result.andThen_ok]
  rw [if_neg hmx]
  simp only [Sem.run_bind, hti, Result.andThen_ok]
  rw [if_neg hbig]
  simp only [Sem.run_bind, hch, Result.andThen_ok, hti, run_askRoom, ho, Bool.not_false, if_true, hf, hzr, hnr, Sem.run_pure]
  have e1 : (old.toArray ++ vs.toArray ++ Builtin.zeroCells z.cells (cp - (l + n))) = (old ++ vs ++ (Builtin.zeroCells z.cells (cp - (l + n))).toList).toArray := by
    apply Array.toList_inj.1; simp
  rw [e1]

variable (ok : EnvOK E) (h : R B ρ σ s w)

theorem isEl_spec {el e : TypeId} (h : isEl el e = true) : elOf el = e ∧ el ≠ unkT := by
  unfold isEl at h
  split at h
  · rename_i hb
    have : el = e := Nat.eq_of_beq_eq_true hb
    subst this
    have hlt := h
    rw [blt_iff] at hlt
    have hlt : el < 1000000 := by simpa using hlt
    exact ⟨elOf_head h, Nat.ne_of_lt (Nat.lt_trans hlt (by decide : 1000000 < unkT))⟩
  · simp only [Bool.and_eq_true] at h
    have : el = e + 1000000 := Nat.eq_of_beq_eq_true h.1
    have hlt := h.2
    rw [blt_iff] at hlt
    have hlt : e < 1000000 := by simpa using hlt
    refine ⟨?_, fun e' => absurd (this.symm.trans e') (Nat.ne_of_lt (Nat.lt_trans (Nat.add_lt_add_right hlt 1000000) (by decide : 1000000 + 1000000 < unkT)))⟩
    unfold elOf tailN
    rw [this]
    have h1 : ¬ (e + 1000000 < 1000000) := Nat.not_lt.2 (Nat.le_add_left _ _)
    rw [if_neg h1]
    exact Nat.add_sub_cancel ..
theorem elOf_tail (e : TypeId) : elOf (e + 1000000) = e := by
  unfold elOf tailN
  have h1 : ¬ (e + 1000000 < 1000000) := Nat.not_lt.2 (Nat.le_add_left _ _)
  rw [if_neg h1]
  exact Nat.add_sub_cancel ..

include ok h in
theorem appendA_ok {t u ty : TypeId} {x y : AV} (hx : appendA E s t u x y = some r) {vx vy : Value} (hvx : VR ρ σ x vx) (hvy : VR ρ σ y vy) :
    ResOK B ρ σ r w ((do pure (.value (← Builtin.append_ #[t, u] ty #[vx, vy])) : Sem Next).run E.P w) := by
  unfold appendA at hx
  split at hx
  · cases hx
  · cases hx
  case h_4 => cases hx
  rename_i e d1 hni _ hd0 hd1
  split at hx
  · cases hx
  rename_i ti hti
  split at hx
  · cases hx
  · cases hx
  rename_i z hz0 hszne
  split at hx
  · cases hx
  rename_i hzsz
  have hzsz : z.cells.size = ti.size := Nat.eq_of_beq_eq_true hzsz
  split at hx
  · cases hx
  rename_i n new hsrc
  split at hx
  · cases hx
  rename_i hone
  obtain ⟨inf, hinf, hisz, hiby, hiz, _⟩ := ok.ty e ti hti
  have hpos : 0 < ti.size := Nat.pos_of_ne_zero fun e' => hszne e'
  obtain ⟨vs, hvs, hvl, hlen, hfirst⟩ := srcCells_ok (P := E.P) h hsrc hvy
  have hin : AppIn E.P t u e ti.size ti.bytes z vy n vs w := by
    refine ⟨ok.und hd0, ⟨d1, ok.und hd1, fun k e' => hni k e'⟩, ⟨inf, hinf, hisz, hiby, hiz.trans hz0⟩, hzsz, hpos, hvl, hlen, fun k => ?_⟩
    have h1 := hfirst n (Nat.le_refl _) k
    rw [List.take_of_length_le (by omega)] at h1
    exact h1
  split at hx
  · -- a nil slice
    simp only [VR] at hvx; subst hvx
    split at hx
    · cases hx
      refine res_of_val0 h (v := .slice none 0 0) ?_ rfl
      rw [append_room hin (by omega)]
      rfl
    · rename_i hn0
      split at hx
      case h_2 => cases hx
      rename_i hc
      split at hx
      case h_2 => cases hx
      rename_i i s' hn
      cases hx
      simp only [Bool.and_eq_true] at hc
      have hc1 := Nat.le_of_ble_eq_true hc.1
      have hc2 := Nat.le_of_ble_eq_true hc.2
      unfold maxAppend at hc1
      unfold maxStr at hc2
      have hnpos : 0 < n := Nat.pos_of_ne_zero fun e' => hn0 e'
      obtain ⟨cp, w', hcp, hrun, rest, hrest, hnew⟩ := append_grow (ty := ty) hin (base := none) (l := 0) (c := 0) (by omega) (by simpa using hc1) (by omega) (old := []) (fun k => by simp [Builtin.firstCells])
      simp only [Nat.zero_add, List.nil_append] at hcp hrun hrest hnew
      obtain ⟨ρ', hρ, hR, hi⟩ := newCells_ok' h hn (c := (vs ++ rest).toArray) ⟨vs, rest, by simp, hvs⟩ hnew (fun o ho => by simp)
      refine res_of_val (v := .slice (some ⟨w.heap.size, 0, none⟩) n cp) hrun (hnew.below h.size) hρ hR ⟨_, _, cp, hi, rfl, hcp, hcp, .inr ⟨by simp, ?_⟩⟩
      simp only [Nat.zero_add, List.size_toArray, List.length_append, hvl, hrest, ← Nat.add_mul]
      apply Nat.mul_le_mul_right
      omega
  · rename_i i o l c sz
    split at hx
    · cases hx
    rename_i hsz
    have hsz : sz = ti.size := Nat.eq_of_beq_eq_true hsz
    subst hsz
    obtain ⟨L, ad, c', hL, rfl, g1, g2, g3⟩ := hvx
    split at hx
    · cases hx
      refine res_of_val0 h (v := .slice (some ad) l c') ?_ ⟨L, ad, c', hL, rfl, g1, g2, g3⟩
      rw [append_room hin (by omega)]
      have : vs = [] := List.eq_nil_of_length_eq_zero (by rw [hvl]; simp)
      subst this
      simp [storeCells]
    · rename_i hn0
      have hnpos : 0 < n := Nat.pos_of_ne_zero fun e' => hn0 e'
      split at hx
      case h_2 => cases hx
      rename_i cs el hi
      split at hx
      · cases hx
      rename_i hc
      simp only [Bool.and_eq_true] at hc
      obtain ⟨⟨hc0, hc1⟩, hc2⟩ := hc
      have hel := isEl_spec hc0
      have hc1 := Nat.le_of_ble_eq_true hc1
      have hc2 := Nat.le_of_ble_eq_true hc2
      unfold maxAppend at hc1
      unfold maxStr at hc2
      split at hx
      · cases hx
      rename_i cs' hdr
      obtain ⟨hcs', hole⟩ := dropN_eq _ _ _ hdr
      obtain ⟨cc, bt, fr, hcc, hbt, hrel, hle, hszb, hfr⟩ := h.block hi hL
      rw [(hbt hel.2).trans hel.1] at hcc
      have hg := h.gN_le hi (by simp) (by simp)
      have hbel := h.own i _ L hi hL hg
      have hlt := lt_of_get hcc
      split at hx
      · -- at the end of what is known
        rename_i hend
        have hend : cs'.length = l * ti.size := by rw [← len_eq]; exact Nat.eq_of_beq_eq_true hend
        split at hx
        case h_2 => cases hx
        rename_i j s' hn
        cases hx
        have hrel' : VRs ρ σ cs' ((cc.toList.drop (L.sh + o)).take (l * ti.size)) := by
          rw [hcs']
          have := hrel.drop o
          rw [List.drop_take, List.drop_drop] at this
          have e1 : cs.length - o = l * ti.size := by rw [← hend, hcs', List.length_drop]
          rw [e1] at this
          exact this
        have hol : o + l * ti.size = cs.length := by rw [← hend, hcs', List.length_drop]; omega
        by_cases hroom : l + n ≤ c'
        · -- in its place
          obtain ⟨rfl, h4⟩ := g3.resolve_left (by omega)
          have hspace : L.sh + o + (l + n) * ti.size ≤ cc.size := by
            have : (l + n) * ti.size ≤ c' * ti.size := Nat.mul_le_mul_right _ hroom
            omega
          have hspl : (l + n) * ti.size = l * ti.size + n * ti.size := Nat.add_mul ..
          obtain ⟨w', c2, hst, hupd, hc2', hc2s⟩ := run_storeCells_known (P := E.P) (g := L.blk) (o := L.sh + o + l * ti.size) vs 0 cc w hcc (hfr rfl) (by omega) (allOne_spec hone hvs)
          have hdel := h.del (i := i) (h.lt_most hi) (h.noV hL)
          -- what the others hold is as it was
          have hR1 : R B ρ σ (s.del i) w' := by
            refine ⟨hdel.fresh, hdel.base, hdel.most, fun k b hk => ?_, hdel.virt, hdel.inj, hdel.own, hdel.glob, hdel.vars, by rw [hupd.size]; exact hdel.size, hdel.nd⟩
            rcases hdel.live k b hk with hvk | ⟨M, ob, hM, hob, hbo⟩
            · exact .inl hvk
            right
            rw [St.get_del _ _ (h.lt_most hi)] at hk
            have hki : i ≠ k := fun e' => by simp [e'] at hk
            rw [if_neg hki] at hk
            exact ⟨M, ob, hM, by rw [hupd.other M.blk (fun e' => h.inj i k _ _ L M hg hi hk hki hL hM e'.symm)]; exact hob, hbo⟩
          let L' : Loc := ⟨L.blk, L.sh + o, L.ext - o⟩
          have hx' : Ext ρ (ρ.set j L') := Rho.ext_set (hR1.fresh _ (by rw [(St.new_eq hn).1]; exact Nat.le_refl _))
          obtain ⟨h5, h6⟩ := hR1.name (L := L') (ob := .cells c2 e fr) hn hupd.here hbel (fun k b M hk hM => by
            rw [St.get_del _ _ (h.lt_most hi)] at hk
            have hki : i ≠ k := fun e' => by simp [e'] at hk
            rw [if_neg hki] at hk
            exact fun e' => h.inj i k _ _ L M hg hi hk hki hL hM e'.symm) (by
              refine ⟨c2, e, fr, rfl, fun _ => (elOf_tail e).symm, fun e' => absurd e' (by unfold tailN; exact Nat.not_lt.2 (Nat.le_add_left _ _)), ?_, ?_, ?_, fun _ => by rw [hc2s]; exact hfr rfl⟩
              · have e2 : (c2.toList.drop (L.sh + o)).take (cs' ++ new).length = (cc.toList.drop (L.sh + o)).take (l * ti.size) ++ vs := by
                  have hA : (cc.toList.take (L.sh + o + l * ti.size)).drop (L.sh + o) = (cc.toList.drop (L.sh + o)).take (l * ti.size) := by
                    rw [List.drop_take]; congr 1; omega
                  have l1 : (cc.toList.take (L.sh + o + l * ti.size)).length = L.sh + o + l * ti.size := by simp; omega
                  rw [hc2', Nat.add_zero, List.append_assoc, List.drop_append_of_le_length (by omega), hA]
                  have l2 : (cs' ++ new).length = ((cc.toList.drop (L.sh + o)).take (l * ti.size) ++ vs).length := by
                    rw [List.length_append, List.length_append, hrel'.length, hvs.length]
                  rw [← List.append_assoc, l2, List.take_left']
                  rfl
                show VRs (ρ.set j L') σ (cs' ++ new) ((c2.toList.drop (L.sh + o)).take (cs' ++ new).length)
                rw [e2]
                exact (hrel'.ext hx' _ _).append (hvs.ext hx' _ _)
              · show (cs' ++ new).length ≤ L.ext - o
                rw [List.length_append, hend, ← hvs.length, hvl]
                have : (l + n) * ti.size ≤ c' * ti.size := Nat.mul_le_mul_right _ hroom
                omega
              · show L.sh + o + (L.ext - o) ≤ c2.size
                rw [hc2s]; omega)
          refine res_of_val (v := .slice (some ⟨L.blk, L.sh + o, none⟩) (l + n) c') ?_ (hupd.below hbel) h5 h6 ⟨L', _, c', Rho.set_same _ _ _, rfl, hroom, hroom, .inr ⟨rfl, ?_⟩⟩
          · rw [append_room hin hroom]
            simp only [addr_add, hst, Result.andThen_ok]
          · show 0 + c' * ti.size ≤ L.ext - o
            omega
        · -- in a new row
          have hold : ∀ k, (Builtin.firstCells ti.size l (.slice (some ad) l c')).run E.P { w with drawn := w.drawn + k } = .ok ((cc.toList.drop (L.sh + o)).take (l * ti.size)).toArray { w with drawn := w.drawn + k } := by
            intro k
            simp only [Builtin.firstCells]
            by_cases hc0 : c' = 0
            · have : l = 0 := by omega
              subst this
              simp [loadCells, loadCellsFrom]
            · obtain ⟨rfl, h4⟩ := g3.resolve_left hc0
              have : l * ti.size ≤ c' * ti.size := Nat.mul_le_mul_right _ g1
              exact run_loadCells_known (P := E.P) (w := { w with drawn := w.drawn + k }) (g := L.blk) (o := L.sh + o) (n := l * ti.size) hcc (by omega)
          obtain ⟨cp, w', hcp, hrun, rest, hrest, hnew⟩ := append_grow (ty := ty) hin (base := some ad) (l := l) (c := c') (by omega) hc1 hc2 hold
          have hdel := h.del (i := i) (h.lt_most hi) (h.noV hL)
          have hl1 := hrel'.length
          obtain ⟨ρ', hρ, hR, hj⟩ := hdel.new (e := ((cc.toList.drop (L.sh + o)).take (l * ti.size) ++ vs ++ rest).toArray.size) hn hnew
            ⟨_, e, (0, 0), rfl, fun _ => (elOf_tail e).symm, fun e' => absurd e' (by unfold tailN; exact Nat.not_lt.2 (Nat.le_add_left _ _)), by
              rw [List.drop_zero]
              have : (cs' ++ new).length = ((cc.toList.drop (L.sh + o)).take (l * ti.size) ++ vs).length := by rw [List.length_append, List.length_append, hl1, hvs.length]
              rw [this, List.take_left']
              · exact hrel'.append hvs
              · rfl, by
              show (cs' ++ new).length ≤ _
              simp only [List.size_toArray, List.length_append, hl1, hvs.length]
              omega, by simp, fun _ o' _ => by simp⟩
          refine res_of_val (v := .slice (some ⟨w.heap.size, 0, none⟩) (l + n) cp) hrun (hnew.below h.size) hρ hR ⟨_, _, cp, hj, rfl, hcp, hcp, .inr ⟨by simp, ?_⟩⟩
          simp only [Nat.zero_add, List.size_toArray, List.length_append, hl1, hend, hvl, hrest, ← Nat.add_mul]
          apply Nat.mul_le_mul_right
          omega
      · -- over what is known
        split at hx
        case h_2 => cases hx
        rename_i hcap
        have hcap := Nat.le_of_ble_eq_true hcap
        split at hx
        case h_2 => cases hx
        rename_i cs2 hov
        cases hx
        have hroom : l + n ≤ c' := by omega
        obtain ⟨rfl, h4⟩ := g3.resolve_left (by omega)
        obtain ⟨h7, h8, h9⟩ := splice_rel (sh := L.sh) (C := cc.toList) hrel hov hvs (by simp; omega)
        obtain ⟨w', c2, hst, hupd, hc2', hc2s⟩ := run_storeCells_known (P := E.P) (g := L.blk) (o := L.sh + o + l * ti.size) vs 0 cc w hcc (hfr rfl) (by omega) (allOne_spec hone hvs)
        refine res_of_val (v := .slice (some ⟨L.blk, L.sh + o, none⟩) (l + n) c') ?_ (hupd.below hbel) (Ext.refl _) (h.upd hi hL hg hupd ⟨c2, e, fr, rfl, fun _ => hel.1.symm, fun e' => h.head hi hL e', ?_, by omega, by omega, fun _ => by rw [hc2s]; exact hfr rfl⟩) ⟨L, _, c', hL, rfl, hroom, by omega, .inr ⟨rfl, h4⟩⟩
        · rw [append_room hin hroom]
          simp only [addr_add, hst, Result.andThen_ok]
        · rw [hc2', Nat.add_zero]
          have e3 : L.sh + o + l * ti.size = L.sh + (o + l * ti.size) := by omega
          rw [e3]
          exact h7
  · cases hx
end
end Go.Eng

/-! The engine's operations are the machine's: the other builtins, calls. No condition. -/
namespace Go.Eng
open Go.RowKit

section
variable {E : Env} {B : Base} {ρ ρ' : Rho} {σ : Nat → Value} {s s' : St} {w w' : World} {tm : T AV} {ev : Operand → Value} {r : Res}
variable (ok : EnvOK E) (h : R B ρ σ s w)

include ok h in
theorem copyA_ok {t u ty : TypeId} {x y : AV} (hx : copyA E s t x y = some r) {vx vy : Value} (hvx : VR ρ σ x vx) (hvy : VR ρ σ y vy) :
    ResOK B ρ σ r w ((do pure (.value (← Builtin.copy_ #[t, u] ty #[vx, vy])) : Sem Next).run E.P w) := by
  unfold copyA at hx
  split at hx
  case h_2 => cases hx
  rename_i e hd
  split at hx
  · cases hx
  rename_i size hsz
  split at hx
  · cases hx
  rename_i n new hsrc
  have hu := ok.run_und hd w
  have hs := ok.run_sz hsz w
  obtain ⟨vs, hvs, hvl, hlen, hfirst⟩ := srcCells_ok (P := E.P) h hsrc hvy
  split at hx
  · cases hx
    simp only [VR] at hvx; subst hvx
    have hf := hfirst 0 (by omega) 0
    refine res_of_val0 h (v := .int .i64 0) ?_ rfl
    have hf' : (Builtin.firstCells size 0 vy).run E.P w = .ok #[] w := by simpa using hf
    simp [Builtin.copy_, hu, hlen, hs, hf', goInt]
  · rename_i i o l c sz
    split at hx
    · cases hx
    rename_i hszz
    have hszz : sz = size := Nat.eq_of_beq_eq_true hszz
    subst hszz
    obtain ⟨L, ad, c', hL, rfl, g1, g2, g3⟩ := hvx
    split at hx
    · rename_i hm
      cases hx
      have hf := hfirst 0 (by omega) 0
      have hf' : (Builtin.firstCells sz 0 vy).run E.P w = .ok #[] w := by simpa using hf
      have hm' : Nat.min n l = 0 := hm
      refine res_of_val0 h (v := .int .i64 0) ?_ rfl
      simp [Builtin.copy_, hu, hlen, hs, hm', hf', goInt, storeCells]
    · rename_i hm
      split at hx
      case h_2 => cases hx
      rename_i va cs el htk hi
      split at hx
      case h_2 => cases hx
      rename_i hone
      split at hx
      case h_2 => cases hx
      rename_i cs' hov
      cases hx
      have hmn : min n l ≤ n := Nat.min_le_left _ _
      have hml : min n l ≤ l := Nat.min_le_right _ _
      have hmpos : min n l ≠ 0 := fun e' => hm e'
      have hf := hfirst (min n l) hmn 0
      obtain ⟨t1, t2⟩ := takeN_eq _ _ _ htk
      have hva : VRs ρ σ va (vs.take (min n l * sz)) := by rw [t1]; exact hvs.take _
      obtain ⟨rfl, h4⟩ := g3.resolve_left (by omega)
      obtain ⟨cc, bt, fr, hcc, hbt, hrel, hle, hszb, hfr⟩ := h.block hi hL
      have hg := h.gN_le hi (by simp) (by simp)
      obtain ⟨h7, h8, h9⟩ := splice_rel (sh := L.sh) (C := cc.toList) hrel hov hva (by simp; omega)
      obtain ⟨w', c2, hst, hupd, hc2', hc2s⟩ := run_storeCells_known (P := E.P) (g := L.blk) (o := L.sh + o) (vs.take (min n l * sz)) 0 cc w hcc (hfr rfl) (by omega) (allOne_spec hone hva)
      refine res_of_val (v := goInt (min n l : Nat)) ?_ (hupd.below (h.own i _ L hi hL hg)) (Ext.refl _) (h.upd hi hL hg hupd ⟨c2, bt, fr, rfl, hbt, fun e' => h.head hi hL e', ?_, by omega, by omega, fun _ => by rw [hc2s]; exact hfr rfl⟩) rfl
      · have hf' : (Builtin.firstCells sz (Nat.min n l) vy).run E.P w = .ok (vs.take (min n l * sz)).toArray w := by simpa using hf
        simp [Builtin.copy_, hu, hlen, hs, hf', hst]
      · rw [hc2', Nat.add_zero]
        exact h7
  · cases hx

include ok h in
theorem lenA_ok {t : TypeId} {ts : List TypeId} {ty : TypeId} {x a : AV} (hx : lenA E s t x = some a) {v : Value} (hv : VR ρ σ x v) : ∃ u, (Builtin.len_ (t :: ts).toArray ty #[v]).run E.P w = .ok u w ∧ VR ρ σ a u := by
  unfold lenA at hx
  split at hx
  · rename_i l hd
    cases hx
    have hu := ok.run_und hd w
    obtain ⟨sb, rfl, rfl⟩ := hv
    exact ⟨goInt sb.size, by simp [Builtin.len_, hu], by rw [len_eq, bytesNat_len]; rfl⟩
  · rename_i n e hd
    cases hx
    have hu := ok.run_und hd w
    exact ⟨goInt n, by simp [Builtin.len_, hu], rfl⟩
  · rename_i e hd
    cases hx
    have hu := ok.run_und hd w
    simp only [VR] at hv; subst hv
    exact ⟨goInt 0, by simp [Builtin.len_, hu], rfl⟩
  · rename_i e i o n c sz hd
    cases hx
    have hu := ok.run_und hd w
    obtain ⟨L, ad, c', hL, rfl, _⟩ := hv
    exact ⟨goInt n, by simp [Builtin.len_, hu], rfl⟩
  · rename_i k e hd
    cases hx
    have hu := ok.run_und hd w
    simp only [VR] at hv; subst hv
    exact ⟨goInt 0, by simp [Builtin.len_, hu], rfl⟩
  · rename_i k e i hd
    split at hx
    case h_2 => cases hx
    rename_i es c hi
    cases hx
    have hu := ok.run_und hd w
    obtain ⟨L, hL, rfl⟩ := hv
    obtain ⟨_, m, hob, hmr⟩ := h.mapOf hi hL
    have hlen : ∀ {es : List (AV × AV × Nat)} {ms : List MapEntry}, MR ρ σ es ms → ms.length = es.length := by
      intro es
      induction es with
      | nil => intro ms hm; cases hm; rfl
      | cons p es ih => obtain ⟨q, a, b⟩ := p; intro ms hm; obtain ⟨e, r, rfl, _, _, _, hr⟩ := hm; simp [ih hr]
    have := hlen hmr
    refine ⟨goInt m.size, ?_, ?_⟩
    · simp only [Builtin.len_, List.getElem?_toArray, List.getElem?_cons_zero, Sem.run_bind, hu, Result.andThen_ok]
      simp [run_getObj (P := E.P) hob (by simp)]
    · rw [len_eq, ← this]; simp [VR, goInt]
  · cases hx

include ok in
theorem capA_ok {t : TypeId} {ts : List TypeId} {ty : TypeId} {x a : AV} (hx : capA E t x = some a) {v : Value} (hv : VR ρ σ x v) : ∃ u, (Builtin.cap_ (t :: ts).toArray ty #[v]).run E.P w = .ok u w ∧ VR ρ σ a u := by
  unfold capA at hx
  split at hx
  · rename_i e hd
    cases hx
    have hu := ok.run_und hd w
    simp only [VR] at hv; subst hv
    exact ⟨goInt 0, by simp [Builtin.cap_, hu], rfl⟩
  · cases hx

theorem maxI_eq (x y : Int) : maxI x y = if y > x then y else x := by
  unfold maxI; rw [ltInt_eq]; by_cases h : x < y <;> simp [h]
theorem minI_eq (x y : Int) : minI x y = if y < x then y else x := by
  unfold minI; rw [ltInt_eq]; by_cases h : y < x <;> simp [h]

theorem foldMax_ok {P : Program} {k : IntKind} : ∀ {l : List AV} {a : Int} {x : AV}, foldInt maxI k a l = some x → ∀ {vs : List Value}, VRs ρ σ l vs → ∃ v, (vs.foldlM Builtin.max2 (.int k a) : Sem Value).run P w = .ok v w ∧ VR ρ σ x v
  | [], a, x, h, vs, hv => by cases hv; simp [foldInt] at h; subst h; exact ⟨_, rfl, rfl⟩
  | y :: l, a, x, h, vs, hv => by
    obtain ⟨v, rest, rfl, hy, hl⟩ := hv
    cases y <;> simp only [foldInt] at h <;> first | (cases h; done) | skip
    rename_i k' b
    simp only [VR] at hy; subst hy
    obtain ⟨u, h1, h2⟩ := foldMax_ok h hl
    refine ⟨u, ?_, h2⟩
    simp only [List.foldlM_cons, Sem.run_bind, Builtin.max2, Sem.run_pure, Result.andThen_ok]
    rw [← maxI_eq]; exact h1
theorem foldMin_ok {P : Program} {k : IntKind} : ∀ {l : List AV} {a : Int} {x : AV}, foldInt minI k a l = some x → ∀ {vs : List Value}, VRs ρ σ l vs → ∃ v, (vs.foldlM Builtin.min2 (.int k a) : Sem Value).run P w = .ok v w ∧ VR ρ σ x v
  | [], a, x, h, vs, hv => by cases hv; simp [foldInt] at h; subst h; exact ⟨_, rfl, rfl⟩
  | y :: l, a, x, h, vs, hv => by
    obtain ⟨v, rest, rfl, hy, hl⟩ := hv
    cases y <;> simp only [foldInt] at h <;> first | (cases h; done) | skip
    rename_i k' b
    simp only [VR] at hy; subst hy
    obtain ⟨u, h1, h2⟩ := foldMin_ok h hl
    refine ⟨u, ?_, h2⟩
    simp only [List.foldlM_cons, Sem.run_bind, Builtin.min2, Sem.run_pure, Result.andThen_ok]
    rw [← minI_eq]; exact h1

theorem rep_rel_len {z : List AV} {k : Nat} (hz : z.length = k) : ∀ n, (rep n z).length = n * k
  | 0 => by simp [rep]
  | n + 1 => by simp [rep, rep_rel_len hz n, hz, Nat.succ_mul]; omega

include ok h in
theorem clearA_ok {t : TypeId} {ts : List TypeId} {ty : TypeId} {x : AV} (hx : clearA E s t x = some r) {v : Value} (hv : VR ρ σ x v) :
    ResOK B ρ σ r w ((do pure (.value (← Builtin.clear_ (t :: ts).toArray ty #[v])) : Sem Next).run E.P w) := by
  unfold clearA at hx
  split at hx
  · rename_i e hd
    cases hx
    have hu := ok.run_und hd w
    simp only [VR] at hv; subst hv
    refine res_of_val0 h (v := .tuple #[]) ?_ ⟨_, rfl, rfl⟩
    simp [Builtin.clear_, hu]
  · rename_i e i o c sz hd
    cases hx
    have hu := ok.run_und hd w
    obtain ⟨L, ad, c', hL, rfl, _⟩ := hv
    refine res_of_val0 h (v := .tuple #[]) ?_ ⟨_, rfl, rfl⟩
    simp [Builtin.clear_, hu]
  · rename_i e i o n c sz hn0 hd
    split at hx
    case h_2 => cases hx
    rename_i ti hti
    split at hx
    case h_2 => cases hx
    rename_i hsz
    split at hx
    case h_2 => cases hx
    rename_i z hz
    split at hx
    case h_2 => cases hx
    rename_i cs el hzl hi
    split at hx
    case h_2 => cases hx
    rename_i cs' hov
    cases hx
    have hsz : ti.size = sz := Nat.eq_of_beq_eq_true hsz
    simp only [Bool.and_eq_true] at hzl
    obtain ⟨⟨hz1, hz2⟩, hone⟩ := hzl
    have hz1 : z.cells.length = sz := by rw [← len_eq]; exact Nat.eq_of_beq_eq_true hz1
    rw [blt_iff] at hz2
    have hz2 : 0 < sz := by simpa using hz2
    have hu := ok.run_und hd w
    obtain ⟨zv, hzr, hzv⟩ := ok.run_zero hz w
    have hzc := (hzv ρ σ).cells'
    have hzs : zv.cells.size = sz := by have := hzc.length; rw [hz1] at this; simpa using this
    have hrep := rep_rel hzc (by omega) n
    have hzl : (Builtin.zeroCells zv.cells n).toList.length = n * sz := by rw [Array.length_toList, zeroCells_size, hzs]
    obtain ⟨L, ad, c', hL, rfl, g1, g2, g3⟩ := hv
    have hnpos : n ≠ 0 := fun e' => hn0 e'
    obtain ⟨rfl, h4⟩ := g3.resolve_left (by omega)
    obtain ⟨cc, bt, fr, hcc, hbt, hrel, hle, hszb, hfr⟩ := h.block hi hL
    have hg := h.gN_le hi (by simp) (by simp)
    obtain ⟨h7, h8, h9⟩ := splice_rel (sh := L.sh) (C := cc.toList) hrel hov hrep (by simp; omega)
    obtain ⟨w', c2, hst, hupd, hc2', hc2s⟩ := run_storeCells_known (P := E.P) (g := L.blk) (o := L.sh + o) (Builtin.zeroCells zv.cells n).toList 0 cc w hcc (hfr rfl) (by
      have : ((Array.range (n * zv.cells.size)).map (zv.cells[· % zv.cells.size]!)).toList.length = (Builtin.zeroCells zv.cells n).toList.length := by rw [hzl, hrep.length]; simp [rep_rel_len hz1 n]
      omega) (allOne_spec hone hrep)
    refine res_of_val (v := .tuple #[]) ?_ (hupd.below (h.own i _ L hi hL hg)) (Ext.refl _) (h.upd hi hL hg hupd ⟨c2, bt, fr, rfl, hbt, fun e' => h.head hi hL e', ?_, by omega, by omega, fun _ => by rw [hc2s]; exact hfr rfl⟩) ⟨_, rfl, rfl⟩
    · simp only [Builtin.clear_, List.getElem?_toArray, List.getElem?_cons_zero, Sem.run_bind, hu, Result.andThen_ok]
      simp [hzr, hst]
    · rw [hc2', Nat.add_zero]
      exact h7
  · rename_i k e hd
    cases hx
    have hu := ok.run_und hd w
    simp only [VR] at hv; subst hv
    refine res_of_val0 h (v := .tuple #[]) ?_ ⟨_, rfl, rfl⟩
    simp [Builtin.clear_, hu]
  · rename_i k e i hd
    split at hx
    case h_2 => cases hx
    rename_i hge
    split at hx
    case h_2 => cases hx
    rename_i es c hi
    cases hx
    have hu := ok.run_und hd w
    obtain ⟨L, hL, rfl⟩ := hv
    obtain ⟨hz, m, hob, hmr⟩ := h.mapOf hi hL
    have hg : gN ≤ i := Nat.le_of_ble_eq_true hge
    have hupd := Upd.setObj w L.blk (.map #[] c) (lt_of_get hob)
    refine res_of_val (v := .tuple #[]) ?_ (hupd.below (h.own i _ L hi hL hg)) (Ext.refl _) (h.upd hi hL hg hupd ⟨hz, _, rfl, rfl⟩) ⟨_, rfl, rfl⟩
    simp only [Builtin.clear_, List.getElem?_toArray, List.getElem?_cons_zero, Sem.run_bind, hu, Result.andThen_ok]
    simp [run_getObj (P := E.P) hob (by simp), run_setObj (P := E.P) _ hob (by simp)]
  · cases hx
end
end Go.Eng

/-! The engine's operations are the machine's: functions without a body, calls, every operation. No condition. -/
namespace Go.Eng
open Go.RowKit

theorem mkFn_ext {f : Func} {k : Nat} (h : (mkFn f).ext = k) (hk : k ≠ 0) : f.origin = "" ∧
    ((k = 1 ∧ f.name = "internal/abi.NoEscape") ∨ (k = 2 ∧ f.name = "internal/bytealg.CountString") ∨ (k = 3 ∧ f.name = "internal/bytealg.IndexByteString") ∨ (k = 4 ∧ f.name = "internal/bytealg.MakeNoZero")) := by
  unfold mkFn at h
  simp only at h
  split at h
  · omega
  rename_i ho
  refine ⟨by simpa using ho, ?_⟩
  split at h
  · rename_i hn; exact .inl ⟨h.symm, hn⟩
  split at h
  · rename_i hn; exact .inr (.inl ⟨h.symm, hn⟩)
  split at h
  · rename_i hn; exact .inr (.inr (.inl ⟨h.symm, hn⟩))
  split at h
  · rename_i hn; exact .inr (.inr (.inr ⟨h.symm, hn⟩))
  · omega

theorem ext_noEscape {f : Func} (hn : f.name = "internal/abi.NoEscape") (ho : f.origin = "") : Extern.findNext f = none ∧ Extern.find f = some Extern.AbiNoEscape.same := by
  cases f
  simp only at hn ho
  subst hn; subst ho
  exact ⟨by kernel_rfl, by kernel_rfl⟩
theorem ext_count {f : Func} (hn : f.name = "internal/bytealg.CountString") (ho : f.origin = "") : Extern.findNext f = none ∧ Extern.find f = some Extern.BytealgCount.count := by
  cases f
  simp only at hn ho
  subst hn; subst ho
  exact ⟨by kernel_rfl, by kernel_rfl⟩
theorem ext_index {f : Func} (hn : f.name = "internal/bytealg.IndexByteString") (ho : f.origin = "") : Extern.findNext f = none ∧ Extern.find f = some Extern.BytealgIndexByte.indexByte := by
  cases f
  simp only at hn ho
  subst hn; subst ho
  exact ⟨by kernel_rfl, by kernel_rfl⟩
theorem ext_make {f : Func} (hn : f.name = "internal/bytealg.MakeNoZero") (ho : f.origin = "") : Extern.findNext f = none ∧ Extern.find f = some (Extern.BytealgMakeNoZero.makeNoZero f.params f.resultTypes) := by
  cases f
  simp only at hn ho
  subst hn; subst ho
  exact ⟨by kernel_rfl, by kernel_rfl⟩

section
variable {E : Env} {B : Base} {ρ ρ' : Rho} {σ : Nat → Value} {s s' : St} {w w' : World} {tm : T AV} {ev : Operand → Value} {r : Res}

theorem countN_eq (c : UInt8) : ∀ (l : List UInt8) (n : Nat), countN c.toNat (l.map UInt8.toNat) n = n + Lib.countByte l c
  | [], n => by simp [countN, Lib.countByte]
  | a :: l, n => by
    unfold Lib.countByte
    rw [List.count_cons]
    simp only [List.map_cons, countN, beq_iff]
    by_cases h : a = c
    · subst h; simp [countN_eq a l]; unfold Lib.countByte; omega
    · have h' : ¬ a.toNat = c.toNat := fun e => h (UInt8.toNat_inj.1 e)
      simp [h', h, countN_eq c l]; unfold Lib.countByte; omega

theorem byte_of {n : Nat} (h : n < 256) : (Int.toNat (Int.ofNat n)).toUInt8.toNat = n := by
  simp; omega

theorem digits_size : ∀ (n t : Nat) (acc : Array Value), (Extern.BytealgMakeNoZero.digits n t acc).size = acc.size + n
  | 0, _, _ => rfl
  | n + 1, t, acc => by unfold Extern.BytealgMakeNoZero.digits; rw [digits_size n]; simp; omega
theorem digits_one : ∀ (n t : Nat) (acc : Array Value), (∀ v ∈ acc.toList, v.oneCell' = true) → ∀ v ∈ (Extern.BytealgMakeNoZero.digits n t acc).toList, v.oneCell' = true
  | 0, _, _, h => h
  | n + 1, t, acc, h => by
    unfold Extern.BytealgMakeNoZero.digits
    apply digits_one n
    intro v hv
    rw [Array.toList_push, List.mem_append] at hv
    rcases hv with hv | hv
    · exact h v hv
    · simp at hv; subst hv; rfl
theorem rep_unk : ∀ (n : Nat) (vs : List Value), vs.length = n → (∀ v ∈ vs, v.oneCell' = true) → VRs ρ σ (rep n [.unk]) vs
  | 0, vs, h, _ => by cases vs; rfl; simp at h
  | n + 1, v :: vs, h, h1 => ⟨v, vs, rfl, h1 v (by simp), rep_unk n vs (by simpa using h) fun u hu => h1 u (by simp [hu])⟩
  | n + 1, [], h, _ => by simp at h

theorem indexN_eq (c : UInt8) : ∀ (l : List UInt8) (i : Nat),
    (Lib.indexByte l c = -1 ∧ indexN c.toNat (l.map UInt8.toNat) i = none) ∨ ∃ k : Nat, Lib.indexByte l c = k ∧ indexN c.toNat (l.map UInt8.toNat) i = some (i + k)
  | [], i => .inl ⟨rfl, rfl⟩
  | a :: l, i => by
    unfold Lib.indexByte
    simp only [List.map_cons, indexN]
    by_cases h : a = c
    · subst h
      exact .inr ⟨0, by simp, by simp⟩
    · have h' : Nat.beq a.toNat c.toNat = false := by
        cases hb : Nat.beq a.toNat c.toNat with
        | false => rfl
        | true => exact absurd (UInt8.toNat_inj.1 (Nat.eq_of_beq_eq_true hb)) h
      simp only [h', beq_iff_eq, h, if_false]
      rcases indexN_eq c l (i + 1) with ⟨h1, h2⟩ | ⟨k, h1, h2⟩
      · exact .inl ⟨by simp [h1], h2⟩
      · refine .inr ⟨k + 1, ?_, by rw [h2]; congr 1; omega⟩
        have : ¬ ((k : Int) = -1) := fun e => by omega
        simp [h1, this]

theorem str_bytes {sb : ByteArray} {l : List Nat} (hl : bytesNat sb = l) : l = sb.data.toList.map UInt8.toNat := by
  rw [← hl]; rfl

theorem extA_ok (ok : EnvOK E) (h : R B ρ σ s w) {f : FuncId} {i : FnI} (hf : E.fns.get f = some i) (hng : i.numG = false) (hb : i.fn.body = none) {args : List AV} {va : Array Value} (ha : VRs ρ σ args va.toList)
    (hx : extA E s i.ext i.fn args = some r) : ResOK B ρ σ r w ((callFunc f va).run E.P w) := by
  obtain ⟨h1, h2⟩ := ok.fns f i hf
  have hname : (i.fn.name == "runtime.NumGoroutine") = false := by rw [h2] at hng; exact hng
  have hext : (mkFn i.fn).ext = i.ext := by rw [← h2]
  have hbn : i.fn.body.isNone = true := by rw [hb]; rfl
  unfold extA at hx
  split at hx
  · -- NoEscape
    rename_i x he0
    cases hx
    obtain ⟨ho, hk⟩ := mkFn_ext (hext.trans he0) (by omega)
    obtain ⟨hn1, hn2⟩ := ext_noEscape (by rcases hk with hk | hk | hk | hk <;> first | exact hk.2 | omega) ho
    obtain ⟨v, r, e, hv, hr⟩ := ha
    cases hr
    rw [run_callFunc_extern h1 hname hbn hn1 hn2]
    have : va = #[v] := by apply Array.ext'; simpa using e
    subst this
    exact res_val h hv
  · -- CountString
    rename_i l c he0
    split at hx
    case h_2 => cases hx
    rename_i hc
    cases hx
    obtain ⟨ho, hk⟩ := mkFn_ext (hext.trans he0) (by omega)
    obtain ⟨hn1, hn2⟩ := ext_count (by rcases hk with hk | hk | hk | hk <;> first | exact hk.2 | omega) ho
    obtain ⟨v, r, e, ⟨sb, hv, hl⟩, u, r', e', hu, hr⟩ := ha
    cases hr; subst e'; subst hv; cases hu
    rw [run_callFunc_extern h1 hname hbn hn1 hn2]
    have : va = #[.string sb, .int .u8 (Int.ofNat c)] := by apply Array.ext'; simpa using e
    subst this
    rw [Lib.run_countString]
    refine res_val h ?_
    have hc' : c < 256 := Nat.le_of_ble_eq_true hc
    show _ = _
    have h1 := countN_eq ((Int.ofNat c).toNat.toUInt8) sb.data.toList 0
    rw [byte_of hc', ← str_bytes hl] at h1
    rw [h1]; simp
  · -- IndexByteString
    rename_i l c he0
    split at hx
    case h_2 => cases hx
    rename_i hc
    cases hx
    obtain ⟨ho, hk⟩ := mkFn_ext (hext.trans he0) (by omega)
    obtain ⟨hn1, hn2⟩ := ext_index (by rcases hk with hk | hk | hk | hk <;> first | exact hk.2 | omega) ho
    obtain ⟨v, r, e, ⟨sb, hv, hl⟩, u, r', e', hu, hr⟩ := ha
    cases hr; subst e'; subst hv; cases hu
    rw [run_callFunc_extern h1 hname hbn hn1 hn2]
    have : va = #[.string sb, .int .u8 (Int.ofNat c)] := by apply Array.ext'; simpa using e
    subst this
    rw [Lib.run_indexByteString]
    refine res_val h ?_
    have hc' : c < 256 := Nat.le_of_ble_eq_true hc
    show _ = _
    have h1 := indexN_eq ((Int.ofNat c).toNat.toUInt8) sb.data.toList 0
    rw [byte_of hc', ← str_bytes hl] at h1
    rcases h1 with ⟨h1, h2⟩ | ⟨k, h1, h2⟩
    · rw [h1, h2]; rfl
    · rw [h1, h2]; simp
  · -- MakeNoZero
    rename_i n he0
    split at hx
    case h_2 => cases hx
    rename_i t ht
    split at hx
    case h_2 => cases hx
    rename_i e hu
    split at hx
    case h_2 => cases hx
    rename_i hn
    split at hx
    case h_2 => cases hx
    rename_i j s' hnew
    cases hx
    obtain ⟨ho, hk⟩ := mkFn_ext (hext.trans he0) (by omega)
    obtain ⟨hn1, hn2⟩ := ext_make (by rcases hk with hk | hk | hk | hk <;> first | exact hk.2 | omega) ho
    obtain ⟨v, r, ev, hv, hr⟩ := ha
    cases hr; cases hv
    rw [run_callFunc_extern h1 hname hbn hn1 hn2]
    have : va = #[.int .i64 (Int.ofNat n)] := by apply Array.ext'; simpa using ev
    subst this
    have hn' : n ≤ 281474976710656 := Nat.le_of_ble_eq_true hn
    obtain ⟨cp, hcp, hch⟩ := run_choose_cap (P := E.P) (w := w) n 0 e
    have hdef : Extern.BytealgMakeNoZero.makeNoZero i.fn.params i.fn.resultTypes #[.int .i64 (Int.ofNat n)] =
      (do
        let some t := i.fn.resultTypes[0]? | stuck "bytealg.MakeNoZero: no result type"
        let .slice elem ← underlying t | stuck "bytealg.MakeNoZero: slice type expected"
        if (n : Int) < 0 || (n : Int) > 2 ^ 48 then runtimePanic (.error "makeslice: len out of range")
        let cap ← choose (.appendCap (n : Int).toNat 0 elem)
        askRoom cap
        let bytes ← choose (.extern "internal/bytealg.MakeNoZero.bytes" 0)
        let a ← newRow elem (Extern.BytealgMakeNoZero.digits cap bytes #[])
        pure (.slice (some a) (n : Int).toNat cap)) := rfl
    let by_ := ((Question.extern "internal/bytealg.MakeNoZero.bytes" 0).cut (w.tape (w.drawn + 1) (.extern "internal/bytealg.MakeNoZero.bytes" 0)))
    let C := Extern.BytealgMakeNoZero.digits cp by_ #[]
    let w2 : World := { w with drawn := w.drawn + 1 + 1 }
    have hC : C.size = cp := by simp [C, digits_size]
    have k1 : New w (.cells C e) (w2.alloc (.cells C e)) := New.of_same (w1 := w2) ⟨rfl, rfl, rfl, rfl⟩ (New.alloc _ _)
    have hone := digits_one cp by_ #[] (by simp)
    obtain ⟨ρ', hρ, hR, hi⟩ := newCells_ok' h hnew (c := C) ⟨C.toList.take n, C.toList.drop n, by simp, rep_unk n _ (by simp [hC]; omega) (fun v hv => hone v (List.mem_of_mem_take hv))⟩ k1 (fun o ho => by simp)
    have main : (Extern.BytealgMakeNoZero.makeNoZero i.fn.params i.fn.resultTypes #[.int .i64 (Int.ofNat n)]).run E.P w = .ok (.slice (some ⟨w.heap.size, 0, none⟩) n cp) (w2.alloc (.cells C e)) := by
      have q1 : ¬ (n : Int) < 0 := by omega
      have q2 : ¬ (281474976710656 : Int) < (n : Int) := by omega
      have hu' := ok.run_und hu w
      have q3 : ((n : Int)).toNat = n := Int.toNat_natCast n
      have hask : ∀ w', (askRoom cp).run E.P w' = .ok () w' := fun w' => by simp
      have hby : (choose (.extern "internal/bytealg.MakeNoZero.bytes" 0)).run E.P ({ w with drawn := w.drawn + 1 } : World) = .ok by_ w2 := by rw [run_choose]; rfl
      have hrow : (newRow e (Extern.BytealgMakeNoZero.digits cp by_ #[])).run E.P w2 = .ok ⟨w2.heap.size, 0, none⟩ (w2.alloc (.cells C e)) := run_newRow e C
      rw [hdef]
      simp only [ht, Sem.run_bind, hu', Result.andThen_ok]
      rw [if_neg (by simp [q1, q2])]
      simp only [Sem.run_bind, q3, hch, hask, hby, hrow, Result.andThen_ok, Sem.run_pure]
      rfl
    rw [main]
    exact ⟨k1.below h.size, ρ', hρ, hR, .inl ⟨_, rfl, ⟨_, _, cp, hi, rfl, hcp, hcp, .inr ⟨by simp, by simp [hC]⟩⟩⟩⟩
  · cases hx
end
end Go.Eng

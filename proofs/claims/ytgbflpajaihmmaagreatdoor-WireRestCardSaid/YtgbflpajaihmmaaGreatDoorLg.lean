/- WireLong by the engine: what it calls, on symbols, is known by the library's contracts. No condition. -/
import Derived.Test.YtgbflpajaihmmaaGreatDoorRk19
import Derived.Test.YtgbflpajaihmmaaGreatDoorSi
import Derived.Lib.SmallJoins
namespace Go.Proofs.YtgbflpajaihmmaaGreatDoor
open Go Go.Eng Go.RowKit
noncomputable section
set_option maxRecDepth 100000

theorem gl_has : hasG gl (stOf gl) = true := by kernel_rfl

/-- The length bound's variable is an int. -/
theorem maxLen_cell {B : Base} {ρ : Rho} {σ : Nat → Value} {s : St} {w : World} (h : R B ρ σ s w) (hs : hasG gl s = true) {m : Int} (hm : σ 900 = .int .i64 m) : w.cell? ⟨4, 0, none⟩ = some (.int .i64 m) := by
  have hg := hasG_spec hs ⟨4, [.sym 900], 3⟩ (by simp [gl])
  obtain ⟨L, hL, hv⟩ := h.vars 4 (by unfold gN; omega)
  obtain ⟨e1, e2⟩ := hv (by unfold vN; omega)
  obtain ⟨ob, hob, c, t, fr, rfl, _, _, hc, _⟩ := h.here hg hL
  obtain ⟨v, r, e, ⟨hvv, _⟩, hr⟩ := hc
  rw [e1] at hob
  rw [e2, List.drop_zero] at e
  have : c[0]? = some v := by
    rw [← Array.getElem?_toList]
    have : (c.toList.take 1)[0]? = some v := by
      have e' : c.toList.take 1 = v :: r := e
      rw [e']; rfl
    rw [List.getElem?_take] at this
    simpa using this
  rw [cell_at hob, this, hvv, hm]

def chk : List Nat := [99, 104, 101, 99, 107]
def xB (c : Nat) : ByteArray := ⟨(Lib.repeatL [120] c).toArray⟩
def hB : ByteArray := ⟨#[99, 104, 101, 99, 107, 32]⟩
def sB (c : Nat) : ByteArray := hB ++ xB c
def bl : ByteArray := ⟨#[32]⟩

theorem xB_list (c : Nat) : (xB c).data.toList = Lib.repeatL [120] c := rfl
theorem xB_size (c : Nat) : (xB c).size = c := by
  show (Lib.repeatL [120] c).toArray.size = c
  rw [List.size_toArray, Lib.repeatL_length]; simp
theorem sB_list (c : Nat) : (sB c).data.toList = [99, 104, 101, 99, 107, 32] ++ Lib.repeatL [120] c := by
  unfold sB
  rw [ByteArray.data_append, Array.toList_append]; rfl
theorem sB_size (c : Nat) : (sB c).size = c + 6 := by
  unfold sB
  rw [ByteArray.size_append, xB_size]
  show 6 + c = c + 6
  omega
theorem repeat_no : ∀ c, Lib.indexByte (Lib.repeatL [120] c) 32 = -1
  | 0 => rfl
  | c + 1 => by
    show Lib.indexByte (120 :: Lib.repeatL [120] c) 32 = -1
    unfold Lib.indexByte
    rw [repeat_no c]; rfl
theorem index_sB (c : Nat) : Lib.index (sB c).data.toList [32] = 5 := by
  rw [Lib.index_one, sB_list]; rfl
theorem cut_sB (c : Nat) : Lib.cut (sB c).data.toList bl.data.toList = ([99, 104, 101, 99, 107], Lib.repeatL [120] c, true) := by
  show Lib.cut (sB c).data.toList [32] = _
  unfold Lib.cut
  rw [index_sB, sB_list]; rfl
theorem tail_sB (c : Nat) : (sB c).extract 6 (sB c).size = xB c := by
  apply ByteArray.ext
  apply Array.ext'
  rw [Lib.extract_to_end, sB_list, xB_list]; rfl
theorem head_sB (c : Nat) : (sB c).extract 0 5 = ⟨#[99, 104, 101, 99, 107]⟩ := by
  apply ByteArray.ext
  apply Array.ext'
  rw [Lib.extract_from_zero, sB_list]; rfl
theorem count_sB (c : Nat) : Lib.countB (sB c) bl = 1 := by
  rw [Lib.countB_hit (sB c) bl 5 (by decide) (index_sB c), show 5 + bl.size = 6 by rfl, tail_sB, Lib.countB_miss]
  show Lib.index (xB c).data.toList [32] = -1
  rw [Lib.index_one, xB_list, repeat_no]
theorem split_sB (c : Nat) : Lib.splitB bl 0 1 (sB c) = [⟨#[99, 104, 101, 99, 107]⟩, xB c] := by
  rw [Lib.splitB_hit bl 0 0 (sB c) 5 (index_sB c), show 5 + bl.size = 6 by rfl, tail_sB, show 5 + 0 = 5 by rfl, head_sB]; rfl

/-- What the symbols stand for. -/
def sg (n c : Nat) (m : Int) : Nat → Value
  | 0 => .int .u8 n
  | 1 => .string (xB c)
  | 2 => .string (sB c)
  | _ => .int .i64 m

theorem kr_repeat (n c : Nat) (m : Int) (hc : c ≤ 100000) : KRow Tryz.prog gl (sg n c m) 30 [.str [120], .int .i64 (Int.ofNat c)] ⟨.sym 1, []⟩ :=
  KRow.ofP glOK rfl (.inl rfl) fun w va _ _ ha => by
    have hva : va = #[.string ⟨#[120]⟩, .int .i64 (c : Int)] := Array.ext' (tells_funs (ρ := fun _ => none) (ρ' := fun _ => none) (σ := sg n c m) (l := [.str [120], .int .i64 (Int.ofNat c)]) rfl ha ⟨_, _, rfl, ⟨_, rfl, rfl⟩, _, _, rfl, rfl, rfl⟩)
    subst hva
    refine (Tryz.strings_Repeat ⟨#[120]⟩ c w (by omega) (by show 1 * c ≤ _; omega)).mono ?_
    rintro e w' ⟨rfl, hB⟩
    exact ⟨_, rfl, ⟨rfl, rfl⟩, hB⟩

theorem kr_cut (n c : Nat) (m : Int) (hc : c ≤ 100000) : KRow Tryz.prog gl (sg n c m) 52 [.sym 2, .str [32]] ⟨.tuple [.str chk, .sym 1, .bool true], []⟩ :=
  KRow.ofP glOK rfl (.inr ⟨_, rfl, rfl⟩) fun w va _ ⟨ρ, hR⟩ ha => by
    have hva : va = #[.string (sB c), .string bl] := Array.ext' (tells_funs (ρ := fun _ => none) (ρ' := fun _ => none) (σ := sg n c m) (l := [.sym 2, .str [32]]) rfl ha ⟨_, _, rfl, ⟨rfl, rfl⟩, _, _, rfl, ⟨_, rfl, rfl⟩, rfl⟩)
    subst hva
    refine (Tryz.strings_Cut (sB c) bl m w (by rw [sB_size]; omega) (maxLen_cell hR gl_has rfl)).mono ?_
    rintro e w' ⟨rfl, k, rfl⟩
    refine ⟨_, rfl, ?_, Go.Joins.below_draws _ _ _⟩
    rw [cut_sB]
    exact ⟨_, rfl, _, _, rfl, ⟨_, rfl, rfl⟩, _, _, rfl, ⟨rfl, rfl⟩, _, _, rfl, rfl, rfl⟩

theorem kr_split (n c : Nat) (m : Int) (hc : c ≤ 100000) : KRow Tryz.prog gl (sg n c m) 21 [.sym 2, .str [32]] ⟨.slice gN 0 2 2 1, [.cells [.str chk, .sym 1] 9 true]⟩ :=
  KRow.alloc (by unfold tailN; omega) rfl rfl fun w va ⟨B, ρ, s, hR, hs, ha⟩ => by
    have hva : va = #[.string (sB c), .string bl] := Array.ext' (tells_funs (ρ := ρ) (ρ' := fun _ => none) (σ := sg n c m) (l := [.sym 2, .str [32]]) rfl ha ⟨_, _, rfl, ⟨rfl, rfl⟩, _, _, rfl, ⟨_, rfl, rfl⟩, rfl⟩)
    subst hva
    refine ⟨#[.string ⟨#[99, 104, 101, 99, 107]⟩, .string (xB c)], ⟨_, _, rfl, ⟨_, rfl, rfl⟩, _, _, rfl, ⟨rfl, rfl⟩, rfl⟩, ?_⟩
    have h := Tryz.strings_Split (sB c) bl m w (by rw [sB_size]; omega) (maxLen_cell hR hs rfl) (by decide)
    rw [count_sB, split_sB] at h
    exact h

def krows (r : Nat) : List KR := [⟨30, [.str [120], .int .i64 (Int.ofNat (Nat.add 8180 r))], ⟨.sym 1, []⟩⟩, ⟨52, [.sym 2, .str [32]], ⟨.tuple [.str chk, .sym 1, .bool true], []⟩⟩, ⟨21, [.sym 2, .str [32]], ⟨.slice 1000 0 2 2 1, [.cells [.str chk, .sym 1] 9 true]⟩⟩]
def orows (r : Nat) : List OR := [⟨4, [.sym 0, .int .u8 12], .int .u8 (Int.ofNat r)⟩, ⟨0, [.str (chk ++ [32]), .sym 1], .sym 2⟩, ⟨20, [.sym 2], .int .i64 (Int.ofNat (Nat.add 8186 r))⟩, ⟨11, [.sym 1, .sym 1], .bool true⟩]
def EW (r : Nat) : Env := E0.ask 9 (orows r) (memoOr (memoI gl [(24, yes)]) (memoK gl (krows r)))
theorem runW : allB (fun r => rowRun (EW r) gl 10 [.sym 0] 500 (.bool true)) [0, 1, 2, 3, 4, 5, 6, 7, 8, 9, 10, 11] = true := by kernel_rfl

theorem bytes_x (c : Nat) : (bytesNat (xB c)).length = c := by rw [bytesNat_len, xB_size]
theorem bytes_s (c : Nat) : bytesNat (sB c) = (chk ++ [32]) ++ bytesNat (xB c) := by unfold sB; rw [bytesNat_append]; rfl

theorem orows_ok (n r : Nat) (m : Int) (hr : r = n % 12) : ∀ x ∈ orows r, RowOK (EW r) 9 (sg n (8180 + r) m) x := by
  have hT : und (EW r) 9 = some .string := by show und E0 9 = some .string; kernel_rfl
  have h12 : r < 12 := by rw [hr]; exact Nat.mod_lt _ (by omega)
  intro x hx
  simp only [orows, List.mem_cons, List.mem_nil_iff, or_false] at hx
  rcases hx with rfl | rfl | rfl | rfl
  · exact conc_int_row (op := .rem) (k := .u8) (x := (n : Int)) (y := 12) rfl rfl ⟨by decide, by decide⟩ (by subst hr; rfl)
  · refine conc_str_row (op := .add) (x := chk ++ [32]) (y := bytesNat (xB (8180 + r))) rfl rfl ?_
    have hl : Nat.ble (len (chk ++ [32]) + len (bytesNat (xB (8180 + r)))) maxStr = true := by
      apply Nat.ble_eq_true_of_le
      rw [len_eq, len_eq, bytes_x]
      show 6 + (8180 + r) ≤ 9223372036854775807
      omega
    show (match Nat.ble (len (chk ++ [32]) + len (bytesNat (xB (8180 + r)))) maxStr with | true => some (AV.str ((chk ++ [32]) ++ bytesNat (xB (8180 + r)))) | false => none) = some (.str (bytesNat (sB (8180 + r))))
    rw [hl, bytes_s]
  · refine RowOK.len hT (x := bytesNat (sB (8180 + r))) rfl ?_
    rw [bytesNat_len, sB_size]
    show AV.int .i64 (Int.ofNat (8186 + r)) = .int .i64 (Int.ofNat (8180 + r + 6))
    congr 2; omega
  · refine conc_str_row (op := .eql) (x := bytesNat (xB (8180 + r))) (y := bytesNat (xB (8180 + r))) rfl rfl ?_
    show some (AV.bool (eqNats (bytesNat (xB (8180 + r))) (bytesNat (xB (8180 + r))))) = some (.bool true)
    rw [eqNats_eq]; simp

theorem long_row (n : Nat) (m : Int) : PRow Tryz.prog gl (sg n (8180 + n % 12) m) 10 [.sym 0] (.bool true) := by
  have h12 : n % 12 < 12 := Nat.mod_lt _ (by omega)
  have ok : EnvS (EW (n % 12)) (sg n (8180 + n % 12) m) := EnvS.ask envOK (orows_ok n (n % 12) m rfl)
  have mo : MemoOK (EW (n % 12)) (sg n (8180 + n % 12) m) := by
    refine MemoOK.or (E := EW (n % 12)) (MemoOK.ofI (E := EW (n % 12)) ?_ _) (MemoOK.ofK (E := EW (n % 12)) ?_)
    · intro x hx
      simp only [List.mem_cons, List.mem_nil_iff, or_false] at hx
      subst hx
      exact know19
    · intro x hx
      simp only [krows, List.mem_cons, List.mem_nil_iff, or_false] at hx
      rcases hx with rfl | rfl | rfl
      · exact kr_repeat n (8180 + n % 12) m (by omega)
      · exact kr_cut n (8180 + n % 12) m (by omega)
      · exact kr_split n (8180 + n % 12) m (by omega)
  have hrun : rowRun (EW (n % 12)) gl 10 [.sym 0] 500 (.bool true) = true := allB_spec runW (n % 12) (by
    have : ∀ r, r < 12 → r ∈ [0, 1, 2, 3, 4, 5, 6, 7, 8, 9, 10, 11] := by decide
    exact this _ h12)
  exact PRow.of ok mo hrun
end
end Go.Proofs.YtgbflpajaihmmaaGreatDoor

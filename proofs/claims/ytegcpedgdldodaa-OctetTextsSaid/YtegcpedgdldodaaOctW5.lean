/- The walks of the statements' own long, of the reference's Begins and Same, of octet.Row. -/
import Derived.Test.YtegcpedgdldodaaOctW4
import Derived.Test.YtegcpedgdldodaaOctRowP
import Derived.Test.YtegcpedgdldodaaStrs
import Derived.Deep.QuietTactic
import Derived.BigQuiet
import Derived.WalkSmall
namespace Go.Proofs.Ytegcpedgdldodaa
set_option linter.unusedVariables false
set_option linter.unusedSimpArgs false
open Go.RowKit Oct
attribute [local go_sem] ByteArray.mk_append_mk ByteArray.extract_mk

set_option maxRecDepth 20000 in
set_option maxHeartbeats 400000 in
theorem begins_any (s t : List UInt8) (hs : s.length < 1000000000) (w : World) :
    Calls Try.prog 16 #[.string ⟨s.toArray⟩, .string ⟨t.toArray⟩] w fun e w' => e = .returned (.bool (beginsB s t)) ∧ w = w' := by
  have HB := Lib.hid (show beginsB s t = (decide (t.length ≤ s.length) && (s.take t.length == t)) from rfl)
  by_cases h : t.length ≤ s.length
  · have h1 : decide ((t.length : Int) ≤ s.length) = true := by simp; omega
    have h2 : decide (t.length ≤ s.length) = true := by simp; omega
    go_enter Try.func16, Try.ntmps16
    go_wp2
    go_ret
    exact ⟨by rw [HB.out, h2]; rfl, rfl⟩
  · have h1 : decide ((t.length : Int) ≤ s.length) = false := by simp; omega
    have h2 : decide (t.length ≤ s.length) = false := by simp; omega
    go_enter Try.func16, Try.ntmps16
    go_wp2
    go_ret
    exact ⟨by rw [HB.out, h2]; rfl, rfl⟩

set_option maxRecDepth 20000 in
set_option maxHeartbeats 400000 in
theorem long_none (a : Option Addr) (cap : Nat) (w : World) :
    Calls Try.prog 15 #[.slice a 0 cap] w fun e w' => e = .returned (.bool (longB [])) ∧ w = w' := by
  have HB := Lib.hid (show longB [] = false from rfl)
  go_enter Try.func15, Try.ntmps15
  go_wp2
  go_loop [3, 4] (fun n i => n = .int .i64 0 ∧ i = .int .i64 0) (fun _ i => 0)
  case atStart => exact ⟨rfl, rfl⟩
  case round =>
    obtain ⟨rfl, rfl⟩ := hrel
    go_wp2
    go_ret
    exact ⟨by rw [HB.out]; rfl, rfl⟩

set_option maxRecDepth 20000 in
set_option maxHeartbeats 400000 in
theorem long_some (ls : List (List UInt8)) (b off cap : Nat) (w : World) (h0 : 0 < ls.length) (hm : ls.length ≤ maxLen)
    (hc : ∀ i (h : i < ls.length), w.cell? ⟨b, off + i, none⟩ = some (.string ⟨(ls[i]).toArray⟩)) :
    Calls Try.prog 15 #[.slice (some ⟨b, off, none⟩) ls.length cap] w fun e w' => e = .returned (.bool (longB ls)) ∧ w = w' := by
  unfold maxLen at hm
  have HB := Lib.hid (show longB ls = (longL 0 ls || decide (300 < ls.length)) from rfl)
  have HC := Lib.hid hc
  clear hc
  go_enter Try.func15, Try.ntmps15
  go_wp2
  go_loop [3, 4] (fun n i => ∃ k m : Nat, k ≤ ls.length ∧ m ≤ 8192 ∧ Hid (longL 0 ls = longL m (ls.drop k)) ∧ n = .int .i64 m ∧ i = .int .i64 k) (fun _ i => ls.length - (intOf i).toNat)
  case atStart => exact ⟨0, 0, by omega, by omega, rfl, rfl, rfl⟩
  case round =>
    obtain ⟨k, m, hk, hm8, HL, rfl, rfl⟩ := hrel
    by_cases hlt : k < ls.length
    · have hcell := HC.out k hlt
      have hd := longL_drop ls k m hlt
      rw [← HL.out] at hd
      by_cases g1 : 8192 < (ls[k]).length
      · have HD := Lib.hid (show longL 0 ls = true by rw [hd, if_pos g1])
        clear hd
        generalize ls[k] = l at *
        go_wp2
        go_ret
        exact ⟨by rw [HB.out, HD.out]; rfl, rfl⟩
      · by_cases g2 : 8192 < m + (ls[k]).length
        · have HD := Lib.hid (show longL 0 ls = true by rw [hd, if_neg g1, if_pos g2])
          clear hd
          generalize ls[k] = l at *
          go_wp2
          go_ret
          exact ⟨by rw [HB.out, HD.out]; rfl, rfl⟩
        · have HD := Lib.hid (show longL 0 ls = longL (m + (ls[k]).length) (ls.drop (k + 1)) by rw [hd, if_neg g1, if_neg g2])
          clear hd
          generalize ls[k] = l at *
          go_wp2
          go_round
          case rel => exact ⟨k + 1, m + l.length, by omega, by omega, HD, by go_num, by go_num⟩
          case measure => simp [intOf]; omega
    · have hd : longL m (ls.drop k) = false := by rw [List.drop_eq_nil_of_le (by omega)]; rfl
      have HD := Lib.hid (HL.out.trans hd)
      clear hd
      have e1 : (decide ((300 : Int) < ls.length)) = decide (300 < ls.length) := by
        rw [decide_eq_decide]; omega
      have HE := Lib.hid e1
      clear e1
      go_wp2
      go_ret
      exact ⟨by rw [HB.out, HD.out, Bool.false_or, ← HE.out]; rfl, rfl⟩

theorem long_any (v : Value) (ls : List (List UInt8)) (w : World) (hv : IsStrs w v ls) :
    Calls Try.prog 15 #[v] w fun e w' => e = .returned (.bool (longB ls)) ∧ w = w' := by
  rcases hv with ⟨rfl, a, cap, rfl, hm⟩ | ⟨b, off, cap, rfl, h0, h1, h2, h3, h4⟩
  · exact long_none a cap w
  · exact long_some ls b off cap w h0 (by omega) h4

set_option maxRecDepth 20000 in
set_option maxHeartbeats 400000 in
theorem row_none (a : Option Addr) (cap : Nat) (w : World) :
    Calls Try.prog 17 #[.slice a 0 cap] w fun e w' => e = .returned (.string ⟨(row []).toArray⟩) ∧ Below w.heap.size w w' := by
  have HB := Lib.hid (show row [] = [] from rfl)
  go_enter Try.func17, Try.ntmps17
  go_wp2
  go_loop [3, 8] (fun s i => s = .string ⟨#[]⟩ ∧ i = .int .i64 0) (fun _ i => 0)
  case atStart => exact ⟨rfl, rfl⟩
  case round =>
    obtain ⟨rfl, rfl⟩ := hrel
    go_wp2
    go_ret
    exact ⟨by rw [HB.out]; rfl, Below.refl _ _⟩

set_option maxRecDepth 20000 in
set_option maxHeartbeats 1000000 in
theorem row_some (ls : List (List UInt8)) (b off cap : Nat) (w : World) (h0 : 0 < ls.length) (hm : ls.length ≤ maxLen) (hb : b < w.heap.size) (ht : total ls < 100000000) (hn : ls.length < 10000000)
    (hc : ∀ i (h : i < ls.length), w.cell? ⟨b, off + i, none⟩ = some (.string ⟨(ls[i]).toArray⟩)) :
    Calls Try.prog 17 #[.slice (some ⟨b, off, none⟩) ls.length cap] w fun e w' => e = .returned (.string ⟨(row ls).toArray⟩) ∧ Below w.heap.size w w' := by
  unfold maxLen at hm
  have HT := Lib.hid fun (l : List UInt8) (w : World) (h : l.length < 1000000000) => text_any l w h
  have HG := Lib.hid fun (k : Nat) (h : k < ls.length) => total_ge ls k h
  have HR := Lib.hid fun (k : Nat) (h : k < ls.length) => row_take_succ ls k h
  have HL := Lib.hid fun (k : Nat) => row_take_le ls k
  have hl := row_length ls
  have hrl : (row ls).length < 1000000000 := by omega
  have HC := Lib.hid hc
  clear hc hl
  go_enter Try.func17, Try.ntmps17
  go_wp2
  go_loopw [3, 8] (fun s i wr => ∃ k : Nat, k ≤ ls.length ∧ s = .string ⟨(row (ls.take k)).toArray⟩ ∧ i = .int .i64 k ∧ Below w.heap.size w wr) (fun _ i _ => ls.length - (intOf i).toNat)
  case atStart => exact ⟨0, by omega, rfl, rfl, Below.refl _ _⟩
  case round =>
    obtain ⟨k, hk, rfl, rfl, hB⟩ := hrel
    by_cases hlt : k < ls.length
    · have hcell : wr.cell? ⟨b, off + k, none⟩ = some (.string ⟨(ls[k]).toArray⟩) := by rw [hB.cell (p := ⟨b, off + k, none⟩) hb]; exact HC.out k hlt
      have hg := HG.out k hlt
      have hr := Lib.hid (HR.out k hlt)
      have hl1 := HL.out k
      have hl2 := HL.out (k + 1)
      rw [hr.out, List.length_append] at hl2
      have HBB := Lib.hid hB
      clear hB
      generalize ls[k] = l at *
      generalize row (ls.take k) = q at *
      go_wp2_with (go_at_call 14; refine (HT.out l _ (by omega)).mono ?_; rintro e w1 ⟨rfl, b1⟩)
      go_roundw
      case rel => exact ⟨k + 1, by omega, by rw [hr.out], by go_num, HBB.out.trans (b1.mono HBB.out.size)⟩
      case measure => simp [intOf]; omega
    · obtain rfl : k = ls.length := by omega
      have HF := Lib.hid (show row (ls.take ls.length) = row ls by rw [List.take_length])
      have HBB := Lib.hid hB
      clear hB
      go_wp2
      go_ret
      exact ⟨by rw [← HF.out]; rfl, HBB.out⟩

/-- octet.Row answers the bytes of the texts. -/
theorem row_any (v : Value) (ls : List (List UInt8)) (w : World) (hv : IsStrs w v ls) (ht : total ls < 100000000) (hn : ls.length < 10000000) :
    Calls Try.prog 17 #[v] w fun e w' => e = .returned (.string ⟨(row ls).toArray⟩) ∧ Below w.heap.size w w' := by
  rcases hv with ⟨rfl, a, cap, rfl, hm⟩ | ⟨b, off, cap, rfl, h0, h1, h2, h3, h4⟩
  · exact row_none a cap w
  · exact row_some ls b off cap w h0 (by omega) h3 ht hn h4
end Go.Proofs.Ytegcpedgdldodaa

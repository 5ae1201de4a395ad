/- The walk of chain's iterator over frames. -/
import Derived.Test.YtdmoolfalcdbjaaDoorScanPlain
import Derived.Test.YtdmoolfalcdbjaaDoorChainW3
import Derived.Test.YtdmoolfalcdbjaaDoorRound
import Derived.Test.YtdmoolfalcdbjaaDoorEqLink
import Derived.Deep.RegionHeld3
import Derived.Deep.MidRow
import Derived.RangeFuncNested
import Derived.RangeFuncLeaves
import Derived.OwnWalkIn
import Derived.TacticsInMore
import Derived.LoopNIn
import Derived.LoopIn
namespace Go.Proofs.YtdmoolfalcdbjaaDoor
set_option linter.unusedVariables false
set_option linter.unusedSimpArgs false
open Go.RowKit Sha Chain
attribute [local go_sem] Oper.semAt_some ByteArray.extract_mk

/-- a step as it is handed to yield. -/
def stepV (r l : List UInt8) (p : Nat) (b : Bool) : Value := .agg (#[.string ⟨r.toArray⟩] ++ brow l ++ #[.int .i64 p, .bool b])

theorem readtext_at' {l t : List UInt8} {most : Int} {n x : Nat} (w : World) (hm : l.length < 1000000000) (hmo : most ≤ 9223372036854775807) (h : Oct.readText l most = (t, n, x)) :
    Calls Tryd.prog 34 #[.string ⟨l.toArray⟩, .int .i64 most] w fun e w' => e = .returned (.tuple #[.string ⟨t.toArray⟩, .int .i64 n, .int .i64 x]) ∧ w = w' := by
  have := readtext_any l most w hm hmo
  rw [h] at this
  exact this

theorem list32 {l : List UInt8} (h : l.length = 32) : ∃ c0 c1 c2 c3 c4 c5 c6 c7 c8 c9 c10 c11 c12 c13 c14 c15 c16 c17 c18 c19 c20 c21 c22 c23 c24 c25 c26 c27 c28 c29 c30 c31 : UInt8, l = [c0, c1, c2, c3, c4, c5, c6, c7, c8, c9, c10, c11, c12, c13, c14, c15, c16, c17, c18, c19, c20, c21, c22, c23, c24, c25, c26, c27, c28, c29, c30, c31] :=
  match l, h with
  | [c0, c1, c2, c3, c4, c5, c6, c7, c8, c9, c10, c11, c12, c13, c14, c15, c16, c17, c18, c19, c20, c21, c22, c23, c24, c25, c26, c27, c28, c29, c30, c31], _ => ⟨c0, c1, c2, c3, c4, c5, c6, c7, c8, c9, c10, c11, c12, c13, c14, c15, c16, c17, c18, c19, c20, c21, c22, c23, c24, c25, c26, c27, c28, c29, c30, c31, rfl⟩
theorem step_zero : stepV [] zlink 0 false = .agg #[.string ⟨#[]⟩, .int .u8 0, .int .u8 0, .int .u8 0, .int .u8 0, .int .u8 0, .int .u8 0, .int .u8 0, .int .u8 0, .int .u8 0, .int .u8 0, .int .u8 0, .int .u8 0, .int .u8 0, .int .u8 0, .int .u8 0, .int .u8 0, .int .u8 0, .int .u8 0, .int .u8 0, .int .u8 0, .int .u8 0, .int .u8 0, .int .u8 0, .int .u8 0, .int .u8 0, .int .u8 0, .int .u8 0, .int .u8 0, .int .u8 0, .int .u8 0, .int .u8 0, .int .u8 0, .int .i64 0, .bool false] := by kernel_rfl
theorem build_step (r l : List UInt8) (p : Nat) (b : Bool) (h : l.length = 32) (w : World) :
    (Instr.build 51 #[(0, .string ⟨r.toArray⟩), (1, .agg (brow l)), (2, .int .i64 p), (3, .bool b)]).run Tryd.prog w = .ok (stepV r l p b) w := by
  obtain ⟨c0, c1, c2, c3, c4, c5, c6, c7, c8, c9, c10, c11, c12, c13, c14, c15, c16, c17, c18, c19, c20, c21, c22, c23, c24, c25, c26, c27, c28, c29, c30, c31, rfl⟩ := list32 h
  kernel_rfl
theorem readText_fail {l : List UInt8} {m : Int} {t : List UInt8} {n e : Nat} (h : Oct.readText l m = (t, n, e)) (he : e ≠ 0) : n = 0 ∧ t = [] ∧ e < 100 := by
  unfold Oct.readText at h
  split at h
  · rename_i hx
    have := Oct.readNum_fail (l := l) (v := (Oct.readNum l).1) (n := (Oct.readNum l).2.1) (x := (Oct.readNum l).2.2) rfl hx
    simp only [Prod.mk.injEq] at h
    obtain ⟨rfl, rfl, rfl⟩ := h
    exact ⟨rfl, rfl, by omega⟩
  · split at h
    · simp only [Prod.mk.injEq] at h
      obtain ⟨rfl, rfl, rfl⟩ := h
      exact ⟨rfl, rfl, by omega⟩
    · split at h
      · simp only [Prod.mk.injEq] at h
        obtain ⟨rfl, rfl, rfl⟩ := h
        exact ⟨rfl, rfl, by omega⟩
      · simp only [Prod.mk.injEq] at h
        obtain ⟨_, _, rfl⟩ := h
        exact absurd rfl he
/-- the last step, which is not right. -/
def lastV (s : List UInt8) : Value :=
  let p := (stt s (many s)).2
  let q := Oct.readText (s.drop p) 8192
  if q.2.2 = 0 ∧ p + q.2.1 + 32 ≤ s.length then stepV q.1 (nextL (stt s (many s)).1 q.1) (p + q.2.1 + 32) false else stepV [] zlink 0 false
theorem lastV_form (s : List UInt8) : ∃ r l p, lastV s = stepV r l p false ∧ l.length = 32 := by
  unfold lastV
  simp only
  split
  · exact ⟨_, _, _, rfl, nextL_length _ _⟩
  · exact ⟨_, _, _, rfl, zlink_length⟩
def elV (s : List UInt8) (k : Nat) : Array Value := if k < many s then #[stepV (recAt s k) (stt s (k + 1)).1 (stt s (k + 1)).2 true] else #[lastV s]

set_option maxRecDepth 20000 in
set_option maxHeartbeats 4000000 in
theorem steps_hands (s : List UInt8) (hs : s.length < 100000000) (bs : Nat) (W0 : World) (hb : W0.heap[bs]? = some (.cells #[.string ⟨s.toArray⟩] 9 (0, 0))) (hk : KLaid W0) :
    Hands Tryd.prog 33 #[.pointer (some ⟨bs, 0, none⟩)] (elV s) (many s) (fun b => b = bs ∨ b = 0) W0 := by
  intro l J Jx hJ hJx hY hYK h0
  have HJ := Lib.hid hJ
  have HJX := Lib.hid hJx
  have HY := Lib.hid hY
  have HYK := Lib.hid hYK
  have HK := Lib.hid hk
  have HBS := Lib.hid hb
  have HBL := Lib.hid (lt_of_block hb)
  have HGL := Lib.hid hk.lt
  have HJ0 : Hid (J 0 (W0.alloc (.cells (brow (zrow 32)) 49))) := (hJ 0).alloc _ h0
  have HC0 : Hid ((W0.alloc (.cells (brow (zrow 32)) 49)).heap[W0.heap.size]? = some (.cells (brow zlink) 49 (0, 0))) := heap_alloc_new W0 _
  have HB0 : Hid ((W0.alloc (.cells (brow (zrow 32)) 49)).heap[bs]? = some (.cells #[.string ⟨s.toArray⟩] 9 (0, 0))) := (heap_alloc_old W0 _ (lt_of_block hb)).trans hb
  have HK0 : Hid (KLaid (W0.alloc (.cells (brow (zrow 32)) 49))) := hk.kept (heap_alloc_old W0 _ hk.lt)
  clear hJ hJx hY hYK hk hb h0
  have hz := zero_link
  refine callsIn_of_wp Tryd.func33 rfl trivial ?_ rfl
  simp only [Tryd.ntmps33, List.size_toArray, List.length_cons, List.length_nil, Nat.reduceAdd, Nat.reduceSub, Array.replicate_succ, Array.replicate_zero, List.push_toArray, List.append_toArray, List.nil_append, List.cons_append]
  gi_wp2
  gi_loopw [4] (fun i wr => ∃ k p : Nat, k ≤ many s ∧ i = .int .i64 p ∧ Hid (p = (stt s k).2) ∧ Hid (wr.heap[W0.heap.size]? = some (.cells (brow (stt s k).1) 49 (0, 0))) ∧ Hid (wr.heap[bs]? = some (.cells #[.string ⟨s.toArray⟩] 9 (0, 0))) ∧ Hid (KLaid wr) ∧ Hid (J k wr)) (fun i _ => s.length + 1 - (intOf i).toNat)
  case atStart => exact ⟨0, 0, Nat.zero_le _, rfl, rfl, HC0, HB0, HK0, HJ0⟩
  case round =>
    obtain ⟨k, p, hk, rfl, HP, HC, HB, HKW, HJW⟩ := hrel
    have hpl : p ≤ s.length := by rw [HP.out]; exact at_le s k
    have hcb : wr.cell? ⟨bs, 0, none⟩ = some (.string ⟨s.toArray⟩) := by rw [cell_of_row _ _ _ _ _ _ HB.out]; rfl
    have hpi : (p : Int) ≤ s.length := by omega
    rcases hrt : Oct.readText (s.drop p) 8192 with ⟨r, n, e⟩
    have HRT := Lib.hid hrt
    have htk : List.take (s.length - p) (List.drop p s) = List.drop p s := List.take_of_length_le (by rw [List.length_drop]; omega)
    clear hrt hz
    have HLL := Lib.hid (lt_of_block HC.out)
    by_cases he : e = 0
    · subst he
      obtain ⟨hn1, hn2, hn3, _⟩ := readText_ok HRT.out
      rw [List.length_drop] at hn2
      have hpn : p + n ≤ s.length := by omega
      obtain ⟨q, hq⟩ : ∃ q, q = p + n := ⟨_, rfl⟩
      have e1 : IntKind.i64.wrap ((p : Int) + (n : Int)) = (q : Int) := by rw [IntWalk.i64_in _ (by omega)]; omega
      have e1' : (p : Int) + (n : Int) = (q : Int) := by omega
      have hqi : (q : Int) ≤ s.length := by omega
      have HQ := Lib.hid hq
      by_cases h32 : s.length < q + 32
      · -- too short behind the record
        have hk2 : k = many s := by
          by_cases h : k < many s
          · exfalso
            obtain ⟨r2, n2, hg, _, _⟩ := stt_good (many_good s k h)
            have hg2 := good_some hg
            rw [← HP.out, HRT.out] at hg2
            have := hg2.2.1
            have hn : n = n2 := by have := congrArg (fun x => x.2.1) hg2.1; exact this
            omega
          · omega
        subst hk2
        obtain ⟨fy, ty, ay, by', hy, hR⟩ : YieldAt Fence.wide 0 Tryd.prog l #[stepV [] zlink 0 false] wr _ := by
          have h1 := HYK.out wr HJW.out HLL.out
          have h2 : elV s (many s) = #[stepV [] zlink 0 false] := by
            unfold elV lastV
            simp only
            rw [if_neg (Nat.lt_irrefl _), ← HP.out, HRT.out, if_neg (by simp only; omega)]
          rw [h2] at h1
          exact h1
        have HR := Lib.hid hR
        rw [step_zero] at hy
        have e2 : IntKind.i64.wrap ((s.length : Int) - (q : Int)) = (s.length : Int) - (q : Int) := by rw [IntWalk.i64_in _ (by omega)]
        have h32i : (s.length : Int) - (q : Int) < 32 := by omega
        clear hR hn1 hn2 hn3 hq
        gi_wp2_with fail
        refine ⟨trivial, rfl, ?_⟩
        refine (callsIn_wide.2 (readtext_at' wr (by rw [List.length_drop]; omega) (by omega) HRT.out)).mono ?_; rintro e w' ⟨rfl, rfl⟩
        gi_wp2_with fail
        refine ⟨rfl, ?_⟩
        refine HR.out.mono ?_; rintro e w2 ⟨rfl, hx⟩
        gi_wp2_with fail
        refine bodyPost_ret (results_none rfl _ _ _) rfl ?_
        exact ⟨⟨_, rfl⟩, hx⟩
      · -- a link stands behind the record
        have e2 : IntKind.i64.wrap ((s.length : Int) - (q : Int)) = (s.length : Int) - (q : Int) := by rw [IntWalk.i64_in _ (by omega)]
        have h32i : (32 : Int) ≤ (s.length : Int) - (q : Int) := by omega
        have h32d : decide ((s.length : Int) - (q : Int) < 32) = false := by rw [decide_eq_false_iff_not]; omega
        obtain ⟨lk, hlk⟩ : ∃ lk, lk = (stt s k).1 := ⟨_, rfl⟩
        have HLK : Hid (lk.length = 32) := by rw [hlk]; exact link_length s k
        rw [← hlk] at HC
        have HLK2 := Lib.hid hlk
        have HNL := Lib.hid (nextL_length lk r)
        have hr8 : r.length ≤ 8192 := by omega
        clear hn1 hn2 hn3 hq hlk
        gi_wp2_with fail
        refine ⟨trivial, rfl, ?_⟩
        refine (callsIn_wide.2 (readtext_at' wr (by rw [List.length_drop]; omega) (by omega) HRT.out)).mono ?_; rintro e w' ⟨rfl, rfl⟩
        gi_wp2_with (refine wide_list _ (by rintro ⟨a, w, ⟨v, hv⟩, _⟩; cases hv) _ _ ?_; refine wpList_load_row (o := ⟨some 32, _, _, _, _, _⟩) rfl 49 (.tmp 3) rfl W0.heap.size rfl _ _ _ _ HC.out Tryd.underlying49 rfl (size_link' HLK.out) ?_)
        go_wp2_with fail
        refine (next_any lk r HLK.out (by omega) wr HKW.out).mono ?_; rintro e w5 ⟨rfl, b5⟩
        have HC5 := Lib.hid ((b5.block _ HLL.out).trans HC.out)
        go_wp2_with (refine wpList_self_link (o := ⟨none, .store 49 (.tmp 3) (.tmp 34), _, _, _, _⟩) rfl (.tmp 3) (.tmp 34) rfl W0.heap.size rfl (nextL lk r) lk rfl HC5.out HLK.out HNL.out ?_; intro W6 hW6 hG6)
        have HB6 : Hid (W6.heap[bs]? = some (.cells #[.string ⟨s.toArray⟩] 9 (0, 0))) := by
          show _ = _
          rw [hG6.block bs (Nat.lt_of_lt_of_le (lt_of_block HB.out) b5.size) (fun e => by have := Option.some.inj e; have := HBL.out; omega), b5.block bs (lt_of_block HB.out)]
          exact HB.out
        have HK6 : Hid (KLaid W6) := (HKW.out.below b5).kept (hG6.block _ (Nat.lt_of_lt_of_le HKW.out.lt b5.size) (fun e => by have := Option.some.inj e; have := HGL.out; omega))
        have HJ6 : Hid (J k W6) := by
          have h1 : J k w5 := HJ.out k _ _ none HJW.out ⟨b5.os, b5.tape, b5.output, b5.size, fun j hj _ => b5.block j hj⟩ (fun r e => by cases e)
          exact HJ.out k _ _ (some W0.heap.size) h1 hG6 (fun r e => by have := Option.some.inj e; omega)
        have HC6 := Lib.hid hW6
        have HL6 := Lib.hid (lt_of_block hW6)
        clear b5 hW6 hG6
        obtain ⟨m, hm⟩ : ∃ m, m = nextL lk r := ⟨_, rfl⟩
        rw [← hm] at HC6 HNL
        have HM := Lib.hid hm
        clear hm
        obtain ⟨x, hx⟩ : ∃ x, x = List.take 32 (List.drop q s) := ⟨_, rfl⟩
        have HX := Lib.hid hx
        have HXL : Hid (x.length = 32) := by show _ = _; rw [hx, List.length_take, List.length_drop]; omega
        have e3 : IntKind.i64.wrap ((q : Int) + 32) = (q : Int) + 32 := by rw [IntWalk.i64_in _ (by omega)]
        have e4 : (q : Int) + 32 ≤ s.length := by omega
        have e5 : List.take (q + 32 - q) (List.drop q s) = x := by rw [hx, Nat.add_sub_cancel_left]
        have e6 : ((q : Int) + 32).toNat = q + 32 := by omega
        clear hx
        have hEq : ∀ W, (binOp .eql 49 (.agg (brow x)) (.agg (bcells m).toArray)).run Tryd.prog W = .ok (.bool (x == m)) W := fun W => eql_link x m HXL.out HNL.out W
        have hu := Tryd.underlying49
        have hcl : (bcells m).length = 32 := by rw [bcells_length]; exact HNL.out
        have hi : (Tryd.prog.info? 49).map (·.size) = some (bcells m).length := by rw [hcl]; exact size_link
        have hone := bcells_one m
        have HCW : Hid (∀ W, Below W6.heap.size W6 W → W.cell? ⟨bs, 0, none⟩ = some (.string ⟨s.toArray⟩) ∧ W.rangeAt W0.heap.size 0 (bcells m)) := fun W hW =>
          ⟨by rw [cell_of_row _ _ _ _ _ _ ((hW.block bs (lt_of_block HB6.out)).trans HB6.out)]; rfl, fun j v hv => by rw [Nat.zero_add, cell_of_row _ _ _ _ _ _ ((hW.block _ HL6.out).trans HC6.out)]; simpa [brow] using hv⟩
        refine wpIn_seq (wpIn_wide.2 ?_)
        have hd := HCW.out W6.drew (Below.refl _ _).drew
        have hd1 := hd.1
        have hd2 := hd.2
        have HOF : Hid (∀ W, Calls Tryd.prog 28 #[.string ⟨(List.take 32 (List.drop q s)).toArray⟩] W fun e w' => e = .returned (.agg (brow x)) ∧ Below W.heap.size W w') := fun W => by rw [← HX.out]; exact of_any x HXL.out W
        have k1 : (0 : Int) ≤ (q : Int) := by omega
        have k2 : (q : Int) ≤ (q : Int) + 32 := by omega
        have k3 : q + 32 ≤ s.length := by omega
        clear hd
        go_region_held3 (fun w' => w'.cell? ⟨bs, 0, none⟩ = some (.string ⟨s.toArray⟩) ∧ w'.rangeAt W0.heap.size 0 (bcells m)) (constructor <;> assumption) (first | (go_at_call 28; (with_reducible refine (HOF.out _).mono ?_); rintro e w7 ⟨rfl, b7⟩; replace b7 := (Below.refl W6.heap.size W6).drew.trans b7; obtain ⟨hd3, hd4⟩ := HCW.out w7 b7; have B7 := Lib.hid b7; clear b7) | fail)
        change Code.wpIn _ _ _ _ _ _ _
        have HC7 := Lib.hid ((B7.out.block _ HL6.out).trans HC6.out)
        have HB7 := Lib.hid ((B7.out.block _ (lt_of_block HB6.out)).trans HB6.out)
        have HK7 : Hid (KLaid w7) := HK6.out.below B7.out
        have HJ7 : Hid (J k w7) := HJ.out k _ _ none HJ6.out ⟨B7.out.os, B7.out.tape, B7.out.output, B7.out.size, fun j hj _ => B7.out.block j hj⟩ (fun r e => by cases e)
        have HL7 : Hid (W0.heap.size < w7.heap.size) := lt_of_block HC7.out
        have HBD : Hid (∀ (b : Bool) W, (Instr.build 51 #[(0, .string ⟨r.toArray⟩), (1, .agg (brow m)), (2, .int .i64 ((q : Int) + 32)), (3, .bool b)]).run Tryd.prog W = .ok (stepV r m (q + 32) b) W) := fun b W => by
          rw [show ((q : Int) + 32) = ((q + 32 : Nat) : Int) by omega]
          exact build_step r m (q + 32) b HNL.out W
        by_cases hxm : x = m
        · -- the link is right
          have hc : good s (stt s k).1 (stt s k).2 = some (r, n) := by
            unfold good
            rw [← HP.out, HRT.out, ← HLK2.out, if_pos ⟨rfl, by have := HQ.out; simp only; omega, by simp only; rw [← HQ.out, ← HX.out, hxm, HM.out]⟩]
          have hgk : isGood s k = true := by unfold isGood; rw [hc]; rfl
          have hkm : k < many s := by
            by_cases h : k = many s
            · rw [h, many_end] at hgk; cases hgk
            · omega
          have hst : stt s (k + 1) = (m, q + 32) := by
            simp only [stt, hc]
            rw [← HLK2.out, ← HM.out, ← HP.out]
            have := HQ.out
            rw [this]
          have hrec : recAt s k = r := by unfold recAt; rw [hc]
          obtain ⟨fy, ty, ay, by', hy, hR⟩ : YieldAt Fence.wide 0 Tryd.prog l #[stepV r m (q + 32) true] w7 _ := by
            have h1 := HY.out k w7 hkm HJ7.out HL7.out
            have h2 : elV s k = #[stepV r m (q + 32) true] := by unfold elV; rw [if_pos hkm, hst, hrec]
            rw [h2] at h1
            exact h1
          have HR := Lib.hid hR
          have HST := Lib.hid hst
          have hxb : (x == m) = true := by rw [beq_iff_eq]; exact hxm
          rw [hxb]
          have HKM := Lib.hid hkm
          clear hR hxm hxb hc hgk hkm hst hrec hEq hi hone hd1 hd2 e5
          gi_wp2_with (first
            | (refine wide_load_row (o := ⟨some 47, _, _, _, _, _⟩) rfl 49 (.tmp 3) rfl W0.heap.size rfl _ _ _ _ HC7.out Tryd.underlying49 rfl (size_link' HNL.out) ?_)
            | (refine wide_build4 (o := ⟨some 50, _, _, _, _, _⟩) rfl 51 (.tmp 46) (.tmp 47) (.tmp 48) (.tmp 49) rfl (.string ⟨r.toArray⟩) (.agg (brow m)) (.int .i64 ((q : Int) + 32)) (.bool true) (stepV r m (q + 32) true) rfl rfl rfl rfl (HBD.out true) ?_))
          refine ⟨rfl, ?_⟩
          refine HR.out.mono ?_; rintro e w8 ⟨rfl, hj8, hkept⟩
          have HC8 : Hid (w8.heap[W0.heap.size]? = some (.cells (brow m) 49 (0, 0))) := (hkept.2 _ (.inr rfl)).trans HC7.out
          have HB8 : Hid (w8.heap[bs]? = some (.cells #[.string ⟨s.toArray⟩] 9 (0, 0))) := (hkept.2 _ (.inl (.inl rfl))).trans HB7.out
          have HK8 : Hid (KLaid w8) := HK7.out.kept (hkept.2 _ (.inl (.inr rfl)))
          have HJ8 := Lib.hid hj8
          clear hj8 hkept
          gi_wp2_with fail
          go_roundw
          case rel => exact ⟨k + 1, q + 32, HKM.out, by go_num, Lib.hid (by rw [HST.out]), Lib.hid (by rw [HST.out]; exact HC8.out), HB8, HK8, HJ8⟩
          case measure => simp [intOf]; have := HQ.out; omega
        · have hkm : k = many s := by
            by_cases h : k < many s
            · exfalso
              obtain ⟨r2, n2, hg, _, _⟩ := stt_good (many_good s k h)
              have h3 := good_some hg
              rw [← HP.out, HRT.out] at h3
              have h4 := h3.1
              simp only [Prod.mk.injEq, and_true] at h4
              obtain ⟨rfl, rfl⟩ := h4
              exact hxm (by rw [HX.out, HQ.out, h3.2.2, HM.out, HLK2.out])
            · omega
          subst hkm
          obtain ⟨fy, ty, ay, by', hy, hR⟩ : YieldAt Fence.wide 0 Tryd.prog l #[stepV r m (q + 32) false] w7 _ := by
            have h1 := HYK.out w7 HJ7.out HL7.out
            have h2 : elV s (many s) = #[stepV r m (q + 32) false] := by
              unfold elV lastV
              simp only
              rw [if_neg (Nat.lt_irrefl _), ← HP.out, HRT.out, if_pos ⟨rfl, by have := HQ.out; simp only; omega⟩, ← HLK2.out]
              simp only
              rw [← HM.out, ← HQ.out]
            rw [h2] at h1
            exact h1
          have HR := Lib.hid hR
          have hxb : (x == m) = false := by rw [beq_eq_false_iff_ne]; exact hxm
          rw [hxb]
          clear hR hxm hxb hEq hi hone hd1 hd2 e5
          gi_wp2_with (first
            | (refine wide_load_row (o := ⟨some 47, _, _, _, _, _⟩) rfl 49 (.tmp 3) rfl W0.heap.size rfl _ _ _ _ HC7.out Tryd.underlying49 rfl (size_link' HNL.out) ?_)
            | (refine wide_build4 (o := ⟨some 50, _, _, _, _, _⟩) rfl 51 (.tmp 46) (.tmp 47) (.tmp 48) (.tmp 49) rfl (.string ⟨r.toArray⟩) (.agg (brow m)) (.int .i64 ((q : Int) + 32)) (.bool false) (stepV r m (q + 32) false) rfl rfl rfl rfl (HBD.out false) ?_))
          refine ⟨rfl, ?_⟩
          refine HR.out.mono ?_; rintro e w8 ⟨rfl, hx⟩
          gi_wp2_with fail
          refine bodyPost_ret (results_none rfl _ _ _) rfl ?_
          exact ⟨⟨_, rfl⟩, hx⟩
    · obtain ⟨rfl, rfl, he2⟩ := readText_fail HRT.out he
      have hk2 : k = many s := by
        by_cases h : k < many s
        · exfalso
          obtain ⟨r2, n2, hg, _, _⟩ := stt_good (many_good s k h)
          have := (good_some hg).1
          rw [← HP.out, HRT.out] at this
          simp only [Prod.mk.injEq] at this
          exact he this.2.2
        · omega
      subst hk2
      obtain ⟨fy, ty, ay, by', hy, hR⟩ : YieldAt Fence.wide 0 Tryd.prog l #[stepV [] zlink 0 false] wr _ := by
        have h1 := HYK.out wr HJW.out HLL.out
        have h2 : elV s (many s) = #[stepV [] zlink 0 false] := by
          unfold elV lastV
          simp only
          rw [if_neg (Nat.lt_irrefl _), ← HP.out, HRT.out, if_neg (by simp only; omega)]
        rw [h2] at h1
        exact h1
      have HR := Lib.hid hR
      rw [step_zero] at hy
      have hx1 : ((e : Int) == 0) = false := by rw [beq_eq_false_iff_ne]; omega
      have hx2 : ((e : Int) != 0) = true := by rw [bne_iff_ne]; omega
      clear hR he
      gi_wp2_with fail
      refine ⟨trivial, rfl, ?_⟩
      refine (callsIn_wide.2 (readtext_at' wr (by rw [List.length_drop]; omega) (by omega) HRT.out)).mono ?_; rintro e w' ⟨rfl, rfl⟩
      gi_wp2_with fail
      refine ⟨rfl, ?_⟩
      refine HR.out.mono ?_; rintro e w2 ⟨rfl, hx⟩
      gi_wp2_with fail
      refine bodyPost_ret (results_none rfl _ _ _) rfl ?_
      exact ⟨⟨_, rfl⟩, hx⟩
end Go.Proofs.YtdmoolfalcdbjaaDoor

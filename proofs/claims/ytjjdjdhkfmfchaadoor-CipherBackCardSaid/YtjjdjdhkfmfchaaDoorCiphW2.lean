/- The walks of cipher's bytes and turned. -/
import Derived.Test.YtjjdjdhkfmfchaaDoorCiphIt
import Derived.Test.YtjjdjdhkfmfchaaDoorRound
import Derived.Test.YtjjdjdhkfmfchaaDoorScope
import Derived.Test.YtjjdjdhkfmfchaaDoorHmacW3
namespace Go.Proofs.YtjjdjdhkfmfchaaDoor
set_option linter.unusedVariables false
set_option linter.unusedSimpArgs false
open Go.RowKit Sha Ciph
attribute [local go_sem] Oper.semAt_some hs_get_mk

set_option maxRecDepth 20000 in
theorem cbytes_any (a b : Nat) (nonce : List UInt8) (w : World) :
    Calls Tryd.prog 22 #[.agg (pairV a b), .string ⟨nonce.toArray⟩] w fun e w' => e = .returned (.func (.func 29) #[] #[.pointer (some ⟨w.heap.size, 0, none⟩), .pointer (some ⟨w.heap.size + 1, 0, none⟩)]) ∧
      w' = (w.alloc (.cells (pairV a b) 36)).alloc (.cells #[.string ⟨nonce.toArray⟩] 9) := by
  go_enter Tryd.func22, Tryd.ntmps22
  go_wp2
  go_ret
  exact ⟨rfl, rfl⟩

/-- what lies between the rounds: the row so far, of s.length bytes' room, at block r, its variable at block c; the text at block sb. -/
def TurnI (key nonce s : List UInt8) (w V : World) (r c sb : Nat) (k : Nat) (G : Nat → Prop) (W : World) : Prop :=
  W.heap[c]? = some (.cells #[.slice (some ⟨r, 0, none⟩) k s.length] 31 (0, 0)) ∧ W.heap[sb]? = some (.cells #[.string ⟨s.toArray⟩] 9 (0, 0)) ∧
    (∃ cur : Array Value, W.heap[r]? = some (.cells cur 5 (0, 0)) ∧ cur.size = s.length ∧ cur.toList.take k = bcells (strm key nonce (s.take k))) ∧ Below w.heap.size w W ∧ V.heap.size ≤ W.heap.size ∧ ∀ b, G b → V.heap.size ≤ b ∧ b < W.heap.size
theorem TurnI.stable (key nonce s : List UInt8) (w V : World) (r c sb : Nat) (hr : r < V.heap.size) (hc : c < V.heap.size) (hsb : sb < V.heap.size) (hw : w.heap.size ≤ V.heap.size) (k : Nat) : StableG V.heap.size (V.heap.size + 2) (TurnI key nonce s w V r c sb k) := by
  constructor
  · rintro G A B row ⟨h1, h2, ⟨cur, h3, h4, h5⟩, h6, h7, h8⟩ hg hrow
    have hne : ∀ b, b < V.heap.size → some b ≠ row := fun b hb e => by
      rcases hrow b e.symm with h | h
      · omega
      · have := h8 b h; omega
    refine ⟨(hg.block _ (lt_of_block h1) (hne _ hc)).trans h1, (hg.block _ (lt_of_block h2) (hne _ hsb)).trans h2, ⟨cur, (hg.block _ (lt_of_block h3) (hne _ hr)).trans h3, h4, h5⟩, ?_, Nat.le_trans h7 hg.size, fun b hb => ⟨(h8 b hb).1, Nat.lt_of_lt_of_le (h8 b hb).2 hg.size⟩⟩
    refine h6.grown hg h6.size (fun k e => ?_)
    rcases hrow k e with h | h
    · omega
    · have := h8 k h; omega
  · rintro G A B ⟨h1, h2, ⟨cur, h3, h4, h5⟩, h6, h7, h8⟩ hg
    refine ⟨(hg.block _ (lt_of_block h1) (by simp)).trans h1, (hg.block _ (lt_of_block h2) (by simp)).trans h2, ⟨cur, (hg.block _ (lt_of_block h3) (by simp)).trans h3, h4, h5⟩, h6.grown hg h6.size (fun k e => by cases e), Nat.le_trans h7 hg.size, ?_⟩
    rintro b (h | h)
    · exact ⟨(h8 b h).1, Nat.lt_of_lt_of_le (h8 b h).2 hg.size⟩
    · exact ⟨by omega, h.2⟩
theorem TurnI.ext (key nonce s : List UInt8) (w V : World) (r c sb : Nat) (hr : r < V.heap.size) (hc : c < V.heap.size) (hsb : sb < V.heap.size) (hw : w.heap.size ≤ V.heap.size) (k : Nat) : Stable V.heap.size (V.heap.size + 2) (fun W => ∃ G, TurnI key nonce s w V r c sb k G W) := by
  rintro A B row ⟨G, h⟩ hg hrow
  exact ⟨G, (TurnI.stable key nonce s w V r c sb hr hc hsb hw k).turn G A B row h hg (fun r e => .inl (hrow r e))⟩

theorem zip_one' (p : Tmp) (v : Value) (t : Array Value) : ((#[p] : Array Tmp).zip #[v]).foldl (fun t (p, v) => t.setIfInBounds p v) t = t.setIfInBounds p v := by simp
theorem heap_alloc2_old (w : World) (A B : Obj) : ((w.alloc A).alloc B).heap[w.heap.size]? = some A := by
  rw [heap_alloc_old _ _ (by simp), heap_alloc_new]
theorem run_make_row (W : World) (n : Nat) (hn : n < 1000000) :
    ∃ W' cur, (Instr.makeSlice 31 (.int .i64 0) (.int .i64 n)).run Tryd.prog W = .ok (.slice (some ⟨W.heap.size, 0, none⟩) 0 n) W' ∧ W'.heap[W.heap.size]? = some (.cells cur 5 (0, 0)) ∧ cur.size = n ∧ W.grownBy W' none := by
  obtain ⟨i0, hi, hz0, hz1, hz2⟩ := info_parts info_u8
  obtain ⟨w', hr, hown, hg⟩ := run_make_own (P := Tryd.prog) W W.heap.size 31 5 i0 _ 1 Tryd.underlying31 hi hz0 hz1 .i64 .i64 n (by rw [hz2]; omega) (by unfold maxLen; omega) (Nat.le_refl _)
  rcases hown.2 with ⟨h, _⟩ | ⟨g, cap, cur, h, _, hh, _, _, hs, _⟩
  · simp at h
  · injection h with e1 e2 e3
    injection e1 with e1
    injection e1 with e1 _ _
    subst e1 e3
    exact ⟨w', cur, hr, hh, by simpa using hs, hg⟩

set_option maxRecDepth 20000 in
set_option maxHeartbeats 4000000 in
theorem turned_any (a b : Nat) (k nonce s : List UInt8) (hn : nonce.length < 1000000) (hs : s.length < 1000000) (w : World) (hk : KLaid w) (ha : KeyAt w a k) :
    Calls Tryd.prog 15 #[.agg (pairV a b), .string ⟨nonce.toArray⟩, .string ⟨s.toArray⟩] w fun e w' => e = .returned (.string ⟨(strm k nonce s).toArray⟩) ∧ Below w.heap.size w w' := by
  have HK := Lib.hid hk
  have HKA := Lib.hid ha
  clear hk ha
  obtain ⟨W2, hW2⟩ : ∃ W2, W2 = (w.alloc (.cells (pairV a b) 36)).alloc (.cells #[.string ⟨s.toArray⟩] 9) := ⟨_, rfl⟩
  have hsz2 : W2.heap.size = w.heap.size + 1 + 1 := by rw [hW2]; simp
  obtain ⟨W3, cur3, hr3, hown3, hcs3, hg3⟩ := run_make_row W2 s.length hs
  have HS2 : Hid (W2.heap[w.heap.size + 1]? = some (.cells #[.string ⟨s.toArray⟩] 9 (0, 0))) := by
    show _ = _
    have := heap_alloc_new (w.alloc (.cells (pairV a b) 36)) (.cells #[.string ⟨s.toArray⟩] 9)
    rw [World.size_alloc] at this
    rw [hW2]
    exact this
  have HP2 : Hid (W2.heap[w.heap.size]? = some (.cells (pairV a b) 36 (0, 0))) := by
    show _ = _
    rw [hW2, heap_alloc_old _ _ (by simp), heap_alloc_new]
  have HB2 : Hid (Below w.heap.size w W2) := by
    show Below _ _ _
    rw [hW2]
    exact ((Below.refl _ _).alloc (Nat.le_refl _) _).alloc (by simp) _
  rw [hsz2] at hr3 hown3
  have HO3 := Lib.hid hown3
  have HG3 := Lib.hid hg3
  have HSZ2 := Lib.hid hsz2
  rw [hW2] at hr3
  have hc4 : (W3.alloc (.cells #[.slice (some ⟨w.heap.size + 1 + 1, 0, none⟩) 0 s.length] 31)).cell? ⟨w.heap.size + 1, 0, none⟩ = some (.string ⟨s.toArray⟩) := by rw [cell_of_row _ _ _ _ _ _ ((heap_alloc_old W3 _ (Nat.lt_of_lt_of_le (lt_of_block HS2.out) hg3.size)).trans ((hg3.block _ (lt_of_block HS2.out) (by simp)).trans HS2.out))]; rfl
  have hc3 : W3.cell? ⟨w.heap.size + 1, 0, none⟩ = some (.string ⟨s.toArray⟩) := by rw [cell_of_row _ _ _ _ _ _ ((hg3.block _ (lt_of_block HS2.out) (by simp)).trans HS2.out)]; rfl
  have HW2 := Lib.hid hW2
  clear hown3 hg3 hW2 hsz2
  by_cases h0 : s = []
  · subst h0
    have hr4 : (Instr.makeSlice 31 (.int .i64 0) (.int .i64 0)).run Tryd.prog ((w.alloc (.cells (pairV a b) 36)).alloc (.cells #[.string ⟨#[]⟩] 9)) = .ok (.slice (some ⟨w.heap.size + 1 + 1, 0, none⟩) 0 0) W3 := hr3
    have hc5 : (W3.alloc (.cells #[.slice (some ⟨w.heap.size + 1 + 1, 0, none⟩) 0 0] 31)).cell? ⟨w.heap.size + 1, 0, none⟩ = some (.string ⟨#[]⟩) := hc4
    clear hr3 hc4 hc3
    have HBE : Hid (Below w.heap.size w (W3.alloc (.cells #[.slice (some ⟨w.heap.size + 1 + 1, 0, none⟩) 0 0] 31))) := by
      have h1 := HB2.out.grown HG3.out (by have := HSZ2.out; omega) (fun k e => by cases e)
      exact h1.alloc h1.size _
    refine (callsIn_wide (n := 0)).1 (callsIn_of_wp_marks Tryd.func15 rfl trivial ?_ rfl)
    simp only [Tryd.ntmps15, List.size_toArray, List.length_cons, List.length_nil, Nat.reduceAdd, Nat.reduceSub, Array.replicate_succ, Array.replicate_zero, List.push_toArray, List.append_toArray, List.nil_append, List.cons_append]
    gi_wp2_with fail
    exact ⟨_, results_tmp rfl _ _ _, rfl, HBE.out⟩
  · have hne : (s == []) = false := by rw [beq_eq_false_iff_ne]; exact h0
    have hp4 : (W3.alloc (.cells #[.slice (some ⟨w.heap.size + 1 + 1, 0, none⟩) 0 s.length] 31)).heap[w.heap.size]? = some (.cells (pairV a b) 36 (0, 0)) :=
      (heap_alloc_old W3 _ (Nat.lt_of_lt_of_le (lt_of_block HP2.out) HG3.out.size)).trans ((HG3.out.block _ (lt_of_block HP2.out) (by simp)).trans HP2.out)
    have hq1 : (W3.alloc (.cells #[.slice (some ⟨w.heap.size + 1 + 1, 0, none⟩) 0 s.length] 31)).cell? ⟨w.heap.size, 0, none⟩ = some (.pointer (some ⟨a, 0, none⟩)) := by rw [cell_of_row _ _ _ _ _ _ hp4]; rfl
    have hq2 : (W3.alloc (.cells #[.slice (some ⟨w.heap.size + 1 + 1, 0, none⟩) 0 s.length] 31)).cell? ⟨w.heap.size, 1, none⟩ = some (.pointer (some ⟨b, 0, none⟩)) := by rw [cell_of_row _ _ _ _ _ _ hp4]; rfl
    clear hp4
    refine (callsIn_wide (n := 0)).1 (callsIn_of_wp_marks Tryd.func15 rfl trivial ?_ rfl)
    simp only [Tryd.ntmps15, List.size_toArray, List.length_cons, List.length_nil, Nat.reduceAdd, Nat.reduceSub, Array.replicate_succ, Array.replicate_zero, List.push_toArray, List.append_toArray, List.nil_append, List.cons_append]
    gi_wp2_with fail
    refine ⟨trivial, rfl, ?_⟩
    have HT4 : Hid (TurnI k nonce s w w (w.heap.size + 1 + 1) W3.heap.size (w.heap.size + 1) 0 (fun _ => False) (W3.alloc (.cells #[.slice (some ⟨w.heap.size + 1 + 1, 0, none⟩) 0 s.length] 31))) := by
      have h1 := HB2.out.grown HG3.out (by have := HSZ2.out; omega) (fun k e => by cases e)
      refine ⟨heap_alloc_new W3 _, (heap_alloc_old W3 _ (Nat.lt_of_lt_of_le (lt_of_block HS2.out) HG3.out.size)).trans ((HG3.out.block _ (lt_of_block HS2.out) (by simp)).trans HS2.out), ?_, h1.alloc h1.size _, (h1.alloc h1.size _).size, fun b h => h.elim⟩
      exact ⟨cur3, (heap_alloc_old W3 _ (lt_of_block HO3.out)).trans HO3.out, hcs3, by simp [strm, strmF, bcells]⟩
    refine (callsIn_wide.2 (cbytes_any a b nonce _)).mono ?_; rintro e w5 ⟨rfl, rfl⟩
    gi_wp2_with fail
    obtain ⟨w4, hw4⟩ : ∃ w4, w4 = W3.alloc (.cells #[.slice (some ⟨w.heap.size + 1 + 1, 0, none⟩) 0 s.length] 31) := ⟨_, rfl⟩
    have HL4 : Hid (W3.heap.size < w4.heap.size ∧ w.heap.size + 1 + 1 < w4.heap.size) := by
      have := lt_of_block HO3.out
      show _ ∧ _; rw [hw4]; simp; omega
    rw [← hw4] at HT4
    rw [← hw4]
    have HPB := Lib.hid (heap_alloc2_old w4 (.cells (pairV a b) 36) (.cells #[.string ⟨nonce.toArray⟩] 9))
    have HNB := Lib.hid (heap_alloc2_new w4 (.cells (pairV a b) 36) (.cells #[.string ⟨nonce.toArray⟩] 9))
    have HTV : Hid (TurnI k nonce s w ((w4.alloc (.cells (pairV a b) 36)).alloc (.cells #[.string ⟨nonce.toArray⟩] 9)) (w.heap.size + 1 + 1) W3.heap.size (w.heap.size + 1) 0 (fun _ => False) ((w4.alloc (.cells (pairV a b) 36)).alloc (.cells #[.string ⟨nonce.toArray⟩] 9))) := by
      obtain ⟨h1, h2, ⟨cur, h3, h4, h5⟩, h6, h7, h8⟩ := HT4.out
      exact ⟨(heap_alloc_old _ _ (by have := lt_of_block h1; simp; omega)).trans ((heap_alloc_old _ _ (lt_of_block h1)).trans h1), (heap_alloc_old _ _ (by have := lt_of_block h2; simp; omega)).trans ((heap_alloc_old _ _ (lt_of_block h2)).trans h2),
        ⟨cur, (heap_alloc_old _ _ (by have := lt_of_block h3; simp; omega)).trans ((heap_alloc_old _ _ (lt_of_block h3)).trans h3), h4, h5⟩, (h6.alloc h6.size _).alloc (by have := h6.size; simp; omega) _, Nat.le_refl _, fun b h => h.elim⟩
    have HLV : Hid (w4.heap.size + 2 = ((w4.alloc (.cells (pairV a b) 36)).alloc (.cells #[.string ⟨nonce.toArray⟩] 9)).heap.size) := by show _ = _; simp
    generalize (w4.alloc (.cells (pairV a b) 36)).alloc (.cells #[.string ⟨nonce.toArray⟩] 9) = V at *
    have hs4 : w4.heap.size = W3.heap.size + 1 := by rw [hw4]; simp
    clear hw4
    rw [hs4] at HPB HNB HLV HL4
    obtain ⟨n, hn1⟩ : ∃ n, s.length = n + 1 := ⟨s.length - 1, by have : s.length ≠ 0 := fun h => h0 (List.eq_nil_of_length_eq_zero h); omega⟩
    have hr1 : w.heap.size + 1 + 1 < V.heap.size := by have := HL4.out; have := HLV.out; omega
    have hr2 : W3.heap.size < V.heap.size := by have := HL4.out; have := HLV.out; omega
    refine wpIn_rangeFunc_breakG (gf := 29) (lb := #[.pointer (some ⟨W3.heap.size + 1, 0, none⟩), .pointer (some ⟨W3.heap.size + 1 + 1, 0, none⟩)]) rfl (enters_of Tryd.func29 (by kernel_rfl) rfl)
      (el := fun i => #[.int .u8 (by8 (Ciph.sb k nonce i))]) (K := n) (keep := fun x => x < w.heap.size ∨ x = W3.heap.size + 1 ∨ x = W3.heap.size + 1 + 1) ?_ 0 ?_ ?_
      (TurnI k nonce s w V (w.heap.size + 1 + 1) W3.heap.size (w.heap.size + 1)) (fun W => ∃ G, TurnI k nonce s w V (w.heap.size + 1 + 1) W3.heap.size (w.heap.size + 1) (n + 1) G W)
      (TurnI.stable k nonce s w V _ _ _ hr1 hr2 (by omega) (by omega)) (TurnI.ext k nonce s w V _ _ _ hr1 hr2 (by omega) (by omega) _) HTV.out ?_ ?_
    · rintro x (h | rfl | rfl)
      · omega
      · have := HLV.out; omega
      · have := HLV.out; omega
    · intro W0 hg hs0
      refine bytes_hands a b (W3.heap.size + 1) (W3.heap.size + 1 + 1) n k nonce hn (by omega) w HKA.out HK.out W0 ((hg.block _ (lt_of_block HPB.out) (by simp)).trans HPB.out) ((hg.block _ (lt_of_block HNB.out) (by simp)).trans HNB.out) ?_
      obtain ⟨_, _, _, h6, _, _⟩ := HTV.out
      exact ⟨Nat.le_trans h6.size hg.size, fun j hj => (hg.block j (Nat.lt_of_lt_of_le hj h6.size) (by simp)).trans (h6.block j hj)⟩
    · intro i; rfl
    · intro l i G W hl hi hlt hG hI
      simp only [zip_one', List.setIfInBounds_toArray, List.set_cons_zero, List.set_cons_succ]
      gi_wp2_with fail
      refine ⟨Kept.refl _ _, ?_⟩
      intro W2 hg2
      have hI2 := (TurnI.stable k nonce s w V _ _ _ hr1 hr2 (by omega) (by omega) i).turn G _ _ _ hI hg2 (fun r e => .inl (by cases e; omega))
      have hI3 := hI2
      obtain ⟨q1, q2, ⟨cur, q3, q4, q5⟩, q6, q7, q8⟩ := hI3
      have hin : i < s.length := by omega
      have hii : (i : Int) < s.length := by omega
      have hi0 : (0 : Int) ≤ i := by omega
      obtain ⟨z, hz⟩ : ∃ z, z = s[i] ^^^ Ciph.sb k nonce i := ⟨_, rfl⟩
      have hx : bits .xor .u8 (by8 s[i]) (by8 (Ciph.sb k nonce i)) = by8 z := by rw [hz]; exact by8_xor _ _
      have HZ := Lib.hid hz
      have HN1 := Lib.hid hn1
      clear hz hn1
      gi_wp2_with fail
      refine round_region_held (S := fun w' => w'.heap[w.heap.size + 1]? = some (.cells #[.string ⟨s.toArray⟩] 9 (0, 0))) (by kernel_rfl) (by kernel_rfl) (by rintro ⟨a, w, h⟩; exact h) ?_
      refine held_take 1 (.string ⟨s.toArray⟩) (oi := ⟨some 20, _, _, _, _, _⟩) rfl (by kernel_rfl) (by kernel_rfl) (by kernel_rfl) rfl (fun _ _ _ h => h) (by
        intro w' hSw
        have : w'.cell? ⟨w.heap.size + 1, 0, none⟩ = some (.string ⟨s.toArray⟩) := by rw [cell_of_row _ _ _ _ _ _ hSw]; rfl
        go_simp) q2 ?_
      simp only [Act.put, List.setIfInBounds_toArray, List.set_cons_zero, List.set_cons_succ]
      refine held_take 5 (.int .u8 (by8 (Ciph.sb k nonce i))) (oi := ⟨some 24, _, _, _, _, _⟩) rfl (by kernel_rfl) (by kernel_rfl) (by kernel_rfl) rfl (fun _ _ _ h => h) (by intro w' hSw; clear hSw; go_simp) q2 ?_
      simp only [Act.put, List.setIfInBounds_toArray, List.set_cons_zero, List.set_cons_succ]
      have hcl : W2.drew.cell? ⟨W3.heap.size, 0, none⟩ = some (.slice (some ⟨w.heap.size + 1 + 1, 0, none⟩) i s.length) := by rw [cell_of_row _ _ _ _ _ _ (show W2.drew.heap[W3.heap.size]? = _ from q1)]; rfl
      have hsl : Hid ((W2.drew.alloc (.cells #[.int .u8 (by8 z)] 5)).heap[w.heap.size + 1]? = some (.cells #[.string ⟨s.toArray⟩] 9 (0, 0))) := (heap_alloc_old W2.drew _ (lt_of_block q2)).trans q2
      have hcl2 : (W2.drew.alloc (.cells #[.int .u8 (by8 z)] 5)).cell? ⟨W3.heap.size, 0, none⟩ = some (.slice (some ⟨w.heap.size + 1 + 1, 0, none⟩) i s.length) := by rw [cell_of_row _ _ _ _ _ _ ((heap_alloc_old W2.drew (.cells #[.int .u8 (by8 z)] 5) (lt_of_block q1)).trans q1)]; rfl
      have hcl3 : ((W2.alloc (.cells #[.int .u8 (by8 z)] 5)).drew).cell? ⟨W3.heap.size, 0, none⟩ = some (.slice (some ⟨w.heap.size + 1 + 1, 0, none⟩) i s.length) := hcl2
      refine wpAnyH_all (rs := [0, 2]) (by kernel_rfl) (by simp) ?_
      intro jj hj
      have hj' : jj = 0 ∨ jj = 2 := by simpa using hj
      clear hj
      rcases hj' with rfl | rfl
      refine wpOp_value (o := ⟨some 19, _, _, _, _, _⟩) (v := (.slice (some ⟨w.heap.size + 1 + 1, 0, none⟩) i s.length)) (w' := W2.drew) rfl rfl (by go_simp) ⟨q2, ?_⟩
      simp only [Act.put, List.setIfInBounds_toArray, List.set_cons_zero, List.set_cons_succ]
      refine held_value 2 (o := ⟨some 21, _, _, _, _, _⟩) (v := (.slice (some ⟨w.heap.size + 1 + 1, 0, none⟩) i s.length)) (w' := W2.drew) (by kernel_rfl) rfl rfl (by go_simp) q2 ?_
      simp only [Act.put, List.setIfInBounds_toArray, List.set_cons_zero, List.set_cons_succ]
      refine held_take 3 (.int .i64 i) (oi := ⟨some 22, _, _, _, _, _⟩) rfl (by kernel_rfl) (by kernel_rfl) (by kernel_rfl) rfl (fun _ _ _ h => h) (by intro w' hSw; clear hSw; go_simp) q2 ?_
      simp only [Act.put, List.setIfInBounds_toArray, List.set_cons_zero, List.set_cons_succ]
      refine held_take 4 (.int .u8 (by8 s[i])) (oi := ⟨some 23, _, _, _, _, _⟩) rfl (by kernel_rfl) (by kernel_rfl) (by kernel_rfl) rfl (fun _ _ _ h => h) (by intro w' hSw; clear hSw; go_simp; rfl) q2 ?_
      simp only [Act.put, List.setIfInBounds_toArray, List.set_cons_zero, List.set_cons_succ]
      refine held_take 6 (.int .u8 (by8 z)) (oi := ⟨some 25, _, _, _, _, _⟩) rfl (by kernel_rfl) (by kernel_rfl) (by kernel_rfl) rfl (fun _ _ _ h => h) (by intro w' hSw; clear hSw; go_simp) q2 ?_
      simp only [Act.put, List.setIfInBounds_toArray, List.set_cons_zero, List.set_cons_succ]
      refine held_value 7 (o := ⟨some 26, _, _, _, _, _⟩) (v := .slice (some ⟨W2.heap.size, 0, none⟩) 1 1) (w' := (W2.drew.alloc (.cells #[.int .u8 (by8 z)] 5))) (by kernel_rfl) rfl rfl (by kernel_rfl) hsl.out ?_
      simp only [Act.put, List.setIfInBounds_toArray, List.set_cons_zero, List.set_cons_succ]
      rotate_left
      refine wpOp_value (o := ⟨some 21, _, _, _, _, _⟩) (v := (.slice (some ⟨w.heap.size + 1 + 1, 0, none⟩) i s.length)) (w' := W2.drew) rfl rfl (by go_simp) ⟨q2, ?_⟩
      simp only [Act.put, List.setIfInBounds_toArray, List.set_cons_zero, List.set_cons_succ]
      refine held_take 3 (.int .i64 i) (oi := ⟨some 22, _, _, _, _, _⟩) rfl (by kernel_rfl) (by kernel_rfl) (by kernel_rfl) rfl (fun _ _ _ h => h) (by intro w' hSw; clear hSw; go_simp) q2 ?_
      simp only [Act.put, List.setIfInBounds_toArray, List.set_cons_zero, List.set_cons_succ]
      refine held_take 4 (.int .u8 (by8 s[i])) (oi := ⟨some 23, _, _, _, _, _⟩) rfl (by kernel_rfl) (by kernel_rfl) (by kernel_rfl) rfl (fun _ _ _ h => h) (by intro w' hSw; clear hSw; go_simp; rfl) q2 ?_
      simp only [Act.put, List.setIfInBounds_toArray, List.set_cons_zero, List.set_cons_succ]
      refine held_take 6 (.int .u8 (by8 z)) (oi := ⟨some 25, _, _, _, _, _⟩) rfl (by kernel_rfl) (by kernel_rfl) (by kernel_rfl) rfl (fun _ _ _ h => h) (by intro w' hSw; clear hSw; go_simp) q2 ?_
      simp only [Act.put, List.setIfInBounds_toArray, List.set_cons_zero, List.set_cons_succ]
      refine wpAnyH_all (rs := [0, 7]) (by kernel_rfl) (by simp) ?_
      intro jj hj
      have hj' : jj = 0 ∨ jj = 7 := by simpa using hj
      clear hj
      rcases hj' with rfl | rfl
      refine wpOp_value (o := ⟨some 19, _, _, _, _, _⟩) (v := (.slice (some ⟨w.heap.size + 1 + 1, 0, none⟩) i s.length)) (w' := W2.drew) rfl rfl (by go_simp) ⟨q2, ?_⟩
      simp only [Act.put, List.setIfInBounds_toArray, List.set_cons_zero, List.set_cons_succ]
      refine held_value 7 (o := ⟨some 26, _, _, _, _, _⟩) (v := .slice (some ⟨W2.heap.size, 0, none⟩) 1 1) (w' := (W2.drew.alloc (.cells #[.int .u8 (by8 z)] 5))) (by kernel_rfl) rfl rfl (by kernel_rfl) hsl.out ?_
      simp only [Act.put, List.setIfInBounds_toArray, List.set_cons_zero, List.set_cons_succ]
      rotate_left
      refine wpOp_value (o := ⟨some 26, _, _, _, _, _⟩) (v := .slice (some ⟨W2.heap.size, 0, none⟩) 1 1) (w' := (W2.drew.alloc (.cells #[.int .u8 (by8 z)] 5))) rfl rfl (by kernel_rfl) ⟨hsl.out, ?_⟩
      simp only [Act.put, List.setIfInBounds_toArray, List.set_cons_zero, List.set_cons_succ]
      refine held_value 0 (o := ⟨some 19, _, _, _, _, _⟩) (v := (.slice (some ⟨w.heap.size + 1 + 1, 0, none⟩) i s.length)) (w' := (W2.drew.alloc (.cells #[.int .u8 (by8 z)] 5))) (by kernel_rfl) rfl rfl (by go_simp) hsl.out ?_
      simp only [Act.put, List.setIfInBounds_toArray, List.set_cons_zero, List.set_cons_succ]
      all_goals
        rename_i hcont
        obtain ⟨i0, hi0', hz0, hz1, hz2⟩ := info_parts info_u8
        have hq3 : (W2.drew.alloc (.cells #[.int .u8 (by8 z)] 5)).heap[w.heap.size + 1 + 1]? = some (.cells cur 5 (0, 0)) := (heap_alloc_old W2.drew _ (lt_of_block q3)).trans q3
        have hqn : (W2.drew.alloc (.cells #[.int .u8 (by8 z)] 5)).heap[W2.heap.size]? = some (.cells #[.int .u8 (by8 z)] 5 (0, 0)) := heap_alloc_new W2.drew _
        have hr := run_append_roomM (P := Tryd.prog) (W2.drew.alloc (.cells #[.int .u8 (by8 z)] 5)) 31 31 5 i0 Tryd.underlying31 hi0' hz1 (w.heap.size + 1 + 1) i s.length cur (0, 0) hq3 (fun j _ _ => by simp) ⟨W2.heap.size, 0, none⟩ 1 1 [.int .u8 (by8 z)] rfl (by
          intro j u hu
          obtain rfl : j = 0 := by
            have := (List.getElem?_eq_some_iff.1 hu).1
            simpa using this
          obtain rfl : u = .int .u8 (by8 z) := by simpa using hu.symm
          show World.cell? _ ⟨W2.heap.size, 0, none⟩ = _
          rw [cell_of_row _ _ _ _ _ _ hqn]; rfl) (by intro u hu; obtain rfl : u = .int .u8 (by8 z) := (by simpa using hu); rfl) (by omega) (by simp; omega)
        obtain ⟨c5, hc5⟩ : ∃ c5, c5 = (cur.toList.take i ++ [Value.int .u8 (by8 z)] ++ cur.toList.drop (i + [Value.int .u8 (by8 z)].length)).toArray := ⟨_, rfl⟩
        obtain ⟨W5, hW5⟩ : ∃ W5, W5 = (W2.drew.alloc (.cells #[.int .u8 (by8 z)] 5)).setRow (w.heap.size + 1 + 1) c5 := ⟨_, rfl⟩
        rw [← hc5, ← hW5] at hr
        have p3 : W5.heap[w.heap.size + 1 + 1]? = some (.cells c5 5 (0, 0)) := by rw [hW5]; exact setRow_heap _ _ _ _ _ _ hq3
        have pb : ∀ x, x < W2.heap.size → x ≠ w.heap.size + 1 + 1 → W5.heap[x]? = W2.heap[x]? := fun x hx hne => by
          rw [hW5, setRow_other _ _ _ _ hne]
          exact heap_alloc_old W2.drew _ hx
        have pz : W2.heap.size ≤ W5.heap.size := by rw [hW5]; simp
        have p1 : W5.heap[W3.heap.size]? = _ := (pb _ (lt_of_block q1) (by have := HL4.out; have := lt_of_block HO3.out; omega)).trans q1
        have p2 : W5.heap[w.heap.size + 1]? = _ := (pb _ (lt_of_block q2) (by omega)).trans q2
        have p6 : Below w.heap.size w W5 := by
          rw [hW5]
          exact ((q6.drew.alloc q6.size _).grown (grown_setRow _ _ _) (by have := q6.size; simp; omega) (fun k e => by have := Option.some.inj e; omega))
        have p4 : c5.size = s.length := by
          rw [hc5]
          simp only [List.size_toArray, List.length_append, List.length_take, List.length_drop, Array.length_toList, List.length_singleton]
          omega
        have p5 : c5.toList.take (i + 1) = bcells (strm k nonce (s.take (i + 1))) := by
          rw [hc5, strm_next k nonce s i hin, ← HZ.out]
          have hl1 : (cur.toList.take i ++ [Value.int .u8 (by8 z)]).length = i + 1 := by simp only [List.length_append, List.length_take, Array.length_toList, List.length_singleton]; omega
          simp only
          rw [List.take_append_of_le_length (by omega), List.take_of_length_le (by omega), q5]
          simp [bcells]
        clear hW5 hc5 hq3 hqn
        refine held_value 8 (o := ⟨some 27, _, _, _, _, _⟩) (v := .slice (some ⟨w.heap.size + 1 + 1, 0, none⟩) (i + 1) s.length) (w' := W5) (by kernel_rfl) rfl rfl (by
          unfold execOp
          simp only [resolve, invoke, builtin, Sem.run_bind, Sem.run_pure, Result.andThen_ok, List.map_toArray, List.map_cons, List.map_nil]
          exact congrArg (fun r => r.andThen fun a w' => Result.ok (Next.value a) w') hr) p2 ?_
        simp only [Act.put, List.setIfInBounds_toArray, List.set_cons_zero, List.set_cons_succ]
        have g1 : W5.cell? ⟨W3.heap.size, 0, none⟩ = some (.slice (some ⟨w.heap.size + 1 + 1, 0, none⟩) i s.length) := by rw [cell_of_row _ _ _ _ _ _ p1]; rfl
        have g2 : W5.frozen? ⟨W3.heap.size, 0, none⟩ = false := frozen_of_row _ _ _ _ _ p1
        have hne1 : w.heap.size + 1 ≠ W3.heap.size := by have := lt_of_block HO3.out; omega
        have hne2 : w.heap.size + 1 + 1 ≠ W3.heap.size := by have := lt_of_block HO3.out; omega
        refine held_skip 9 (o := ⟨none, _, _, _, _, _⟩) (w' := W5.setCell ⟨W3.heap.size, 0, none⟩ (.slice (some ⟨w.heap.size + 1 + 1, 0, none⟩) (i + 1) s.length)) (by kernel_rfl) rfl rfl (by go_simp) (by rw [heap_setCell_other _ _ _ _ hne1]; exact p2) ?_
        simp only [Act.put]
        refine wpAnyH_done (by kernel_rfl) ?_ _
        refine hcont _ _ ?_
        obtain ⟨W6, hW6⟩ : ∃ W6, W6 = W5.setCell ⟨W3.heap.size, 0, none⟩ (.slice (some ⟨w.heap.size + 1 + 1, 0, none⟩) (i + 1) s.length) := ⟨_, rfl⟩
        rw [← hW6]
        have r1 : W6.heap[W3.heap.size]? = some (.cells #[.slice (some ⟨w.heap.size + 1 + 1, 0, none⟩) (i + 1) s.length] 31 (0, 0)) := by
          rw [hW6, heap_setCell_same _ _ _ _ _ _ p1]; rfl
        have rb : ∀ x, x ≠ W3.heap.size → W6.heap[x]? = W5.heap[x]? := fun x hx => by rw [hW6, heap_setCell_other _ _ _ _ hx]
        have r2 : W6.heap[w.heap.size + 1]? = _ := (rb _ hne1).trans p2
        have r3 : W6.heap[w.heap.size + 1 + 1]? = _ := (rb _ hne2).trans p3
        have r6 : Below w.heap.size w W6 := by rw [hW6]; exact p6.setCell (by have := lt_of_block HO3.out; simp; omega) _
        have rz : W6.heap.size = W5.heap.size := by rw [hW6]; simp
        have hc1 : W6.cell? ⟨W3.heap.size, 0, none⟩ = some (.slice (some ⟨w.heap.size + 1 + 1, 0, none⟩) (i + 1) s.length) := by rw [cell_of_row _ _ _ _ _ _ r1]; rfl
        have hc2 : W6.cell? ⟨w.heap.size + 1, 0, none⟩ = some (.string ⟨s.toArray⟩) := by rw [cell_of_row _ _ _ _ _ _ r2]; rfl
        have HT6 : Hid (TurnI k nonce s w V (w.heap.size + 1 + 1) W3.heap.size (w.heap.size + 1) (i + 1) G W6) := ⟨r1, r2, ⟨c5, r3, p4, p5⟩, r6, by omega, fun x hx => ⟨(q8 x hx).1, by have := (q8 x hx).2; omega⟩⟩
        have HK6 : Hid (Kept (OwnG (fun x => x < w.heap.size ∨ x = W3.heap.size + 1 ∨ x = W3.heap.size + 1 + 1) G V.heap.size) W2 W6) := by
          refine ⟨by omega, fun x hx => ?_⟩
          have hlo := HLV.out
          have hW3 := lt_of_block HO3.out
          have hg2s := hg2.size
          have hx2 : x < W2.heap.size ∧ x ≠ W3.heap.size ∧ x ≠ w.heap.size + 1 + 1 := by
            rcases hx with (h | h | h) | h | h
            · omega
            · omega
            · omega
            · omega
            · have := q8 x h; omega
          exact (rb x hx2.2.1).trans (pb x hx2.1 hx2.2.2)
        clear hW6 r1 r2 r3 r6 rb p1 p2 p3 p4 p5 p6 pb g1 g2 hcl hcl2 hcl3 hr
        by_cases hin2 : i = n
        · have t1 : ((i : Int) + 1 == (s.length : Int)) = true := by rw [beq_iff_eq]; have := HN1.out; omega
          have t2 : (((i + 1 : Nat) : Int) == (s.length : Int)) = true := by rw [beq_iff_eq]; have := HN1.out; omega
          have t3 : (i + 1 == s.length) = true := by rw [beq_iff_eq]; have := HN1.out; omega
          gi_wp2_with fail
          subst hin2
          exact ⟨rfl, rfl, ⟨G, HT6.out⟩, HK6.out⟩
        · have t1 : ((i : Int) + 1 == (s.length : Int)) = false := by rw [beq_eq_false_iff_ne]; have := HN1.out; omega
          have t2 : (((i + 1 : Nat) : Int) == (s.length : Int)) = false := by rw [beq_eq_false_iff_ne]; have := HN1.out; omega
          have t3 : (i + 1 == s.length) = false := by rw [beq_eq_false_iff_ne]; have := HN1.out; omega
          gi_wp2_with fail
          exact ⟨by omega, HT6.out, HK6.out⟩
    · intro D W hD hI hh
      subst hD
      rename_i hcont
      refine hcont _ _ ?_
      obtain ⟨G, h1, h2, ⟨cur, h3, h4, h5⟩, h6, h7, h8⟩ := hI
      have hcv : (convert 31 9 (.slice (some ⟨w.heap.size + 1 + 1, 0, none⟩) (n + 1) s.length)).run Tryd.prog W = .ok (.string ⟨(strm k nonce s).toArray⟩) W := by
        have hl : (strm k nonce s).length = n + 1 := by rw [strm_length]; exact hn1
        refine conv_bytes hl (fun i hi => ?_)
        rw [Nat.zero_add, cell_of_row _ _ _ _ _ _ h3]
        rw [show s.take (n + 1) = s by rw [← hn1]; exact List.take_length] at h5
        have e : (bcells (strm k nonce s))[i]? = some (.int .u8 (by8 (strm k nonce s)[i])) := by simp [bcells, List.getElem?_eq_getElem hi]
        rw [← h5, List.getElem?_take, if_pos (by omega)] at e
        simpa using e
      have hco : W.cell? ⟨W3.heap.size, 0, none⟩ = some (.slice (some ⟨w.heap.size + 1 + 1, 0, none⟩) (n + 1) s.length) := by rw [cell_of_row _ _ _ _ _ _ h1]; rfl
      rw [hn1] at hcv hco
      gi_wp2_with fail
      have hwV : w.heap.size ≤ V.heap.size := by omega
      refine ⟨by simp, .inl ⟨_, _, rfl, run_takeDeferred hh, ?_⟩⟩
      exact ⟨_, results_tmp rfl _ _ _, rfl, h6.grown (grownBy_putObj' W V.heap.size _) h6.size (fun k e => by have := Option.some.inj e; omega)⟩
end Go.Proofs.YtjjdjdhkfmfchaaDoor

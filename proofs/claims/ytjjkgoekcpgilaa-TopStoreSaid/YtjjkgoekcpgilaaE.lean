/- TopStore: Bytes and Keep, walked. -/
import Derived.Test.YtjjkgoekcpgilaaZ
namespace Go.Proofs.Ytjjkgoekcpgilaa
open Go.RowKit

theorem bytes_one (bs : List UInt8) : ∀ u ∈ bs.map byteV, u.oneCell' = true := by
  intro u hu
  obtain ⟨c, _, rfl⟩ := List.mem_map.1 hu
  rfl

theorem bytes_any (S : Nat) (v : Value) (bs : List UInt8) (w : World) (hS : Blk w S #[v] 25) (hv : BytesAt w v bs) (hl : bs.length ≤ 1099511627776) :
    Calls Try.prog 8 #[.pointer (some ⟨S, 0, none⟩)] w fun e w' => ∃ v', e = .returned v' ∧ OwnB w' v' bs ∧ Below w.heap.size w w' ∧ (∀ k, v'.ownBlock = some k → w.heap.size ≤ k) := by
  obtain ⟨i0, hi, hz0, hz1, hz2⟩ := info_parts info5
  obtain ⟨p, c, rfl, _⟩ := hv.form
  have hc := hS.cell 0 _ rfl
  have hlt := hS.lt
  go_enter Try.func8, Try.ntmps8
  go_wp2_with (at_builtin; go_must (refine wpList_append_row _ rfl _ _ 23 rfl 5 i0 (.int .u8 0) 1 1 Try.underlying23 hi hz0 hz1 hz2 rfl (by decide) _ 0 [] rfl (World.ownsRow_lit (base := 0) _ #[] 0 ?d1 ?d2 ?d3) _ bs.length _ rfl (hv.alloc _) ?c1 ?c2 ?c3 ?_))
  case d1 => omega
  case d2 => unfold maxLen; omega
  case d3 => rfl
  case c1 => exact bytes_one bs
  case c2 => unfold maxLen; omega
  case c3 => omega
  intro v' w1 h1 h2 h3
  have H1 : Hid (OwnB w1 v' bs) := hid h1
  have hw1 : (w.alloc (.cells #[] 5)).heap.size = w.heap.size + 1 := by simp
  have H2 : Hid (Below w.heap.size w w1) := ((Below.refl _ _).alloc (Nat.le_refl _) _).grown h2 (by omega) (fun k hk => by simp [Value.ownBlock] at hk; omega)
  have H3 : Hid (∀ k, v'.ownBlock = some k → w.heap.size ≤ k) := fun k hk => by
    rcases h3 with e | e
    · rw [e] at hk; simp [Value.ownBlock] at hk; omega
    · have := e k hk; omega
  clear h1 h2 h3 hw1
  go_wp2
  go_ret
  exact ⟨_, rfl, H1.out, H2.out, H3.out⟩

/-- What Keep leaves alone. -/
structure Kept2 (S : Nat) (row : Option Nat) (w w' : World) : Prop where
  os : w'.os = w.os
  tape : w'.tape = w.tape
  output : w'.output = w.output
  size : w.heap.size ≤ w'.heap.size
  block : ∀ k, k < w.heap.size → k ≠ S → some k ≠ row → w'.heap[k]? = w.heap[k]?

def recOf (W H : Nat) (light shots : List Int) : List UInt8 := beBytes (saved W H light shots).length 4 ++ saved W H light shots

theorem saved_length (W H : Nat) (light shots : List Int) : (saved W H light shots).length = 10 + 6 * light.length + 3 * shots.length := by
  simp [saved, headOf, head6, lightB_length, shotsB_length, beBytes_length]; omega
theorem recOf_length (W H : Nat) (light shots : List Int) : (recOf W H light shots).length = 14 + 6 * light.length + 3 * shots.length := by
  simp [recOf, saved_length, beBytes_length]; omega

theorem keep_ok (S : Nat) (v : Value) (bs : List UInt8) (W H : Nat) (light shots : List Int) (lv sv : Value) (w : World) (hS : Blk w S #[v] 25) (hown : OwnB w v bs) (hne : v.ownBlock ≠ some S)
    (hlen : bs.length ≤ 68719476736) (hf : FilmOk W H light shots) (hl : IntsAt w lv light) (hs : IntsAt w sv shots) :
    Calls Try.prog 7 #[.pointer (some ⟨S, 0, none⟩), .agg #[.int .i64 W, .int .i64 H, lv, sv]] w fun e w' => ∃ v', e = .returned (.int .i64 0) ∧ Blk w' S #[v'] 25 ∧
      OwnB w' v' (bs ++ recOf W H light shots) ∧ v'.ownBlock ≠ some S ∧ Fresh w v v' ∧ Kept2 S v.ownBlock w w' := by
  obtain ⟨i0, hi, hz0, hz1, hz2⟩ := info_parts info5
  have hsav := fun w' h1 h2 => save_ok W H light shots lv sv w' hf h1 h2
  have hlt := hS.lt
  have hvlt := lt_some hown
  have hsl : (saved W H light shots).length ≤ 100000 := by
    rw [saved_length, hf.lenL, hf.lenS]
    have : W * H ≤ 64 * 64 := Nat.mul_le_mul hf.w64 hf.h64
    omega
  obtain ⟨p, c, rfl⟩ := own_form hown
  go_enter Try.func7, Try.ntmps7
  go_wp2_with fail
  refine (hsav _ (hl.alloc _) (hs.alloc _)).mono ?_
  clear hsav
  rintro e w1 ⟨b, rfl, hb, hbl, hbf⟩
  obtain ⟨pb, cb, rfl⟩ := own_form hb
  have hB : Below w.heap.size w w1 := below_old hbl (by simp)
  have hbf' : ∀ k, (Value.slice pb (saved W H light shots).length cb).ownBlock = some k → w.heap.size + 1 ≤ k := by simpa using hbf
  have hS1 : Blk w1 S #[.slice p bs.length c] 25 := hS.below hB hlt
  have hown1 : OwnB w1 (.slice p bs.length c) bs := hown.kept (grown_of_below hB) (by cases h : (Value.slice p bs.length c).ownBlock <;> simp)
  have hsz1 := hB.size
  have hc1 := hS1.cell 0 _ rfl
  have HB := hid hB
  have HS1 := hid hS1
  have Hown1 := hid hown1
  have Hb := hid hb
  have Hbf := hid hbf'
  clear hbl hB hS1 hown1 hb hbf hbf'
  go_wp2_with fail
  refine (put_bytes _ bs (saved W H light shots).length 4 _ Hown1.out (by omega) (by omega) (by omega) (by omega)).mono ?_
  rintro e w2 ⟨v2, rfl, h5, h6, h7⟩
  rw [Int.toNat_natCast] at h5
  have hb2 : OwnB w2 (.slice pb (saved W H light shots).length cb) (saved W H light shots) := Hb.out.kept h6 (by
    rcases hh : (Value.slice pb (saved W H light shots).length cb).ownBlock with _ | k
    · exact .inl rfl
    · refine .inr fun e => ?_
      have := Hbf.out k hh; have := hvlt k e.symm; omega)
  have hS2 : Blk w2 S #[.slice p bs.length c] 25 := HS1.out.grown h6 hne
  have Hb2 := hid hb2
  have HS2 := hid hS2
  have H5 := hid h5
  have H6 := hid h6
  have H7 := hid h7
  clear hb2 hS2 h5 h6 h7
  go_wp2_with (at_builtin; go_must (refine wpList_append_row _ rfl _ _ 23 rfl 5 i0 (.int .u8 0) 1 1 Try.underlying23 hi hz0 hz1 hz2 rfl (by decide) _ _ _ rfl H5.out _ _ _ rfl (owned_row Hb2.out) (bytes_one _) ?c2 ?c3 ?_))
  case c2 => simp [beBytes_length]; unfold maxLen; omega
  case c3 => simp [beBytes_length]; omega
  intro v3 w3 h1 h2 h3
  have R0 : OwnB w3 v3 (bs ++ recOf W H light shots) := by
    unfold OwnB recOf
    rw [← List.append_assoc, List.length_append, List.map_append]
    simpa using h1
  obtain ⟨p3, c3, rfl⟩ := own_form R0
  have hv2 : v2.ownBlock ≠ some S := fun e => by
    rcases H7.out with h | h
    · exact hne (h ▸ e)
    · have := h S e; omega
  have hS3 : Blk w3 S #[.slice p bs.length c] 25 := HS2.out.grown h2 hv2
  have hF : Fresh w1 (.slice p bs.length c) (.slice p3 (bs ++ recOf W H light shots).length c3) := H7.out.trans h3 H6.out.size
  have hv3 : (Value.slice p3 (bs ++ recOf W H light shots).length c3).ownBlock ≠ some S := fun e => by
    rcases hF with h | h
    · exact hne (h ▸ e)
    · have := h S e; omega
  have hG : w1.grownBy w3 (Value.slice p bs.length c).ownBlock := grown_trans H6.out h2 H7.out
  have hc3 := hS3.cell 0 _ rfl
  have hf3 := hS3.free 0
  have HS3 := hid hS3
  have Hv3 := hid hv3
  have HF := hid hF
  have HG := hid hG
  have R := hid R0
  clear R0
  clear h1 h2 h3 hS3 hv3 hF hG hc1 hv2
  go_wp2_with fail
  go_ret
  refine ⟨_, rfl, ?_, ownsRow_setCell_other R.out Hv3.out _, Hv3.out, HF.out.of_le hsz1, ?_⟩
  · have := HS3.out.set 0 (.slice p3 (bs ++ recOf W H light shots).length c3)
    simpa using this
  · have hb := HB.out
    have hg := HG.out
    refine ⟨?_, ?_, ?_, ?_, fun k hk hkS hkr => ?_⟩
    · show w3.os = w.os; rw [hg.os, hb.os]
    · show w3.tape = w.tape; rw [hg.tape, hb.tape]
    · show w3.output = w.output; rw [hg.output, hb.output]
    · have := hg.size; simp [World.setCell]; omega
    · rw [Below.heap_setCell _ _ _ _ (by show k ≠ S; exact hkS), hg.block k (by omega) hkr, hb.block k hk]

end Go.Proofs.Ytjjkgoekcpgilaa

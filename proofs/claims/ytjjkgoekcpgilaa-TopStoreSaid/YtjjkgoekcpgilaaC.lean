/- TopStore: Save, walked. -/
import Derived.Test.YtjjkgoekcpgilaaB
import Derived.Lib.SlBytesConst
namespace Go.Proofs.Ytjjkgoekcpgilaa
open Go.RowKit

theorem put_int (v : Value) (xs : List Value) (n : Int) (size : Nat) (w : World) (hown : w.ownsRow 0 5 1 v xs.length xs)
    (hlen : xs.length ≤ 1099511627776) (h0 : 0 ≤ n) (h1 : n ≤ 4611686018427387904) (hs : size ≤ 6) :
    Calls Try.prog 12 #[v, .int .i64 n, .int .i64 size] w fun e w' => ∃ v', e = .returned v' ∧ w'.ownsRow 0 5 1 v' (xs.length + size) (xs ++ (beBytes n.toNat size).map byteV) ∧ w.grownBy w' v.ownBlock ∧ Fresh w v v' := by
  obtain ⟨m, rfl⟩ := Int.eq_ofNat_of_zero_le h0
  exact put_any v xs m size w hown hlen (by omega) hs

/-- A row of bytes that a call owns. -/
abbrev OwnB (w : World) (v : Value) (bs : List UInt8) : Prop := w.ownsRow 0 5 1 v bs.length (bs.map byteV)

theorem OwnB.at {w : World} {v : Value} {bs : List UInt8} (h : OwnB w v bs) : BytesAt w v bs := owned_row h

theorem put_bytes (v : Value) (bs : List UInt8) (n : Int) (size : Nat) (w : World) (hown : OwnB w v bs)
    (hlen : bs.length ≤ 1099511627776) (h0 : 0 ≤ n) (h1 : n ≤ 4611686018427387904) (hs : size ≤ 6) :
    Calls Try.prog 12 #[v, .int .i64 n, .int .i64 size] w fun e w' => ∃ v', e = .returned v' ∧ OwnB w' v' (bs ++ beBytes n.toNat size) ∧ w.grownBy w' v.ownBlock ∧ Fresh w v v' := by
  have hown' : w.ownsRow 0 5 1 v (bs.map byteV).length (bs.map byteV) := by simpa using hown
  refine (put_int v (bs.map byteV) n size w hown' (by simpa using hlen) h0 h1 hs).mono ?_
  rintro e w' ⟨v', rfl, h2, h3, h4⟩
  refine ⟨v', rfl, ?_, h3, h4⟩
  show w'.ownsRow 0 5 1 v' (bs ++ beBytes n.toNat size).length ((bs ++ beBytes n.toNat size).map byteV)
  have e1 : (bs ++ beBytes n.toNat size).length = (bs.map byteV).length + size := by simp [beBytes]
  rw [e1, List.map_append]
  exact h2

def head6 (W H : Nat) : List UInt8 := [82, 72, 70, 49, UInt8.ofNat W, UInt8.ofNat H]
def lightB (light : List Int) : List UInt8 := light.flatMap (fun n => beBytes n.toNat 6)
def shotsB (shots : List Int) : List UInt8 := shots.flatMap (fun n => beBytes n.toNat 3)
def headOf (W H : Nat) (light shots : List Int) : List UInt8 := head6 W H ++ lightB light ++ shotsB shots
def saved (W H : Nat) (light shots : List Int) : List UInt8 := headOf W H light shots ++ beBytes (sumOf (headOf W H light shots)).toNat 4

theorem beBytes_length (n s : Nat) : (beBytes n s).length = s := by simp [beBytes]
theorem lightB_length (l : List Int) : (lightB l).length = 6 * l.length := by
  induction l with
  | nil => rfl
  | cons a l ih => simp [lightB, beBytes_length] at ih ⊢; omega
theorem shotsB_length (l : List Int) : (shotsB l).length = 3 * l.length := by
  induction l with
  | nil => rfl
  | cons a l ih => simp [shotsB, beBytes_length] at ih ⊢; omega
theorem lightB_snoc (l : List Int) (k : Nat) (h : k < l.length) : lightB (l.take (k + 1)) = lightB (l.take k) ++ beBytes l[k].toNat 6 := by
  unfold lightB; rw [take_snoc' _ _ h]; simp only [List.flatMap_append, List.flatMap_cons, List.flatMap_nil, List.append_nil]
theorem shotsB_snoc (l : List Int) (k : Nat) (h : k < l.length) : shotsB (l.take (k + 1)) = shotsB (l.take k) ++ beBytes l[k].toNat 3 := by
  unfold shotsB; rw [take_snoc' _ _ h]; simp only [List.flatMap_append, List.flatMap_cons, List.flatMap_nil, List.append_nil]

theorem save_ok (W H : Nat) (light shots : List Int) (lv sv : Value) (w : World) (hf : FilmOk W H light shots) (hl : IntsAt w lv light) (hs : IntsAt w sv shots) :
    Calls Try.prog 11 #[.agg #[.int .i64 W, .int .i64 H, lv, sv]] w fun e w' => ∃ v, e = .returned (.tuple #[v, .int .i64 0]) ∧
      OwnB w' v (saved W H light shots) ∧ Below w.heap.size w w' ∧ (∀ k, v.ownBlock = some k → w.heap.size ≤ k) := by
  obtain ⟨i0, hi, hz0, hz1, hz2⟩ := info_parts info5
  have kc := fun (w : World) (C : Array Value) (n c : Nat) => Lib.run_convert_bytes_const (P := Try.prog) w 23 5 C n c Try.underlying23 Try.underlying5
  obtain ⟨p, c, rfl, l1, m1, g1⟩ := hl.form
  obtain ⟨q, d, rfl, l2, m2, g2⟩ := hs.form
  unfold maxLen at m1 m2
  have hm := may_ok W H light shots _ _ _ hf (hl.alloc (.cells #[.int .i64 W, .int .i64 H, .slice p light.length c, .slice q shots.length d] 29)) (hs.alloc _)
  obtain ⟨a1, a2, a3, a4, a5, a6, a7, a8⟩ := hf
  have hwh : W * H ≤ 64 * 64 := Nat.mul_le_mul a2 a4
  have hll : light.length ≤ 12288 := by rw [a5]; omega
  have hsl : shots.length ≤ 4096 := by rw [a6]; omega
  clear hl hs a5 a6
  go_enter Try.func11, Try.ntmps11
  go_wp2_with fail
  refine hm.mono ?_
  clear hm
  rintro e w1 ⟨rfl, hb1⟩
  obtain ⟨hc1, hf1⟩ := bcell hb1
  have hz : w.heap.size < w1.heap.size := by have := hb1.size; simp at this; omega
  go_wp2_with (at_builtin; go_must (refine wpList_append_new _ rfl _ _ 23 rfl 5 i0 (.int .u8 0) 1 1 Try.underlying23 hi hz0 hz1 hz2 rfl (by decide) _ _ _ _ rfl ((row_marked _ _ _ _ _ rfl ?d1).alloc _) _ 2 _ rfl (row_new_at _ _ _ 1 2 _ ?d3 rfl ?d2) ?c1 ?c2 ?c3 ?c4 ?_))
  case d1 => simp [maxLen]
  case d3 => simp
  case d2 => unfold maxLen; omega
  case c1 => exact ⟨rfl, rfl⟩
  case c2 => omega
  case c3 => simp [maxLen]
  case c4 => omega
  intro v2 w2 h1 h2
  have hB : Hid (Below (w.heap.size + 1) (w.alloc (.cells #[.int .i64 W, .int .i64 H, .slice p light.length c, .slice q shots.length d] 29)) w2) := by
    have hb1' : Below (w.heap.size + 1) (w.alloc (.cells #[.int .i64 W, .int .i64 H, .slice p light.length c, .slice q shots.length d] 29)) w1 := by simpa using hb1
    exact ((hb1'.alloc (by omega) _).alloc (by simp; omega) _).trans ((below_of_grown h2).mono (by simp; omega))
  have Hfr : Hid (∀ k, v2.ownBlock = some k → w.heap.size + 1 ≤ k) := fun k hk => by have := (h1.lt k hk).1; omega
  have hL := box_cell hB.out 2 _ rfl
  have R1 : Hid (OwnB w2 v2 (head6 W H)) := by
    have := h1.2
    refine ⟨by simp [head6], ?_⟩
    have e : (head6 W H).map byteV = [.int .u8 82, .int .u8 72, .int .u8 70, .int .u8 49, .int .u8 (W : Int), .int .u8 (H : Int)] := by
      simp [head6, byteV]; omega
    rw [e]
    rcases this with h | ⟨g, cap, cur, e1, _, e2⟩
    · exact .inl h
    · exact .inr ⟨g, cap, cur, e1, Nat.zero_le _, e2⟩
  clear h1 h2 hb1 hc1 hf1 hz
  go_wp2_with fail
  go_loopw [5, 28] (fun u i wr => ∃ k : Nat, k ≤ light.length ∧ i = .int .i64 k ∧ OwnB wr u (head6 W H ++ lightB (light.take k)) ∧
      Below (w.heap.size + 1) (w.alloc (.cells #[.int .i64 W, .int .i64 H, .slice p light.length c, .slice q shots.length d] 29)) wr ∧ (∀ b, u.ownBlock = some b → w.heap.size + 1 ≤ b))
    (fun _ i _ => light.length - (intOf i).toNat)
  case atStart => exact ⟨0, Nat.zero_le _, rfl, by simpa [lightB] using R1.out, hB.out, Hfr.out⟩
  case round =>
    clear hL Hfr R1 hB
    obtain ⟨k, hk, rfl, hown, hbr, hfr⟩ := hrel
    have Hown := hid hown
    have Hbr := hid hbr
    have Hfr := hid hfr
    have hS := box_cell hbr 3 _ rfl
    clear hown hfr hbr
    by_cases hlt : k < light.length
    · obtain ⟨b, off, rfl, hb, hc⟩ := g1 k hlt
      obtain ⟨hv1, hv2⟩ := a7 light[k] (List.getElem_mem hlt)
      have hcr : wr.cell? ⟨b, off + k, none⟩ = some (.int .i64 (light[k]?.getD 0)) := by rw [← hc]; exact (below_old Hbr.out (by omega)).cell (p := ⟨b, off + k, none⟩) hb
      clear g1 g2 a7 a8 hc hS
      go_wp2_with fail
      refine (put_bytes _ _ light[k] 6 _ Hown.out ?_ hv1 (by omega) (by omega)).mono ?_
      · rw [List.length_append, lightB_length, List.length_take]; simp [head6]; omega
      rintro e w3 ⟨v3, rfl, h5, h6, h7⟩
      have H5 : Hid (OwnB w3 v3 (head6 W H ++ lightB (light.take (k + 1)))) := by rw [lightB_snoc _ _ hlt, ← List.append_assoc]; exact h5
      have H6 : Hid (Below (w.heap.size + 1) _ w3) := Hbr.out.grown h6 (by have := Hbr.out.size; simp at this; omega) (fun j hj => Hfr.out j hj)
      have H7 : Hid (∀ b, v3.ownBlock = some b → w.heap.size + 1 ≤ b) := fun j hj => by
        rcases h7 with h7 | h7
        · exact Hfr.out j (h7 ▸ hj)
        · have := h7 j hj; have := Hbr.out.size; simp at this; omega
      clear h5 h6 h7
      go_wp2_with fail
      go_roundw
      case rel => exact ⟨k + 1, by omega, by go_num, H5.out, H6.out, H7.out⟩
      case measure => simp [intOf]; omega
    · have hkl : k = light.length := by omega
      subst hkl
      rw [List.take_length] at Hown
      clear g1 a7
      go_wp2_with fail
      go_loopw [5, 39] (fun u i wr => ∃ k : Nat, k ≤ shots.length ∧ i = .int .i64 k ∧ OwnB wr u (head6 W H ++ lightB light ++ shotsB (shots.take k)) ∧
          Below (w.heap.size + 1) (w.alloc (.cells #[.int .i64 W, .int .i64 H, .slice p light.length c, .slice q shots.length d] 29)) wr ∧ (∀ b, u.ownBlock = some b → w.heap.size + 1 ≤ b))
        (fun _ i _ => shots.length - (intOf i).toNat)
      case atStart => exact ⟨0, Nat.zero_le _, rfl, by simpa [shotsB] using Hown.out, Hbr.out, Hfr.out⟩
      case round =>
        clear hS Hfr Hown Hbr
        obtain ⟨k, hk, rfl, hown, hbr, hfr⟩ := hrel
        have Hown := hid hown
        have Hbr := hid hbr
        have Hfr := hid hfr
        clear hown hfr hbr
        by_cases hlt : k < shots.length
        · obtain ⟨b, off, rfl, hb, hc⟩ := g2 k hlt
          obtain ⟨hv1, hv2⟩ := a8 shots[k] (List.getElem_mem hlt)
          have hcr : wr.cell? ⟨b, off + k, none⟩ = some (.int .i64 (shots[k]?.getD 0)) := by rw [← hc]; exact (below_old Hbr.out (by omega)).cell (p := ⟨b, off + k, none⟩) hb
          clear g2 a8 hc
          go_wp2_with fail
          refine (put_bytes _ _ shots[k] 3 _ Hown.out ?_ hv1 (by omega) (by omega)).mono ?_
          · rw [List.length_append, List.length_append, lightB_length, shotsB_length, List.length_take]; simp [head6]; omega
          rintro e w3 ⟨v3, rfl, h5, h6, h7⟩
          have H5 : Hid (OwnB w3 v3 (head6 W H ++ lightB light ++ shotsB (shots.take (k + 1)))) := by rw [shotsB_snoc _ _ hlt, ← List.append_assoc]; exact h5
          have H6 : Hid (Below (w.heap.size + 1) _ w3) := Hbr.out.grown h6 (by have := Hbr.out.size; simp at this; omega) (fun j hj => Hfr.out j hj)
          have H7 : Hid (∀ b, v3.ownBlock = some b → w.heap.size + 1 ≤ b) := fun j hj => by
            rcases h7 with h7 | h7
            · exact Hfr.out j (h7 ▸ hj)
            · have := h7 j hj; have := Hbr.out.size; simp at this; omega
          clear h5 h6 h7
          go_wp2_with fail
          go_roundw
          case rel => exact ⟨k + 1, by omega, by go_num, H5.out, H6.out, H7.out⟩
          case measure => simp [intOf]; omega
        · have hkl : k = shots.length := by omega
          subst hkl
          rw [List.take_length] at Hown
          have Hlen : Hid ((head6 W H ++ lightB light ++ shotsB shots).length ≤ 1099511627776) := by
            unfold Hid; rw [List.length_append, List.length_append, lightB_length, shotsB_length]; simp [head6]; omega
          have Hrg := hid (sumOf_range (headOf W H light shots))
          obtain ⟨hr1, hr2⟩ := sumOf_range (headOf W H light shots)
          clear g2 a8
          go_wp2_with fail
          refine (sum_any _ _ _ Hown.out.at Hlen.out).mono ?_
          rintro e w3 ⟨rfl, rfl⟩
          rw [show sumOf (head6 W H ++ lightB light ++ shotsB shots) = sumOf (headOf W H light shots) from rfl]
          go_wp2_with fail
          refine (put_bytes _ _ (sumOf (headOf W H light shots)) 4 _ Hown.out Hlen.out hr1 (by omega) (by omega)).mono ?_
          rintro e w4 ⟨v4, rfl, h5, h6, h7⟩
          have H6 : Hid (Below (w.heap.size + 1) _ w4) := Hbr.out.grown h6 (by have := Hbr.out.size; simp at this; omega) (fun j hj => Hfr.out j hj)
          have H7 : Hid (∀ b, v4.ownBlock = some b → w.heap.size ≤ b) := fun j hj => by
            rcases h7 with h7 | h7
            · have := Hfr.out j (h7 ▸ hj); omega
            · have := h7 j hj; have := Hbr.out.size; simp at this; omega
          have H5 := hid h5
          clear h5 h6 h7
          go_wp2_with fail
          go_ret2
          exact ⟨v4, rfl, H5.out, below_old H6.out (by omega), H7.out⟩

end Go.Proofs.Ytjjkgoekcpgilaa

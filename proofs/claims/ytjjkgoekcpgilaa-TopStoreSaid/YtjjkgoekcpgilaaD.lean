/- TopStore: FilmOf, walked. -/
import Derived.Test.YtjjkgoekcpgilaaZ
namespace Go.Proofs.Ytjjkgoekcpgilaa
open Go.RowKit

def lightAt (xs : List Int) (i c : Nat) : Int := pick (IntKind.i64.wrap (raw xs (4 * i + c) * 4099)) 300000
def shotAt (xs : List Int) (i : Nat) : Int := pick (raw xs (4 * i + 3)) 6
def lightsTo (xs : List Int) (k : Nat) : List Int := (List.range k).flatMap fun i => [lightAt xs i 0, lightAt xs i 1, lightAt xs i 2]
def shotsTo (xs : List Int) (k : Nat) : List Int := (List.range k).map (shotAt xs)
def lightsIn (xs : List Int) (k c : Nat) : List Int := lightsTo xs k ++ (List.range c).map (lightAt xs k)

theorem lightsTo_length (xs : List Int) (k : Nat) : (lightsTo xs k).length = 3 * k := by
  induction k with
  | zero => rfl
  | succ k ih => simp [lightsTo, List.range_succ] at ih ⊢; omega
theorem lightsIn_length (xs : List Int) (k c : Nat) : (lightsIn xs k c).length = 3 * k + c := by simp [lightsIn, lightsTo_length]
theorem shotsTo_length (xs : List Int) (k : Nat) : (shotsTo xs k).length = k := by simp [shotsTo]
theorem lightsIn_snoc (xs : List Int) (k c : Nat) : lightsIn xs k (c + 1) = lightsIn xs k c ++ [lightAt xs k c] := by simp [lightsIn, List.range_succ]
theorem lightsIn_three (xs : List Int) (k : Nat) : lightsIn xs k 3 = lightsTo xs (k + 1) := by simp [lightsIn, lightsTo, List.range_succ]
theorem lightsIn_zero (xs : List Int) (k : Nat) : lightsIn xs k 0 = lightsTo xs k := by simp [lightsIn]
theorem shotsTo_snoc (xs : List Int) (k : Nat) : shotsTo xs (k + 1) = shotsTo xs k ++ [shotAt xs k] := by simp [shotsTo, List.range_succ]

/-- Integers that are int64s. -/
def Fit (l : List Int) : Prop := ∀ x ∈ l, -9223372036854775808 ≤ x ∧ x ≤ 9223372036854775807
theorem raw_fit {l : List Int} (h : Fit l) (k : Nat) : -9223372036854775808 ≤ raw l k ∧ raw l k ≤ 9223372036854775807 := by
  unfold raw
  rcases hh : l[k % l.length]? with _ | x
  · simp
  · simp; exact h x (List.mem_of_getElem? hh)

set_option maxHeartbeats 3200000 in
theorem filmOf_any (v : Value) (xs : List Int) (W H : Nat) (w : World) (hv : ArgInts w v xs) (hfit : Fit xs) (hl : xs.length ≤ 1048576) (hW : W ≤ 64) (hH : H ≤ 64) :
    Calls Try.prog 5 #[v, .int .i64 W, .int .i64 H] w fun e w' => ∃ lv sv, e = .returned (.agg #[.int .i64 W, .int .i64 H, lv, sv]) ∧
      OwnI w' lv (lightsTo xs (W * H)) ∧ OwnI w' sv (shotsTo xs (W * H)) ∧ Below w.heap.size w w' ∧
      (∀ k, lv.ownBlock = some k → w.heap.size ≤ k) ∧ (∀ k, sv.ownBlock = some k → w.heap.size ≤ k) ∧ (∀ k, lv.ownBlock = some k → sv.ownBlock ≠ some k) := by
  obtain ⟨i0, hi, hz0, hz1, hz2⟩ := info_parts info3
  have hwh : W * H ≤ 64 * 64 := Nat.mul_le_mul hW hH
  have hwh2 : (W : Int) * (H : Int) ≤ 4096 := by rw [← Int.natCast_mul]; omega
  have hwh3 : 0 ≤ (W : Int) * (H : Int) := by rw [← Int.natCast_mul]; omega
  obtain ⟨n, hn⟩ : ∃ n, n = W * H := ⟨_, rfl⟩
  have Hn := hid hn
  have hn3 : n ≤ 4096 := by omega
  have Hn2 : Hid ((W : Int) * (H : Int) = (n : Int)) := by rw [hn]; exact (Int.natCast_mul W H).symm
  clear hn
  go_enter Try.func5, Try.ntmps5
  go_wp2_with fail
  go_loopw [8] (fun i wr => ∃ k : Nat, k ≤ n ∧ i = .int .i64 k ∧ ∃ lv sv, Zone w.heap.size W H (lightsTo xs k) (shotsTo xs k) wr lv sv ∧ Below w.heap.size w wr) (fun i _ => n - (intOf i).toNat)
  case atStart =>
    refine ⟨0, Nat.zero_le _, rfl, _, _, ⟨(Blk.new _ _ _).alloc _, by simpa using Blk.new (w.alloc _) _ _, World.ownsRow_nil _ _ _ _, World.ownsRow_nil _ _ _ _, ?_, ?_, ?_⟩, ((Below.refl _ _).alloc (Nat.le_refl _) _).alloc (by simp) _⟩ <;> simp [Value.ownBlock]
  case round =>
    obtain ⟨k, hk, rfl, lv, sv, hz, hbr⟩ := hrel
    have Hbr := hid hbr
    have Hz := hid hz
    clear hz hbr
    by_cases hlt : k < n
    · have hlt2 : (k : Int) < (W : Int) * (H : Int) := by rw [Hn2.out]; omega
      go_wp2_with fail
      go_loopw [9] (fun c wr => ∃ j : Nat, j ≤ 3 ∧ c = .int .i64 j ∧ ∃ lv sv, Zone w.heap.size W H (lightsIn xs k j) (shotsTo xs k) wr lv sv ∧ Below w.heap.size w wr) (fun i _ => 3 - (intOf i).toNat)
      case atStart => exact ⟨0, by omega, rfl, lv, sv, by rw [lightsIn_zero]; exact Hz.out, Hbr.out⟩
      case round =>
        clear Hz Hbr
        clear lv sv
        obtain ⟨j, hj, rfl, lv, sv, hz, hbr⟩ := hrel
        have Hbr := hid hbr
        have Hz := hid hz
        by_cases hlj : j < 3
        · have hlv := own_form hz.light
          obtain ⟨p, cp, rfl⟩ := hlv
          have hc2 := hz.film.cell 2 _ rfl
          have hf2 := hz.film.free 2
          have hsz := hz.film.lt
          clear hz hbr
          have hr3 : -9223372036854775808 ≤ IntKind.i64.wrap (raw xs (4 * k + j) * 4099) := (wrap_within .i64 _).1
          have hr4 : IntKind.i64.wrap (raw xs (4 * k + j) * 4099) ≤ 9223372036854775807 := (wrap_within .i64 _).2
          go_wp2_with fail
          have e1 : IntKind.i64.wrap (4 * (k : Int)) = 4 * k := IntWalk.i64_in _ (by omega)
          have e2 : IntKind.i64.wrap (4 * (k : Int) + j) = 4 * k + j := IntWalk.i64_in _ (by omega)
          go_region_law (first
            | (go_simp; go_at_call 6; refine (raw_int v xs _ _ (hv.below Hbr.out.drew) hl ?_ ?_).mono ?_; omega; omega; rintro e w' ⟨rfl, rfl⟩; rw [show (4 * (k : Int) + (j : Int)).toNat = 4 * k + j from by omega])
            | (go_simp; go_at_call 4; refine (pick_any _ _ _ ?_ ?_ ?_ ?_).mono ?_; omega; omega; omega; omega; rintro e w' ⟨rfl, rfl⟩)
            | (refine step_append_row rfl (.tmp 25) (.tmp 34) 22 rfl 3 i0 (.int .i64 0) 1 8 Try.underlying22 hi hz0 hz1 hz2 rfl (by decide) _ _ _ rfl ((Hz.out.light.alloc _).drew) _ _ _ rfl (row_one_at _ _ _ _ ?_).drew ?_ ?_ ?_ ?_
               · simp
               · exact one_int _ _
               · rw [lightsIn_length]; unfold maxLen; omega
               · rw [lightsIn_length]; omega
               intro p2 c2 w3 h1 h2 h3
               have HN : Hid _ := hid ((Hz.out.film.alloc _).drew.grown h2 (fun e => by have := Hz.out.lb _ e; omega))
               have hc3 := HN.out.cell 2 _ rfl
               have hf3 := HN.out.free 2
               have R := hid (Hz.out.light' Hbr.out h1 h2 h3)
               rw [show lightsIn xs k j ++ [pick (IntKind.i64.wrap (raw xs (4 * k + j) * 4099)) 300000] = lightsIn xs k (j + 1) from (lightsIn_snoc xs k j).symm] at R
               clear h1 h2 h3))
          all_goals
            go_wp2_with fail
            go_roundw
            case rel => exact ⟨j + 1, by omega, by go_num, _, _, R.out.1, R.out.2⟩
            case measure => simp [intOf]; omega
        · have hj3 : j = 3 := by omega
          subst hj3
          rw [lightsIn_three] at Hz
          clear hz
          have hz := Hz.out
          obtain ⟨p, cp, rfl⟩ := own_form hz.shots
          have hc2 := hz.film.cell 3 _ rfl
          have hf2 := hz.film.free 3
          have hsz := hz.film.lt
          clear hz hbr
          obtain ⟨hr1, hr2⟩ := raw_fit hfit (4 * k + 3)
          go_wp2_with fail
          have e1 : IntKind.i64.wrap (4 * (k : Int)) = 4 * k := IntWalk.i64_in _ (by omega)
          have e2 : IntKind.i64.wrap (4 * (k : Int) + 3) = 4 * k + 3 := IntWalk.i64_in _ (by omega)
          go_region_law (first
            | (go_simp; go_at_call 6; refine (raw_int v xs _ _ (hv.below Hbr.out.drew) hl ?_ ?_).mono ?_; omega; omega; rintro e w' ⟨rfl, rfl⟩; rw [show (4 * (k : Int) + 3).toNat = 4 * k + 3 from by omega])
            | (go_simp; go_at_call 4; refine (pick_any _ _ _ ?_ ?_ ?_ ?_).mono ?_; omega; omega; omega; omega; rintro e w' ⟨rfl, rfl⟩)
            | (refine step_append_row rfl (.tmp 38) (.tmp 45) 22 rfl 3 i0 (.int .i64 0) 1 8 Try.underlying22 hi hz0 hz1 hz2 rfl (by decide) _ _ _ rfl ((Hz.out.shots.alloc _).drew) _ _ _ rfl (row_one_at _ _ _ _ ?_).drew ?_ ?_ ?_ ?_
               · simp
               · exact one_int _ _
               · rw [shotsTo_length]; unfold maxLen; omega
               · rw [shotsTo_length]; omega
               intro p2 c2 w3 h1 h2 h3
               have HN : Hid _ := hid ((Hz.out.film.alloc _).drew.grown h2 (fun e => by have := Hz.out.sb _ e; omega))
               have hc3 := HN.out.cell 3 _ rfl
               have hf3 := HN.out.free 3
               have R := hid (Hz.out.shots' Hbr.out h1 h2 h3)
               rw [show shotsTo xs k ++ [pick (raw xs (4 * k + 3)) 6] = shotsTo xs (k + 1) from (shotsTo_snoc xs k).symm] at R
               clear h1 h2 h3))
          all_goals
            go_wp2_with fail
            go_roundw
            case rel => exact ⟨k + 1, by omega, by go_num, _, _, R.out.1, R.out.2⟩
            case measure => simp [intOf]; omega
    · have hkn : k = n := by omega
      have hlt2 : ¬ (k : Int) < (W : Int) * (H : Int) := by rw [Hn2.out]; omega
      subst hkn
      have hz := Hz.out
      obtain ⟨p, cp, rfl⟩ := own_form hz.light
      obtain ⟨q, cq, rfl⟩ := own_form hz.shots
      have a0 := hz.film.cell 0 _ rfl
      have a1 := hz.film.cell 1 _ rfl
      have a2 := hz.film.cell 2 _ rfl
      have a3 := hz.film.cell 3 _ rfl
      have b0 := hz.res.cell 0 _ rfl
      have b1 := hz.res.cell 1 _ rfl
      have b2 := hz.res.cell 2 _ rfl
      have b3 := hz.res.cell 3 _ rfl
      have c0 := hz.res.free 0
      have c1 := hz.res.free 1
      have c2 := hz.res.free 2
      have c3 := hz.res.free 3
      clear hz
      go_wp2_with fail
      clear a0 a1 a2 a3 b0 b1 b2 b3 c0 c1 c2 c3
      have hz := Hz.out
      have hbr := Hbr.out
      have hN := (((hz.res.set 0 (.int .i64 W)).set 1 (.int .i64 H)).set 2 (.slice p (lightsTo xs k).length cp)).set 3 (.slice q (shotsTo xs k).length cq)
      have d0 := hN.cell 0 (.int .i64 W) (by simp)
      have d1 := hN.cell 1 (.int .i64 H) (by simp)
      have d2 := hN.cell 2 (.slice p (lightsTo xs k).length cp) (by simp)
      have d3 := hN.cell 3 (.slice q (shotsTo xs k).length cq) (by simp)
      have hb0 : w.heap.size ≤ w.heap.size := Nat.le_refl _
      refine bodyPost_ret (v := .agg #[.int .i64 W, .int .i64 H, .slice p (lightsTo xs k).length cp, .slice q (shotsTo xs k).length cq]) (by simp [results, Try.results5, go_sem, d0, d1, d2, d3]) rfl ⟨_, _, rfl, ?_, ?_, ?_, ?_, ?_, ?_⟩
      · rw [← Hn.out]
        have hne : ∀ j, (Value.slice p (lightsTo xs k).length cp).ownBlock ≠ some (⟨w.heap.size, j, none⟩ : Addr).block := fun j e => absurd (hz.lb _ e) (by show ¬ (w.heap.size + 2 ≤ w.heap.size); omega)
        exact ownsRow_setCell_other (ownsRow_setCell_other (ownsRow_setCell_other (ownsRow_setCell_other hz.light (hne 0) _) (hne 1) _) (hne 2) _) (hne 3) _
      · rw [← Hn.out]
        have hne : ∀ j, (Value.slice q (shotsTo xs k).length cq).ownBlock ≠ some (⟨w.heap.size, j, none⟩ : Addr).block := fun j e => absurd (hz.sb _ e) (by show ¬ (w.heap.size + 2 ≤ w.heap.size); omega)
        exact ownsRow_setCell_other (ownsRow_setCell_other (ownsRow_setCell_other (ownsRow_setCell_other hz.shots (hne 0) _) (hne 1) _) (hne 2) _) (hne 3) _
      · exact (((hbr.setCell (p := ⟨w.heap.size, 0, none⟩) hb0 _).setCell (p := ⟨w.heap.size, 1, none⟩) hb0 _).setCell (p := ⟨w.heap.size, 2, none⟩) hb0 _).setCell (p := ⟨w.heap.size, 3, none⟩) hb0 _
      · intro j hj; have := hz.lb j hj; omega
      · intro j hj; have := hz.sb j hj; omega
      · exact hz.ne

end Go.Proofs.Ytjjkgoekcpgilaa

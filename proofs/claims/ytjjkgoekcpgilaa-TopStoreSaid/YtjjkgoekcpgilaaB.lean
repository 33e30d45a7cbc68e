/- TopStore: sameInts, film.May, sameFilm, walked. -/
import Derived.Test.YtjjkgoekcpgilaaA
namespace Go.Proofs.Ytjjkgoekcpgilaa
open Go.RowKit

theorem IntsAt.form {w : World} {v : Value} {xs : List Int} (h : IntsAt w v xs) :
    ∃ p cap, v = .slice p xs.length cap ∧ xs.length ≤ cap ∧ cap ≤ maxLen ∧ ∀ k, k < xs.length → ∃ b off, p = some ⟨b, off, none⟩ ∧ b < w.heap.size ∧ w.cell? ⟨b, off + k, none⟩ = some (.int .i64 (xs[k]?.getD 0)) := by
  obtain ⟨p, cap, h1, h2, h4, h3⟩ := RowAt.form h
  refine ⟨p, cap, h1, h2, h4, fun k hk => ?_⟩
  obtain ⟨b, off, e1, e2, e3⟩ := h3 k (by simpa using hk)
  exact ⟨b, off, e1, e2, by rw [e3, List.getElem?_map, List.getElem?_eq_getElem hk]; rfl⟩

theorem sameInts_any (v1 v2 : Value) (xs ys : List Int) (w : World) (h1 : IntsAt w v1 xs) (h2 : IntsAt w v2 ys) :
    Calls Try.prog 15 #[v1, v2] w fun e w' => e = .returned (.bool (decide (xs = ys))) ∧ ∃ n, w' = w.drewN n := by
  obtain ⟨p, c, rfl, l1, m1, g1⟩ := h1.form
  obtain ⟨q, d, rfl, l2, m2, g2⟩ := h2.form
  unfold maxLen at m1 m2
  by_cases hl : xs.length = ys.length
  · obtain ⟨n, hn⟩ : ∃ n, n = xs.length := ⟨_, rfl⟩
    rw [← hl] at g2 l2 ⊢
    rw [← hn] at g1 g2 l1 l2 ⊢
    have Hn := hid hn
    have Hl := hid hl
    clear hn hl
    go_enter Try.func15, Try.ntmps15
    go_wp2
    go_loopw [5] (fun i wr => ∃ k m : Nat, k ≤ n ∧ i = .int .i64 k ∧ xs.take k = ys.take k ∧ wr = w.drewN m) (fun i _ => n - (intOf i).toNat)
    case atStart => exact ⟨0, 0, Nat.zero_le _, rfl, rfl, rfl⟩
    case round =>
      obtain ⟨k, m, hk, rfl, heq, rfl⟩ := hrel
      have Heq := hid heq
      clear heq
      by_cases hlt : k < n
      · obtain ⟨b, off, rfl, hb, hc1⟩ := g1 k hlt
        obtain ⟨b2, off2, rfl, hb2, hc2⟩ := g2 k hlt
        clear g1 g2
        go_wp2
        by_cases he : xs[k]?.getD 0 = ys[k]?.getD 0
        · have Hk : Hid (xs.take (k + 1) = ys.take (k + 1)) := by
            have e1 := Hn.out; have e2 := Hl.out
            have hx : k < xs.length := by rw [← e1]; exact hlt
            have hy : k < ys.length := by rw [← e2]; exact hx
            unfold Hid
            rw [take_snoc' _ _ hx, take_snoc' _ _ hy, Heq.out]
            rw [List.getElem?_eq_getElem hx, List.getElem?_eq_getElem hy] at he
            rw [show xs[k] = ys[k] from he]
          go_quiet (fail)
          go_wp2
          go_roundw
          case rel => exact ⟨k + 1, _, by omega, by go_num, Hk.out, rfl⟩
          case measure => simp [intOf]; omega
        · have Hr : Hid (decide (xs = ys) = false) := by
            refine hid (decide_eq_false fun e => he ?_)
            rw [e]
          go_quiet (fail)
          go_wp2
          go_ret
          exact ⟨by rw [Hr.out]; rfl, m + nq, by simp [World.drewN, Nat.add_assoc]⟩
      · have hr : xs = ys := by
          have e := Heq.out
          rw [List.take_of_length_le (by rw [← Hn.out]; omega), List.take_of_length_le (by rw [← Hl.out, ← Hn.out]; omega)] at e
          exact e
        have Hr : Hid (decide (xs = ys) = true) := hid (decide_eq_true hr)
        clear hr
        go_wp2
        go_ret
        exact ⟨by rw [Hr.out]; rfl, _, rfl⟩
  · have hr : xs ≠ ys := fun e => hl (by rw [e])
    have Hr : Hid (decide (xs = ys) = false) := hid (decide_eq_false hr)
    clear hr
    go_enter Try.func15, Try.ntmps15
    go_wp2
    go_ret
    exact ⟨by rw [Hr.out]; rfl, 0, rfl⟩


/-- A film that may be. -/
structure FilmOk (W H : Nat) (light shots : List Int) : Prop where
  w1 : 1 ≤ W
  w64 : W ≤ 64
  h1 : 1 ≤ H
  h64 : H ≤ 64
  lenL : light.length = 3 * (W * H)
  lenS : shots.length = W * H
  lights : ∀ x ∈ light, 0 ≤ x ∧ x ≤ 1099511627776
  shotss : ∀ x ∈ shots, 0 ≤ x ∧ x ≤ 1048576

theorem may_ok (W H : Nat) (light shots : List Int) (lv sv : Value) (w : World) (hf : FilmOk W H light shots) (hl : IntsAt w lv light) (hs : IntsAt w sv shots) :
    Calls Try.prog 16 #[.agg #[.int .i64 W, .int .i64 H, lv, sv]] w fun e w' => e = .returned (.int .i64 0) ∧ Below w.heap.size w w' := by
  obtain ⟨p, c, rfl, l1, m1, g1⟩ := hl.form
  obtain ⟨q, d, rfl, l2, m2, g2⟩ := hs.form
  unfold maxLen at m1 m2
  obtain ⟨a1, a2, a3, a4, a5, a6, a7, a8⟩ := hf
  have hwh : W * H ≤ 64 * 64 := Nat.mul_le_mul a2 a4
  have hwh2 : (W : Int) * (H : Int) ≤ 4096 := by rw [← Int.natCast_mul]; omega
  have hwh3 : 0 ≤ (W : Int) * (H : Int) := by rw [← Int.natCast_mul]; omega
  go_enter Try.func16, Try.ntmps16
  go_wp2
  go_loop [49] (fun i => ∃ k : Nat, k ≤ light.length ∧ i = .int .i64 k) (fun i => light.length - (intOf i).toNat)
  case atStart => exact ⟨0, Nat.zero_le _, rfl⟩
  case round =>
    obtain ⟨k, hk, rfl⟩ := hrel
    by_cases hlt : k < light.length
    · obtain ⟨b, off, rfl, hb, hc⟩ := g1 k hlt
      have hv := a7 (light[k]?.getD 0) (by rw [List.getElem?_eq_getElem hlt]; exact List.getElem_mem hlt)
      obtain ⟨hv1, hv2⟩ := hv
      clear g1 g2 a7 a8
      go_wp2
      go_round
      case rel => exact ⟨k + 1, by omega, by go_num⟩
      case measure => simp [intOf]; omega
    · clear g1 a7
      go_wp2
      go_loop [63] (fun i => ∃ k : Nat, k ≤ shots.length ∧ i = .int .i64 k) (fun i => shots.length - (intOf i).toNat)
      case atStart => exact ⟨0, Nat.zero_le _, rfl⟩
      case round =>
        obtain ⟨k', hk', rfl⟩ := hrel
        by_cases hlt' : k' < shots.length
        · obtain ⟨b, off, rfl, hb, hc⟩ := g2 k' hlt'
          have hv := a8 (shots[k']?.getD 0) (by rw [List.getElem?_eq_getElem hlt']; exact List.getElem_mem hlt')
          obtain ⟨hv1, hv2⟩ := hv
          clear g2 a8
          go_wp2
          go_round
          case rel => exact ⟨k' + 1, by omega, by go_num⟩
          case measure => simp [intOf]; omega
        · clear g2 a8
          go_wp2
          go_ret
          exact ⟨rfl, (Below.refl _ _).alloc (Nat.le_refl _) _⟩


theorem sameFilm_eq (W H : Int) (light shots : List Int) (l1 s1 l2 s2 : Value) (w : World) (hl1 : IntsAt w l1 light) (hs1 : IntsAt w s1 shots) (hl2 : IntsAt w l2 light) (hs2 : IntsAt w s2 shots) :
    Calls Try.prog 10 #[.agg #[.int .i64 W, .int .i64 H, l1, s1], .agg #[.int .i64 W, .int .i64 H, l2, s2]] w fun e w' => e = .returned (.bool true) ∧ Below w.heap.size w w' := by
  go_enter Try.func10, Try.ntmps10
  go_wp2_with fail
  refine (sameInts_any l1 l2 light light _ ((hl1.alloc _).alloc _) ((hl2.alloc _).alloc _)).mono ?_
  rintro e w1 ⟨rfl, n, rfl⟩
  rw [decide_eq_true (rfl : light = light)]
  go_wp2_with fail
  refine (sameInts_any s1 s2 shots shots _ (((hs1.alloc _).alloc _).below (drewN_below _ _)) (((hs2.alloc _).alloc _).below (drewN_below _ _))).mono ?_
  rintro e w1 ⟨rfl, m, rfl⟩
  rw [decide_eq_true (rfl : shots = shots)]
  go_wp2
  go_ret
  refine ⟨rfl, ?_⟩
  have h2 : Below w.heap.size w ((w.alloc (.cells #[.int .i64 W, .int .i64 H, l1, s1] 29)).alloc (.cells #[.int .i64 W, .int .i64 H, l2, s2] 29)) := ((Below.refl _ _).alloc (Nat.le_refl _) _).alloc (by simp) _
  exact h2.trans ((drewN_below _ (n + m)).mono h2.size)

end Go.Proofs.Ytjjkgoekcpgilaa

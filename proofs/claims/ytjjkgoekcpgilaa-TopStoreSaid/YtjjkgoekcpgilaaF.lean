/- TopStore: Load, walked. -/
import Derived.Test.YtjjkgoekcpgilaaP
namespace Go.Proofs.Ytjjkgoekcpgilaa
open Go.RowKit

theorem head4_eq (W H : Nat) (light shots : List Int) : ((saved W H light shots).drop 0).take 4 = [82, 72, 70, 49] := by
  simp [saved, headOf, head6]

theorem get_sum (v : Value) (h : List UInt8) (w : World) (hv : BytesAt w v (beBytes (sumOf h).toNat 4)) :
    Calls Try.prog 13 #[v] w fun e w' => e = .returned (.int .i64 (sumOf h)) ∧ w = w' := by
  have := get_any v _ w hv (by rw [beBytes_length]; omega)
  rw [sum_back] at this
  exact this
theorem get_light (v : Value) (x : Int) (w : World) (hv : BytesAt w v (beBytes x.toNat 6)) (h0 : 0 ≤ x) (h1 : x ≤ 1099511627776) :
    Calls Try.prog 13 #[v] w fun e w' => e = .returned (.int .i64 x) ∧ w = w' := by
  have := get_any v _ w hv (by rw [beBytes_length]; omega)
  rw [light_back x h0 h1] at this
  exact this
theorem get_shot (v : Value) (x : Int) (w : World) (hv : BytesAt w v (beBytes x.toNat 3)) (h0 : 0 ≤ x) (h1 : x ≤ 1048576) :
    Calls Try.prog 13 #[v] w fun e w' => e = .returned (.int .i64 x) ∧ w = w' := by
  have := get_any v _ w hv (by rw [beBytes_length]; omega)
  rw [shot_back x h0 h1] at this
  exact this

set_option maxHeartbeats 3200000 in
theorem load_ok (W H : Nat) (light shots : List Int) (v : Value) (w : World) (hf : FilmOk W H light shots) (hv : BytesAt w v (saved W H light shots)) :
    Calls Try.prog 14 #[v] w fun e w' => ∃ lv sv, e = .returned (.tuple #[.agg #[.int .i64 W, .int .i64 H, lv, sv], .int .i64 0]) ∧
      IntsAt w' lv light ∧ IntsAt w' sv shots ∧ Below w.heap.size w w' ∧ (∀ k, lv.ownBlock = some k → w.heap.size ≤ k) ∧ (∀ k, sv.ownBlock = some k → w.heap.size ≤ k) := by
  obtain ⟨i0, hi, hz0, hz1, hz2⟩ := info_parts info3
  obtain ⟨n, hn⟩ : ∃ n, n = W * H := ⟨_, rfl⟩
  have hwh : W * H ≤ 64 * 64 := Nat.mul_le_mul hf.w64 hf.h64
  have hwh1 : 1 * 1 ≤ W * H := Nat.mul_le_mul hf.w1 hf.h1
  have Hn2 : Hid ((W : Int) * (H : Int) = (n : Int)) := by rw [hn]; exact (Int.natCast_mul W H).symm
  have hlen : (saved W H light shots).length = 10 + 21 * n := by rw [saved_length, hf.lenL, hf.lenS, ← hn]; omega
  have Hlen := hid hlen
  have hn1 : 1 ≤ n := by omega
  have hn2 : n ≤ 4096 := by omega
  have HL : Hid (light.length = 3 * n) := by rw [hn]; exact hf.lenL
  have HS : Hid (shots.length = n) := by rw [hn]; exact hf.lenS
  have hW1 := hf.w1
  have hW2 := hf.w64
  have hH1 := hf.h1
  have hH2 := hf.h64
  have Hf := hid hf
  clear hf hwh hwh1
  rcases hv.cases with ⟨_, h0⟩ | ⟨b, off, cap, hv', hb, hc⟩
  · rw [h0] at hlen; simp at hlen; omega
  have hcap : (10 + 21 * n) ≤ cap ∧ cap ≤ maxLen := by
    obtain ⟨p, c, e, l1, l2, _⟩ := RowAt.form hv
    rw [hv'] at e
    injection e with e1 e2 e3
    omega
  obtain ⟨hcap1, hcap2⟩ := hcap
  rw [hlen] at hv'
  subst hv'
  clear hn
  unfold maxLen at hcap2
  have b0 : w.cell? ⟨b, off, none⟩ = some (.int .u8 82) := by have := hc 0 (by omega); rw [saved_front _ _ _ _ _ (by omega)] at this; simpa [head6] using this
  have b1 : w.cell? ⟨b, off + 1, none⟩ = some (.int .u8 72) := by have := hc 1 (by omega); rw [saved_front _ _ _ _ _ (by omega)] at this; simpa [head6] using this
  have b2 : w.cell? ⟨b, off + 2, none⟩ = some (.int .u8 70) := by have := hc 2 (by omega); rw [saved_front _ _ _ _ _ (by omega)] at this; simpa [head6] using this
  have b3 : w.cell? ⟨b, off + 3, none⟩ = some (.int .u8 49) := by have := hc 3 (by omega); rw [saved_front _ _ _ _ _ (by omega)] at this; simpa [head6] using this
  have b4 : w.cell? ⟨b, off + 4, none⟩ = some (.int .u8 W) := by
    have := hc 4 (by omega); rw [saved_front _ _ _ _ _ (by omega)] at this
    rw [this]; simp [head6]; omega
  have b5 : w.cell? ⟨b, off + 5, none⟩ = some (.int .u8 H) := by
    have := hc 5 (by omega); rw [saved_front _ _ _ _ _ (by omega)] at this
    rw [this]; simp [head6]; omega
  have kc := str_back (P := Try.prog) ((bytes_cut (cap := cap) rfl hb hc 0 4 (by omega) (by omega) (by unfold maxLen; omega) _ (head4_eq W H light shots)).alloc (.cells #[.int .i64 0, .int .i64 0, .slice none 0 0, .slice none 0 0] 29)) 23 9 5 Try.underlying23 Try.underlying5 Try.underlying9
  rw [Nat.add_zero] at kc
  have Hc := hid hc
  clear hc hlen
  have Hv := hid hv
  clear hv
  go_enter Try.func14, Try.ntmps14
  go_wp2_with fail
  go_region
  have hWH : (W : Int) * (H : Int) = (n : Int) := Hn2.out
  clear kc b0 b1 b2 b3 b4 b5
  go_wp2_with fail
  have Ht := hid (bytes_cut (cap := cap - (10 + 21 * n - 4)) Hlen.out hb Hc.out (10 + 21 * n - 4) (10 + 21 * n - (10 + 21 * n - 4)) (by omega) (by omega) (by unfold maxLen; omega) (beBytes (sumOf (headOf W H light shots)).toNat 4)
    (by rw [show 10 + 21 * n - (10 + 21 * n - 4) = 4 from by omega]; rw [saved_tail W H light shots _ (by rw [Hlen.out]; omega)]; exact List.take_of_length_le (by simp [beBytes_length])))
  have Hh := hid (bytes_cut (cap := cap) Hlen.out hb Hc.out 0 (10 + 21 * n - 4) (by omega) (by omega) (by unfold maxLen; omega) (headOf W H light shots) (by rw [List.drop_zero]; exact saved_head W H light shots _ (by rw [Hlen.out]; omega)))
  rw [Nat.add_zero] at Hh
  obtain ⟨hr1, hr2⟩ := sumOf_range (headOf W H light shots)
  have hhl : (headOf W H light shots).length ≤ 1099511627776 := by
    have := Hlen.out; unfold saved at this; rw [List.length_append] at this; omega
  go_quiet (first
    | (go_at_call 13; refine (get_sum _ (headOf W H light shots) _ (((Ht.out.alloc _).alloc _).below (drewN_below _ _))).mono (fun e w' h => ⟨h.1, _, h.2.symm⟩))
    | (go_at_call 17; refine (sum_any _ (headOf W H light shots) _ (((Hh.out.alloc _).alloc _).below (drewN_below _ _)) hhl).mono (fun e w' h => ⟨h.1, _, h.2.symm⟩)))
  go_wp2_with fail
  clear hr1 hr2 hhl Ht Hh
  go_loopw [6, 89] (fun r i wr => ∃ k o m c : Nat, k ≤ 3 * n ∧ i = .int .i64 k ∧ r = .slice (some ⟨b, o, none⟩) m c ∧ o = off + (6 + 6 * k) ∧ m = 4 + 21 * n - 6 * k ∧ c = cap - (6 + 6 * k) ∧
      ∃ lv, Zone w.heap.size W H (light.take k) [] wr lv (.slice none 0 0) ∧ Below w.heap.size w wr) (fun _ i _ => 3 * n - (intOf i).toNat)
  case atStart =>
    refine ⟨0, _, _, _, Nat.zero_le _, rfl, rfl, rfl, by omega, by omega, .slice none 0 0, ⟨?_, ?_, World.ownsRow_nil _ _ _ _, World.ownsRow_nil _ _ _ _, ?_, ?_, ?_⟩, ?_⟩
    · exact ((Blk.new _ _ _).alloc _).drewN _
    · have := Blk.new (w.alloc (.cells #[.int .i64 0, .int .i64 0, .slice none 0 0, .slice none 0 0] 29)) #[.int .i64 W, .int .i64 H, .slice none 0 0, .slice none 0 0] 29
      simpa using this.drewN _
    · simp [Value.ownBlock]
    · simp [Value.ownBlock]
    · simp [Value.ownBlock]
    · exact (((Below.refl _ _).alloc (Nat.le_refl _) _).alloc (by simp) _).trans ((drewN_below _ _).mono (by simp; omega))
  case round =>
    obtain ⟨k, o, m, c, hk, rfl, rfl, ho, hm, hcc, lv, hz, hbr⟩ := hrel
    have Hz := hid hz
    have Hbr := hid hbr
    clear hbr
    have Ho := hid ho
    have Hm := hid hm
    have Hcc := hid hcc
    clear ho hm hcc
    by_cases hlt : k < 3 * n
    · have hm6 : 6 ≤ m := by have := Hm.out; omega
      have hc6 : 6 ≤ c := by have := Hcc.out; omega
      have hm6' : (6 : Int) ≤ (m : Int) := by omega
      have hc6' : (6 : Int) ≤ (c : Int) := by omega
      have hc7 : ¬ (c = 6) := by have := Hcc.out; omega
      have hmc : (m : Int) ≤ (c : Int) := by have := Hcc.out; have := Hm.out; omega
      have hll : k < light.length := by rw [HL.out]; exact hlt
      have hv := Hf.out.lights light[k] (List.getElem_mem hll)
      obtain ⟨hv1, hv2⟩ := hv
      have Hcut := hid (bytes_cut (cap := c) Hlen.out hb Hc.out (6 + 6 * k) 6 (by omega) hc6 (by have := Hcc.out; unfold maxLen; omega) _ (saved_light W H light shots k hll))
      rw [← Ho.out] at Hcut
      have Hsn : Hid (light.take k ++ [light[k]] = light.take (k + 1)) := hid (take_snoc' light k hll).symm
      have Hlk : Hid ((light.take k).length = k) := by unfold Hid; rw [List.length_take]; omega
      have Hown : Hid (wr.ownsRow 0 3 1 lv k ((light.take k).map (Value.int .i64))) := by have := hz.light; unfold OwnI at this; rw [Hlk.out] at this; exact this
      obtain ⟨p, cp, rfl⟩ := own_form Hown.out
      have hc2 := hz.film.cell 2 _ rfl
      have hf2 := hz.film.free 2
      have hsz := hz.film.lt
      clear hz
      go_wp2_with fail
      go_region_law (first
        | (go_simp; go_at_call 13; refine (get_light _ light[k] _ (Hcut.out.below Hbr.out.drew) hv1 hv2).mono ?_; rintro e w' ⟨rfl, rfl⟩)
        | (refine step_append_row rfl (.tmp 92) (.tmp 96) 22 rfl 3 i0 (.int .i64 0) 1 8 Try.underlying22 hi hz0 hz1 hz2 rfl (by decide) _ _ _ rfl ((Hown.out.alloc _).drew) _ _ _ rfl (row_one_at _ _ _ _ ?_).drew ?_ ?_ ?_ ?_
           · simp
           · exact one_int _ _
           · unfold maxLen; omega
           · omega
           intro p2 c2 w3 h1 h2 h3
           have HN : Hid _ := hid ((Hz.out.film.alloc _).drew.grown h2 (fun e => by have := Hz.out.lb _ e; omega))
           have hc3 := HN.out.cell 2 _ rfl
           have hf3 := HN.out.free 2
           have R := hid (Hz.out.light' Hbr.out (by rw [Hlk.out]; exact h1) h2 h3)
           rw [Hsn.out] at R
           clear h1 h2 h3))
      all_goals
        go_wp2_with fail
        go_roundw
        case rel => exact ⟨k + 1, _, _, _, by omega, by go_num, rfl, by have := Ho.out; omega, by have := Hm.out; omega, by have := Hcc.out; omega, _, R.out.1, R.out.2⟩
        case measure => simp [intOf]; omega
    · have hkn : k = 3 * n := by omega
      have Hlk : Hid (light.take k = light) := by unfold Hid; rw [hkn, ← HL.out]; exact List.take_length
      rw [Hlk.out] at Hz hz
      have Ho2 : Hid (o = off + (6 + 6 * light.length)) := by unfold Hid; rw [HL.out, ← hkn]; exact Ho.out
      have Hm2 : Hid (m = 4 + 3 * n) := by unfold Hid; rw [Hm.out, hkn]; omega
      have Hc2 : Hid (c = cap - (6 + 18 * n)) := by unfold Hid; rw [Hcc.out, hkn]; omega
      clear Hlk Ho Hm Hcc
      have hlt' : ¬ (k : Int) < 3 * (n : Int) := by omega
      clear hkn hz
      go_wp2_with fail
      go_loopw [6, 103] (fun r i wr => ∃ k o m c : Nat, k ≤ n ∧ i = .int .i64 k ∧ r = .slice (some ⟨b, o, none⟩) m c ∧ o = off + (6 + 6 * light.length + 3 * k) ∧ m = 4 + 3 * n - 3 * k ∧ c = cap - (6 + 18 * n + 3 * k) ∧
          ∃ lv sv, Zone w.heap.size W H light (shots.take k) wr lv sv ∧ Below w.heap.size w wr) (fun _ i _ => n - (intOf i).toNat)
      case atStart => exact ⟨0, _, _, _, Nat.zero_le _, rfl, rfl, by have := Ho2.out; omega, by have := Hm2.out; omega, by have := Hc2.out; omega, _, _, Hz.out, Hbr.out⟩
      case round =>
        clear Hz Hbr Ho2 Hm2 Hc2 hlt hlt' hk
        clear lv
        obtain ⟨k, o, m, c, hk, rfl, rfl, ho, hm, hcc, lv, sv, hz, hbr⟩ := hrel
        have Hz := hid hz
        have Hbr := hid hbr
        clear hbr
        have Ho := hid ho
        have Hm := hid hm
        have Hcc := hid hcc
        have HL' := HL.out
        clear ho hm hcc
        by_cases hlt : k < n
        · have hm6 : 3 ≤ m := by have := Hm.out; omega
          have hc6 : 3 ≤ c := by have := Hcc.out; omega
          have hm6' : (3 : Int) ≤ (m : Int) := by omega
          have hc6' : (3 : Int) ≤ (c : Int) := by omega
          have hc7 : ¬ (c = 3) := by have := Hcc.out; omega
          have hmc : (m : Int) ≤ (c : Int) := by have := Hcc.out; have := Hm.out; omega
          have hll : k < shots.length := by rw [HS.out]; exact hlt
          have hv := Hf.out.shotss shots[k] (List.getElem_mem hll)
          obtain ⟨hv1, hv2⟩ := hv
          have Hcut := hid (bytes_cut (cap := c) Hlen.out hb Hc.out (6 + 6 * light.length + 3 * k) 3 (by omega) hc6 (by have := Hcc.out; unfold maxLen; omega) _ (saved_shots W H light shots k hll))
          rw [← Ho.out] at Hcut
          have Hsn : Hid (shots.take k ++ [shots[k]] = shots.take (k + 1)) := hid (take_snoc' shots k hll).symm
          have Hlk : Hid ((shots.take k).length = k) := by unfold Hid; rw [List.length_take]; omega
          have Hown : Hid (wr.ownsRow 0 3 1 sv k ((shots.take k).map (Value.int .i64))) := by have := hz.shots; unfold OwnI at this; rw [Hlk.out] at this; exact this
          obtain ⟨p, cp, rfl⟩ := own_form Hown.out
          have hc2 := hz.film.cell 3 _ rfl
          have hf2 := hz.film.free 3
          have hsz := hz.film.lt
          clear hz HL'
          go_wp2_with fail
          go_region_law (first
            | (go_simp; go_at_call 13; refine (get_shot _ shots[k] _ (Hcut.out.below Hbr.out.drew) hv1 hv2).mono ?_; rintro e w' ⟨rfl, rfl⟩)
            | (refine step_append_row rfl (.tmp 106) (.tmp 110) 22 rfl 3 i0 (.int .i64 0) 1 8 Try.underlying22 hi hz0 hz1 hz2 rfl (by decide) _ _ _ rfl ((Hown.out.alloc _).drew) _ _ _ rfl (row_one_at _ _ _ _ ?_).drew ?_ ?_ ?_ ?_
               · simp
               · exact one_int _ _
               · unfold maxLen; omega
               · omega
               intro p2 c2 w3 h1 h2 h3
               have HN : Hid _ := hid ((Hz.out.film.alloc _).drew.grown h2 (fun e => by have := Hz.out.sb _ e; omega))
               have hc3 := HN.out.cell 3 _ rfl
               have hf3 := HN.out.free 3
               have R := hid (Hz.out.shots' Hbr.out (by rw [Hlk.out]; exact h1) h2 h3)
               rw [Hsn.out] at R
               clear h1 h2 h3))
          all_goals
            go_wp2_with fail
            go_roundw
            case rel => exact ⟨k + 1, _, _, _, by omega, by go_num, rfl, by have := Ho.out; omega, by have := Hm.out; omega, by have := Hcc.out; omega, _, _, R.out.1, R.out.2⟩
            case measure => simp [intOf]; omega
        · have hkn : k = n := by omega
          have Hlk : Hid (shots.take k = shots) := by unfold Hid; rw [hkn, ← HS.out]; exact List.take_length
          rw [Hlk.out] at Hz hz
          clear Hlk Ho Hm Hcc hkn HL'
          obtain ⟨p, cp, rfl⟩ := own_form hz.light
          obtain ⟨q, cq, rfl⟩ := own_form hz.shots
          have a0 := hz.film.cell 0 _ rfl
          have a1 := hz.film.cell 1 _ rfl
          have a2 := hz.film.cell 2 _ rfl
          have a3 := hz.film.cell 3 _ rfl
          have hsz := hz.film.lt
          have hm := may_ok W H light shots _ _ wr Hf.out hz.light.at hz.shots.at
          have Hm := hid hm
          clear hz hm
          go_wp2_with fail
          refine Hm.out.mono ?_
          rintro e w4 ⟨rfl, hb4⟩
          have H4 := hid hb4
          have hz := Hz.out
          have hF4 : Blk w4 (w.heap.size + 1) _ 29 := hz.film.below hb4 hz.film.lt
          have hR4 : Blk w4 w.heap.size _ 29 := hz.res.below hb4 (by have := hz.film.lt; omega)
          have HR4 := hid hR4
          have a0' := hF4.cell 0 _ rfl
          have a1' := hF4.cell 1 _ rfl
          have a2' := hF4.cell 2 _ rfl
          have a3' := hF4.cell 3 _ rfl
          have b0 := hR4.cell 0 _ rfl
          have b1 := hR4.cell 1 _ rfl
          have b2 := hR4.cell 2 _ rfl
          have b3 := hR4.cell 3 _ rfl
          have c0 := hR4.free 0
          have c1 := hR4.free 1
          have c2 := hR4.free 2
          have c3 := hR4.free 3
          clear hz hF4 hR4 hb4 a0 a1 a2 a3
          go_wp2_with fail
          clear a0' a1' a2' a3' b0 b1 b2 b3 c0 c1 c2 c3
          have hz := Hz.out
          have hN := (((HR4.out.set 0 (.int .i64 W)).set 1 (.int .i64 H)).set 2 (.slice p light.length cp)).set 3 (.slice q shots.length cq)
          have d0 := hN.cell 0 (.int .i64 W) (by simp)
          have d1 := hN.cell 1 (.int .i64 H) (by simp)
          have d2 := hN.cell 2 (.slice p light.length cp) (by simp)
          have d3 := hN.cell 3 (.slice q shots.length cq) (by simp)
          have hb0 : w.heap.size ≤ w.heap.size := Nat.le_refl _
          have hlb := hz.lb
          have hsb := hz.sb
          have hB4 : Below w.heap.size w w4 := Hbr.out.trans (H4.out.mono Hbr.out.size)
          have hB5 := (((hB4.setCell (p := ⟨w.heap.size, 0, none⟩) hb0 (.int .i64 W)).setCell (p := ⟨w.heap.size, 1, none⟩) hb0 (.int .i64 H)).setCell (p := ⟨w.heap.size, 2, none⟩) hb0 (.slice p light.length cp)).setCell (p := ⟨w.heap.size, 3, none⟩) hb0 (.slice q shots.length cq)
          have keep : ∀ (x : Value) (l : List Int), IntsAt wr x l → (∀ k, x.ownBlock = some k → w.heap.size + 2 ≤ k) → IntsAt ((((w4.setCell ⟨w.heap.size, 0, none⟩ (.int .i64 W)).setCell ⟨w.heap.size, 1, none⟩ (.int .i64 H)).setCell ⟨w.heap.size, 2, none⟩ (.slice p light.length cp)).setCell ⟨w.heap.size, 3, none⟩ (.slice q shots.length cq)) x l := by
            intro x l hx hxb
            refine RowAt.kept (hx.below H4.out) (by simp [World.setCell]) fun bb hbb _ => ?_
            have := hxb bb hbb
            rw [Below.heap_setCell _ _ _ _ (by show bb ≠ w.heap.size; omega), Below.heap_setCell _ _ _ _ (by show bb ≠ w.heap.size; omega), Below.heap_setCell _ _ _ _ (by show bb ≠ w.heap.size; omega), Below.heap_setCell _ _ _ _ (by show bb ≠ w.heap.size; omega)]
          refine bodyPost_ret (v := .tuple #[.agg #[.int .i64 W, .int .i64 H, .slice p light.length cp, .slice q shots.length cq], .int .i64 0]) (by simp [results, Try.results14, go_sem, d0, d1, d2, d3]) rfl ⟨_, _, rfl, ?_, ?_, hB5, ?_, ?_⟩
          · exact keep _ _ hz.light.at hlb
          · exact keep _ _ hz.shots.at hsb
          · intro k hk; have := hlb k hk; omega
          · intro k hk; have := hsb k hk; omega

end Go.Proofs.Ytjjkgoekcpgilaa

/- TopStore: the law itself, walked. -/
import Derived.Test.YtjjkgoekcpgilaaD
import Derived.Test.YtjjkgoekcpgilaaS
import Derived.Deep.CutBlock
namespace Go.Proofs.Ytjjkgoekcpgilaa
open Go.RowKit

theorem filmOf_int (v : Value) (xs : List Int) (W H : Int) (w : World) (hv : ArgInts w v xs) (hfit : Fit xs) (hl : xs.length ≤ 1048576) (hW0 : 0 ≤ W) (hW : W ≤ 64) (hH0 : 0 ≤ H) (hH : H ≤ 64) :
    Calls Try.prog 5 #[v, .int .i64 W, .int .i64 H] w fun e w' => ∃ lv sv, e = .returned (.agg #[.int .i64 W, .int .i64 H, lv, sv]) ∧
      OwnI w' lv (lightsTo xs (W.toNat * H.toNat)) ∧ OwnI w' sv (shotsTo xs (W.toNat * H.toNat)) ∧ Below w.heap.size w w' ∧
      (∀ k, lv.ownBlock = some k → w.heap.size ≤ k) ∧ (∀ k, sv.ownBlock = some k → w.heap.size ≤ k) ∧ (∀ k, lv.ownBlock = some k → sv.ownBlock ≠ some k) := by
  obtain ⟨a, rfl⟩ := Int.eq_ofNat_of_zero_le hW0
  obtain ⟨b, rfl⟩ := Int.eq_ofNat_of_zero_le hH0
  exact filmOf_any v xs a b w hv hfit hl (by omega) (by omega)

theorem keep_int (S : Nat) (v : Value) (bs : List UInt8) (W H : Int) (light shots : List Int) (lv sv : Value) (w : World) (hS : Blk w S #[v] 25) (hown : OwnB w v bs) (hne : v.ownBlock ≠ some S)
    (hlen : bs.length ≤ 68719476736) (hW : 0 ≤ W) (hH : 0 ≤ H) (hf : FilmOk W.toNat H.toNat light shots) (hl : IntsAt w lv light) (hs : IntsAt w sv shots) :
    Calls Try.prog 7 #[.pointer (some ⟨S, 0, none⟩), .agg #[.int .i64 W, .int .i64 H, lv, sv]] w fun e w' => ∃ v', e = .returned (.int .i64 0) ∧ Blk w' S #[v'] 25 ∧
      OwnB w' v' (bs ++ recOf W.toNat H.toNat light shots) ∧ v'.ownBlock ≠ some S ∧ Fresh w v v' ∧ Kept2 S v.ownBlock w w' := by
  obtain ⟨a, rfl⟩ := Int.eq_ofNat_of_zero_le hW
  obtain ⟨b, rfl⟩ := Int.eq_ofNat_of_zero_le hH
  exact keep_ok S v bs a b light shots lv sv w hS hown hne hlen hf hl hs

def sideAt (one : List Int) (k : Nat) : Int := 1 + pick (raw one k) 3
def filmAt (one : List Int) (k : Nat) : Film :=
  ⟨(sideAt one k).toNat, (sideAt one (k + 1)).toNat, lightsTo one ((sideAt one k).toNat * (sideAt one (k + 1)).toNat), (shotsTo one ((sideAt one k).toNat * (sideAt one (k + 1)).toNat)).set 0 k⟩
def filmsTo (one : List Int) (k : Nat) : List Film := (List.range k).map (filmAt one)
def sizesTo (one : List Int) (k : Nat) : List Int := (List.range k).map fun i => ((disk (filmsTo one (i + 1))).length : Int)

theorem side_lt (one : List Int) (k : Nat) : 1 ≤ sideAt one k ∧ sideAt one k ≤ 3 := by
  have := pick_lt (raw one k) 3 (by omega)
  unfold sideAt; omega
theorem lights_range (one : List Int) (n : Nat) : ∀ x ∈ lightsTo one n, 0 ≤ x ∧ x ≤ 1099511627776 := by
  intro x hx
  obtain ⟨i, _, hx⟩ := List.mem_flatMap.1 hx
  have h0 := pick_lt (IntKind.i64.wrap (raw one (4 * i + 0) * 4099)) 300000 (by omega)
  have h1 := pick_lt (IntKind.i64.wrap (raw one (4 * i + 1) * 4099)) 300000 (by omega)
  have h2 := pick_lt (IntKind.i64.wrap (raw one (4 * i + 2) * 4099)) 300000 (by omega)
  unfold lightAt at hx
  simp only [List.mem_cons, List.not_mem_nil, or_false] at hx
  rcases hx with rfl | rfl | rfl <;> omega
theorem shots_range (one : List Int) (n : Nat) : ∀ x ∈ shotsTo one n, 0 ≤ x ∧ x ≤ 1048576 := by
  intro x hx
  obtain ⟨i, _, rfl⟩ := List.mem_map.1 hx
  have h0 := pick_lt (raw one (4 * i + 3)) 6 (by omega)
  unfold shotAt; omega
theorem film_ok (one : List Int) (k : Nat) (hk : k ≤ 1000) : (filmAt one k).ok := by
  have h1 := side_lt one k
  have h2 := side_lt one (k + 1)
  refine ⟨?_, ?_, ?_, ?_, ?_, ?_, ?_, ?_⟩
  · show 1 ≤ (sideAt one k).toNat; omega
  · show (sideAt one k).toNat ≤ 64; omega
  · show 1 ≤ (sideAt one (k + 1)).toNat; omega
  · show (sideAt one (k + 1)).toNat ≤ 64; omega
  · exact lightsTo_length _ _
  · show ((shotsTo one _).set 0 (k : Int)).length = _; rw [List.length_set, shotsTo_length]; rfl
  · exact lights_range _ _
  · intro x hx
    rcases List.mem_or_eq_of_mem_set hx with hx | rfl
    · exact shots_range _ _ x hx
    · omega
theorem filmsTo_snoc (one : List Int) (k : Nat) : filmsTo one (k + 1) = filmsTo one k ++ [filmAt one k] := by simp [filmsTo, List.range_succ]
theorem sizesTo_snoc (one : List Int) (k : Nat) : sizesTo one (k + 1) = sizesTo one k ++ [((disk (filmsTo one (k + 1))).length : Int)] := by simp [sizesTo, List.range_succ]
theorem disk_app (a b : List Film) : disk (a ++ b) = disk a ++ disk b := by simp only [disk, List.flatMap_append]
theorem disk_one (f : Film) : disk [f] = f.rec' := by simp [disk]
theorem disk_small (one : List Int) (k : Nat) (hk : k ≤ 1000) : (disk (filmsTo one k)).length ≤ 200000 * k := by
  induction k with
  | zero => simp [filmsTo, disk]
  | succ k ih =>
    rw [filmsTo_snoc, disk_app, disk_one, List.length_append, Film.rec_len]
    have := Film.ok_len (film_ok one k (by omega))
    have := ih (by omega)
    omega

/-- The film that has just been made, its first number of shots set. -/
theorem made_film (one : List Int) (k : Nat) (hk : k ≤ 1000) {wr w1 : World} {pl : Option Addr} {nl cl g ns cs : Nat}
    (hb1 : Below wr.heap.size wr w1) (hl1 : OwnI w1 (.slice pl nl cl) (lightsTo one ((sideAt one k).toNat * (sideAt one (k + 1)).toNat)))
    (hs1 : OwnI w1 (.slice (some ⟨g, 0, none⟩) ns cs) (shotsTo one ((sideAt one k).toNat * (sideAt one (k + 1)).toNat)))
    (hsb : ∀ k, (Value.slice (some ⟨g, 0, none⟩) ns cs).ownBlock = some k → wr.heap.size ≤ k)
    (hls : ∀ k, (Value.slice pl nl cl).ownBlock = some k → (Value.slice (some ⟨g, 0, none⟩) ns cs).ownBlock ≠ some k) (W3 : World)
    (hW3 : W3 = (w1.setCell ⟨g, 0, none⟩ (.int .i64 k)).alloc (.cells #[.int .i64 (sideAt one k), .int .i64 (sideAt one (k + 1)), .slice pl nl cl, .slice (some ⟨g, 0, none⟩) ns cs] 29)) :
    Below wr.heap.size wr W3 ∧ Blk W3 w1.heap.size #[.int .i64 (sideAt one k), .int .i64 (sideAt one (k + 1)), .slice pl nl cl, .slice (some ⟨g, 0, none⟩) ns cs] 29 ∧
      Part W3 ⟨filmAt one k, .slice pl nl cl, .slice (some ⟨g, 0, none⟩) ns cs⟩ := by
  subst hW3
  have hgb : wr.heap.size ≤ g := hsb g rfl
  have hF := Blk.new (w1.setCell ⟨g, 0, none⟩ (.int .i64 k)) #[.int .i64 (sideAt one k), .int .i64 (sideAt one (k + 1)), .slice pl nl cl, .slice (some ⟨g, 0, none⟩) ns cs] 29
  have hns : ns = (shotsTo one ((sideAt one k).toNat * (sideAt one (k + 1)).toNat)).length := by
    obtain ⟨_, _, e⟩ := own_form hs1
    injection e
  subst hns
  have hS := (World.ownsRow.stored hs1 0 (.int .i64 k)).1
  refine ⟨(hb1.setCell (p := ⟨g, 0, none⟩) hgb _).alloc (by have := hb1.size; simp [World.setCell]; omega) _, by simpa [World.setCell] using hF, ⟨?_, ?_, film_ok one k hk, ⟨_, _, _, rfl⟩, ⟨_, _, _, rfl⟩⟩⟩
  · exact (OwnI.at (ownsRow_setCell_other hl1 (a := ⟨g, 0, none⟩) (fun e => hls g e rfl) (.int .i64 k))).alloc _
  · refine RowAt.alloc ?_ _
    have e : (filmAt one k).shots.map (Value.int .i64) = ((shotsTo one ((sideAt one k).toNat * (sideAt one (k + 1)).toNat)).map (Value.int .i64)).set 0 (.int .i64 k) := by
      show ((shotsTo one _).set 0 (k : Int)).map _ = _
      rw [List.map_set]
    have e2 : (filmAt one k).shots.length = (shotsTo one ((sideAt one k).toNat * (sideAt one (k + 1)).toNat)).length := by
      show ((shotsTo one _).set 0 (k : Int)).length = _
      rw [List.length_set]
    show RowAt _ 1 _ (filmAt one k).shots.length ((filmAt one k).shots.map (Value.int .i64))
    rw [e, e2]
    exact owned_row hS

theorem RowAt.front {w : World} {p : Option Addr} {n c m : Nat} {xs : List Value} (h : RowAt w 1 (.slice p n c) n xs) (hm : m ≤ n) : RowAt w 1 (.slice p m c) m (xs.take m) := by
  have hl := h.1
  refine ⟨by rw [List.length_take]; omega, ?_⟩
  rcases h.2 with ⟨e, rfl⟩ | ⟨b, off, cap, e, h1, h2, h3, h4⟩
  · injection e with e1 e2 e3
    subst e1; subst e3
    have : m = 0 := by omega
    subst this
    exact .inl ⟨rfl, rfl⟩
  · injection e with e1 e2 e3
    subst e1; subst e3
    refine .inr ⟨b, off, c, rfl, by omega, h2, h3, fun j hj => ?_⟩
    rw [List.length_take] at hj
    rw [h4 j (by omega), List.getElem?_take, if_pos (by omega)]

theorem filmsTo_take (one : List Int) (k j : Nat) (h : j ≤ k) : (filmsTo one k).take j = filmsTo one j := by
  unfold filmsTo
  rw [← List.map_take, List.take_range, Nat.min_eq_left h]
theorem disk_mono (one : List Int) (a b : Nat) (h : a ≤ b) : (disk (filmsTo one a)).length ≤ (disk (filmsTo one b)).length := by
  rw [← filmsTo_take one b a h]; exact disk_take_le _ _

/-- Where the films that are whole end is told. -/
theorem whole_one (one : List Int) (k ct j j' : Nat) (hj : j ≤ k) (hj' : j' ≤ k) (h1 : (disk (filmsTo one j)).length ≤ ct) (h2 : j < k → ct < (disk (filmsTo one (j + 1))).length)
    (h3 : (disk (filmsTo one j')).length ≤ ct) (h4 : j' < k → ct < (disk (filmsTo one (j' + 1))).length) : j' = j := by
  rcases Nat.lt_trichotomy j' j with h | h | h
  · have := h4 (by omega); have := disk_mono one (j' + 1) j (by omega); omega
  · exact h
  · have := h2 (by omega); have := disk_mono one (j + 1) j' (by omega); omega

theorem flat4 (xs : List FV) (i : Nat) (x : FV) (h : xs[i]? = some x) (t : Nat) (ht : t < 4) : (xs.flatMap FV.cells)[4 * i + t]? = (FV.cells x)[t]? := by
  induction xs generalizing i with
  | nil => simp at h
  | cons y ys ih =>
    rw [List.flatMap_cons]
    cases i with
    | zero =>
      simp at h
      subst h
      rw [List.getElem?_append_left (by simp [FV.cells]; omega)]
      simp
    | succ i =>
      rw [List.getElem?_append_right (by simp [FV.cells]; omega), ← ih i (by simpa using h)]
      congr 1
      simp [FV.cells]; omega

def film2 (one : List Int) : Film := ⟨2, 2, lightsTo one 4, shotsTo one 4⟩
theorem film2_ok (one : List Int) : (film2 one).ok :=
  ⟨by show 1 ≤ 2; decide, by show 2 ≤ 64; decide, by show 1 ≤ 2; decide, by show 2 ≤ 64; decide, lightsTo_length one 4, shotsTo_length one 4, lights_range one 4, shots_range one 4⟩

/-- Behind Keep, with what was there below a block's number. -/
theorem kept2_below {B S : Nat} {row : Option Nat} {w w' : World} (h : Kept2 S row w w') (hB : B ≤ w.heap.size) (hS : B ≤ S) (hr : ∀ k, row = some k → B ≤ k) : Below B w w' :=
  ⟨h.os, h.tape, h.output, h.size, fun k hk => h.block k (by omega) (by omega) (fun e => by have := hr k e.symm; omega)⟩

/-- An argument's cells, in whatever world it has come to. -/
theorem ArgInts.mono {w w' : World} {v : Value} {l : List Int} (h : ArgInts w v l) (hb : Below w.heap.size w w') : ArgInts w' v l := h.below hb

set_option maxHeartbeats 3200000 in
set_option maxRecDepth 100000 in
theorem top_any (v : Value) (one : List Int) (many cut : Int) (w : World) (hv : ArgInts w v one) (hfit : Fit one) (hm1 : -9223372036854775808 ≤ many) (hm2 : many ≤ 9223372036854775807)
    (hc1 : -9223372036854775808 ≤ cut) (hc2 : cut ≤ 9223372036854775807) :
    Calls Try.prog 3 #[v, .int .i64 many, .int .i64 cut] w fun e w' => e = .returned (.bool true) ∧ Below w.heap.size w w' := by
  obtain ⟨i3, j3, z31, z32, z33⟩ := info_parts info3
  obtain ⟨i29, j29, z291, z292, z293⟩ := info_parts info29
  obtain ⟨p, c, rfl⟩ := hv.form
  by_cases hlen : one.length ≤ 128
  · obtain ⟨hp1, hp2⟩ := pick_lt many 4 (by omega)
    obtain ⟨np, hnp⟩ : ∃ np : Nat, pick many 4 = np := Int.eq_ofNat_of_zero_le hp1
    have hnp3 : np ≤ 3 := by omega
    have Hnp := hid hnp
    clear hnp hp1 hp2
    go_enter Try.func3, Try.ntmps3
    go_wp2_with fail
    go_loopw [8, 9, 10] (fun zv fv i wr => ∃ (k : Nat) (xs : List FV) (sv : Value), k ≤ np ∧ i = .int .i64 k ∧ xs.map FV.f = filmsTo one k ∧ St w wr w.heap.size xs (disk (filmsTo one k)) (sizesTo one k) sv zv fv)
      (fun _ _ i _ => np - (intOf i).toNat)
    case atStart =>
      refine ⟨0, [], .slice none 0 0, Nat.zero_le _, rfl, rfl, ⟨Blk.new _ _ _, World.ownsRow_nil _ _ _ _, World.ownsRow_nil _ _ _ _, World.ownsRow_nil _ _ _ _, ?_, ?_, ?_, ?_, ?_, ?_, ?_, ?_, ?_, Nat.le_refl _, ?_, ?_, ?_, (Below.refl _ _).alloc (Nat.le_refl _) _⟩⟩ <;> simp [Value.ownBlock, Apart]
    case round =>
      obtain ⟨k, xs, sv, hk, rfl, hxs, hst⟩ := hrel
      have Hxs := hid hxs
      have Hst := hid hst
      clear hxs hst
      have hv1 : ArgInts wr _ one := hv.mono Hst.out.below
      by_cases hlt : k < np
      · go_wp2_with fail
        refine (pick_any many 4 _ (by omega) (by omega) hm1 hm2).mono ?_
        rintro e w1 ⟨rfl, rfl⟩
        rw [Hnp.out]
        go_wp2_with fail
        obtain ⟨r1, r2⟩ := raw_fit hfit k
        obtain ⟨r3, r4⟩ := raw_fit hfit (k + 1)
        have HW := hid (side_lt one k)
        have HH := hid (side_lt one (k + 1))
        refine (raw_int _ one k _ hv1 (by omega) (by omega) (by omega)).mono ?_
        rintro e w1 ⟨rfl, rfl⟩
        rw [Int.toNat_natCast]
        go_wp2_with fail
        refine (pick_any _ 3 _ (by omega) (by omega) r1 r2).mono ?_
        rintro e w1 ⟨rfl, rfl⟩
        obtain ⟨q1, q2⟩ := pick_lt (raw one k) 3 (by omega)
        go_wp2_with fail
        refine (raw_int _ one (k + 1) _ hv1 (by omega) (by omega) (by omega)).mono ?_
        rintro e w1 ⟨rfl, rfl⟩
        rw [show ((k : Int) + 1).toNat = k + 1 from by omega]
        go_wp2_with fail
        refine (pick_any _ 3 _ (by omega) (by omega) r3 r4).mono ?_
        rintro e w1 ⟨rfl, rfl⟩
        obtain ⟨q3, q4⟩ := pick_lt (raw one (k + 1)) 3 (by omega)
        go_wp2_with fail
        rw [show 1 + pick (raw one k) 3 = sideAt one k from rfl, show 1 + pick (raw one (k + 1)) 3 = sideAt one (k + 1) from rfl]
        refine (filmOf_int _ one (sideAt one k) (sideAt one (k + 1)) _ hv1 hfit (by omega) (by have := HW.out.1; omega) (by have := HW.out.2; omega) (by have := HH.out.1; omega) (by have := HH.out.2; omega)).mono ?_
        rintro e w1 ⟨lv, sv1, rfl, hl1, hs1, hb1, hlb, hsb, hls⟩
        obtain ⟨pl, cl, rfl⟩ := own_form hl1
        have hpos : 0 < (shotsTo one ((sideAt one k).toNat * (sideAt one (k + 1)).toNat)).length := by
          rw [shotsTo_length]
          exact Nat.mul_pos (by have := HW.out.1; omega) (by have := HH.out.1; omega)
        obtain ⟨g, cs, rfl, _, hg⟩ := hs1.form hpos
        have hpos' : (0 : Int) < ((shotsTo one ((sideAt one k).toNat * (sideAt one (k + 1)).toNat)).length : Int) := by omega
        have ⟨u0, hu0⟩ : ∃ u0, w1.cell? ⟨g, 0, none⟩ = some u0 := by
          rw [hs1.cellAt 0 (by omega), List.getElem?_eq_getElem (by simpa using hpos)]
          exact ⟨_, rfl⟩
        have hfz := hs1.frozenAt 0
        have Hl1 := hid hl1
        have Hs1 := hid hs1
        have Hb1 := hid hb1
        have Hlb := hid hlb
        have Hsb := hid hsb
        have Hls := hid hls
        clear hl1 hs1 hb1 hlb hsb hls q1 q2 q3 q4 r1 r2 r3 r4
        go_wp2_with fail
        obtain ⟨W3, hW3⟩ : ∃ W3, W3 = (w1.setCell ⟨g, 0, none⟩ (.int .i64 k)).alloc (.cells #[.int .i64 (sideAt one k), .int .i64 (sideAt one (k + 1)), .slice pl (lightsTo one ((sideAt one k).toNat * (sideAt one (k + 1)).toNat)).length cl, .slice (some ⟨g, 0, none⟩) (shotsTo one ((sideAt one k).toNat * (sideAt one (k + 1)).toNat)).length cs] 29) := ⟨_, rfl⟩
        have hmade := made_film one k (by omega) Hb1.out Hl1.out Hs1.out Hsb.out Hls.out W3 hW3
        rw [← hW3]
        clear hW3
        generalize (lightsTo one ((sideAt one k).toNat * (sideAt one (k + 1)).toNat)).length = nl at *
        generalize (shotsTo one ((sideAt one k).toNat * (sideAt one (k + 1)).toNat)).length = ns at *
        obtain ⟨hB3, hF3, hP3⟩ := hmade
        have hst3 := Hst.out.mono hB3
        have hok := film_ok one k (by omega)
        have hsm := disk_small one k (by omega)
        have hSlt := Hst.out.store.lt
        have hsvlt := lt_some Hst.out.bytes
        have hFge := Hb1.out.size
        refine (keep_int _ sv _ (sideAt one k) (sideAt one (k + 1)) _ _ _ _ _ hst3.store hst3.bytes hst3.sS (by omega) (by have := HW.out.1; omega) (by have := HH.out.1; omega) hok hP3.light hP3.shots).mono ?_
        rintro e w4 ⟨sv', rfl, hS4, hD4, hne4, hfr4, hk4⟩
        have Hlt3 := hid hP3.lt
        have hst4 := hst3.keep hS4 hD4 hne4 hfr4 hk4
        rw [show disk (filmsTo one k) ++ recOf (sideAt one k).toNat (sideAt one (k + 1)).toNat _ _ = disk (filmsTo one (k + 1)) from by rw [filmsTo_snoc, disk_app, disk_one]; rfl] at hst4
        have hF4 : Blk w4 w1.heap.size #[.int .i64 (sideAt one k), .int .i64 (sideAt one (k + 1)), .slice pl nl cl, .slice (some ⟨g, 0, none⟩) ns cs] 29 :=
          (hk4.block _ hF3.lt (by omega) (fun e => by have := hsvlt _ e.symm; omega)).trans hF3
        have hP4 : Part w4 ⟨filmAt one k, .slice pl nl cl, .slice (some ⟨g, 0, none⟩) ns cs⟩ := hP3.kept hk4.size
          (fun kk hkk hlt' => hk4.block kk hlt' (fun e => by have := Hlb.out kk hkk; omega) (fun e => by have := Hlb.out kk hkk; have := hsvlt kk e.symm; omega))
          (fun kk hkk hlt' => hk4.block kk hlt' (fun e => by have := Hsb.out kk hkk; omega) (fun e => by have := Hsb.out kk hkk; have := hsvlt kk e.symm; omega))
        have a0 := hF4.cell 0 _ rfl
        have a1 := hF4.cell 1 _ rfl
        have a2 := hF4.cell 2 _ rfl
        have a3 := hF4.cell 3 _ rfl
        have hF4lt := hF4.lt
        have Hst4 := hid hst4
        have HP4 := hid hP4
        have Hfr4 := hid hfr4
        have HF4 := hid hF4
        have H34 := hid hB3.size
        have Hxs2 : Hid (xs.length = k) := by
          have := congrArg List.length Hxs.out
          rw [List.length_map] at this
          unfold Hid; rw [this]; simp [filmsTo]
        clear hst4 hP4 hF4 hfr4 hk4 hS4 hD4 hne4 hB3 hF3 hP3 hst3 hok
        go_wp2_with (at_builtin; go_must (refine wpList_append_row _ rfl _ _ 26 rfl 29 i29 (.agg #[.int .i64 0, .int .i64 0, .slice none 0 0, .slice none 0 0]) 4 64 Try.underlying26 j29 z291 z292 z293 rfl (by decide) _ _ _ rfl (Hst4.out.films.alloc _) _ 1 _ rfl (row_new_at _ _ _ 4 1 _ ?d1 rfl ?d2) ?c1 ?c2 ?c3 ?_))
        case d1 => rfl
        case d2 => unfold maxLen; omega
        case c1 => exact ⟨rfl, rfl, rfl, rfl⟩
        case c2 => have := Hxs2.out; unfold maxLen; omega
        case c3 => have := Hxs2.out; omega
        intro fv' w5 h1 h2 h3
        have hst5 : St w w5 w.heap.size (xs ++ [⟨filmAt one k, .slice pl nl cl, .slice (some ⟨g, 0, none⟩) ns cs⟩]) (disk (filmsTo one (k + 1))) (sizesTo one k) sv' u8 fv' := by
          have hzlt := lt_some Hst.out.sizes
          have hflt := lt_some Hst.out.films
          have h34 := H34.out
          have hst4' := Hst4.out.mono ((Below.refl _ _).alloc (Nat.le_refl _) (.cells #[.int .i64 (sideAt one k), .int .i64 (sideAt one (k + 1)), .slice pl nl cl, .slice (some ⟨g, 0, none⟩) ns cs] 29))
          have ap : ∀ x : Value, (∀ kk, x.ownBlock = some kk → wr.heap.size ≤ kk) → (∀ kk, x.ownBlock = some kk → kk < W3.heap.size) → x.ownBlock ≠ some w.heap.size ∧ Apart x sv' ∧ Apart x u8 ∧ Apart x u9 := by
            intro x hx1 hx2
            refine ⟨fun e => by have := hx1 _ e; omega, fun kk hkk e => ?_, fun kk hkk e => by have := hx1 kk hkk; have := hzlt kk e; omega, fun kk hkk e => by have := hx1 kk hkk; have := hflt kk e; omega⟩
            have := hx1 kk hkk
            rcases Hfr4.out with e' | e'
            · have := hsvlt kk (e' ▸ e); omega
            · have := e' kk e; have := hx2 kk hkk; omega
          refine hst4'.film ?_ h2 h3 (HP4.out.kept (by simp) (fun kk _ hlt' => Below.heap_alloc _ _ _ hlt') (fun kk _ hlt' => Below.heap_alloc _ _ _ hlt')) (ap _ Hlb.out Hlt3.out.1) (ap _ Hsb.out Hlt3.out.2)
          rw [List.flatMap_append, List.length_append]
          have e1 : (((filmAt one k).W : Nat) : Int) = sideAt one k := by show (((sideAt one k).toNat : Nat) : Int) = _; have := HW.out.1; omega
          have e2 : (((filmAt one k).H : Nat) : Int) = sideAt one (k + 1) := by show (((sideAt one (k + 1)).toNat : Nat) : Int) = _; have := HH.out.1; omega
          simpa [FV.cells, e1, e2] using h1
        have Hst5 := hid hst5
        have hst5s := hst5.store
        have hst5b := hst5.bytes
        have hsm2 := disk_small one (k + 1) (by omega)
        clear h1 h2 h3 a0 a1 a2 a3 hst5
        go_wp2_with fail
        refine (bytes_any _ sv' _ _ hst5s hst5b.at (by omega)).mono ?_
        rintro e w6 ⟨vb, rfl, hb6, hbl6, _⟩
        obtain ⟨pb, cb, rfl⟩ := own_form hb6
        have hst6 := Hst5.out.mono hbl6
        have Hst6 := hid hst6
        have Hzl : Hid ((sizesTo one k).length = k) := by unfold Hid; simp [sizesTo]
        clear hst5s hst5b hbl6 hb6 hst6
        go_wp2_with (at_builtin; go_must (refine wpList_append_row _ rfl _ _ 22 rfl 3 i3 (.int .i64 0) 1 8 Try.underlying22 j3 z31 z32 z33 rfl (by decide) _ _ _ rfl (Hst6.out.sizes.alloc _) _ 1 _ rfl (row_one_at _ _ _ _ ?d1) ?c1 ?c2 ?c3 ?_))
        case d1 => rfl
        case c1 => exact one_int _ _
        case c2 => have := Hzl.out; unfold maxLen; omega
        case c3 => have := Hzl.out; omega
        intro zv' w7 h1 h2 h3
        have Hst7 : Hid (St w w7 w.heap.size (xs ++ [⟨filmAt one k, .slice pl nl cl, .slice (some ⟨g, 0, none⟩) ns cs⟩]) (disk (filmsTo one (k + 1))) (sizesTo one (k + 1)) sv' zv' fv') := by
          have hst6' := Hst6.out.mono ((Below.refl _ _).alloc (Nat.le_refl _) (.cells #[.int .i64 ((disk (filmsTo one (k + 1))).length : Int)] 3))
          refine hst6'.size ?_ h2 h3
          rw [sizesTo_snoc]
          unfold OwnI
          rw [List.length_append, List.map_append]
          exact h1
        clear h1 h2 h3
        go_wp2_with fail
        go_roundw
        case rel => exact ⟨k + 1, _, sv', by omega, by go_num, by rw [List.map_append, Hxs.out, filmsTo_snoc]; rfl, Hst7.out⟩
        case measure => simp [intOf]; omega
      · have hkn : k = np := by omega
        subst hkn
        have hst := Hst.out
        have hss := hst.store
        have hsb := hst.bytes
        have hsm := disk_small one k (by omega)
        go_wp2_with fail
        refine (pick_any many 4 _ (by omega) (by omega) hm1 hm2).mono ?_
        rintro e w1 ⟨rfl, rfl⟩
        rw [Hnp.out]
        clear hst
        go_wp2_with fail
        refine (bytes_any _ sv _ _ hss hsb.at (by omega)).mono ?_
        rintro e w8 ⟨db, rfl, hdb, hbl8, hdbf⟩
        obtain ⟨pb, cb, rfl⟩ := own_form hdb
        have Hst8 := hid (Hst.out.mono hbl8)
        have Hdb := hid hdb
        have Hdbf := hid hdbf
        have H8 := hid hbl8
        clear hdb hdbf hbl8 hss hsb
        go_wp2_with fail
        refine (pick_any cut _ _ (by omega) (by omega) hc1 hc2).mono ?_
        rintro e w1 ⟨rfl, rfl⟩
        obtain ⟨q1, q2⟩ := pick_lt cut ((disk (filmsTo one k)).length + 1) (by omega)
        obtain ⟨ct, hct⟩ : ∃ ct : Nat, pick cut (((disk (filmsTo one k)).length : Int) + 1) = ct := Int.eq_ofNat_of_zero_le q1
        rw [hct] at q1 q2 ⊢
        have hctl : ct ≤ (disk (filmsTo one k)).length := by omega
        have Hct := hid hct
        clear hct q1 q2
        have hzf := Hst8.out.sizes.at.form
        have Hzl : Hid ((sizesTo one k).length = k) := by unfold Hid; simp [sizesTo]
        rw [Hzl.out] at hzf
        obtain ⟨pz, cz, rfl, hz1, hz2, hz3⟩ := hzf
        unfold maxLen at hz2
        go_upto_block 2 with fail
        go_cut [14] (fun i wx => ∃ j : Nat, j ≤ k ∧ i = .int .i64 j ∧ (disk (filmsTo one j)).length ≤ ct ∧ (j < k → ct < (disk (filmsTo one (j + 1))).length) ∧ w8 = wx)
        case first =>
          go_wp2_with fail
          go_loop [14] (fun i => ∃ j : Nat, j ≤ k ∧ i = .int .i64 j ∧ (disk (filmsTo one j)).length ≤ ct) (fun i => k - (intOf i).toNat)
          case atStart => exact ⟨0, Nat.zero_le _, rfl, by simp [filmsTo, disk]⟩
          case round =>
            obtain ⟨j, hj, rfl, hfit1⟩ := hrel
            by_cases hjk : j < k
            · obtain ⟨b, off, rfl, hb, hc⟩ := hz3 j hjk
              have hval : (sizesTo one k)[j]?.getD 0 = ((disk (filmsTo one (j + 1))).length : Int) := by simp [sizesTo, hjk]
              rw [hval] at hc
              clear hz3 hval
              by_cases hfit2 : (disk (filmsTo one (j + 1))).length ≤ ct
              · go_wp2_with fail
                go_round
                case rel => exact ⟨j + 1, by omega, by go_num, hfit2⟩
                case measure => simp [intOf]; omega
              · go_wp2_with fail
                go_meet
                case rel => exact ⟨j, hj, rfl, hfit1, fun _ => by omega, rfl⟩
            · clear hz3
              go_wp2_with fail
              go_meet
              case rel => exact ⟨j, hj, rfl, hfit1, fun h => absurd h hjk, rfl⟩
        case rest =>
          obtain ⟨j, hj, rfl, hfits, hmost, rfl⟩ := hcut
          clear hz3
          have hcb : (disk (filmsTo one k)).length ≤ cb ∧ cb ≤ maxLen := by
            obtain ⟨pp, cc, e, e1, e2, _⟩ := RowAt.form Hdb.out.at
            injection e with e3 e4 e5
            omega
          obtain ⟨hcb1, hcb2⟩ := hcb
          unfold maxLen at hcb2
          have Hwb : Hid (BytesAt w8 (.slice pb ct cb) ((disk (filmsTo one k)).take ct)) := by
            have := RowAt.front Hdb.out.at hctl
            rw [← List.map_take] at this
            unfold Hid BytesAt
            rw [show ((disk (filmsTo one k)).take ct).length = ct from by rw [List.length_take]; omega]
            exact this
          go_wp2_with fail
          refine (wake_any (filmsTo one k) ct _ _ (fun f hf => by obtain ⟨i, hi, rfl⟩ := List.mem_map.1 hf; exact film_ok one i (by have := List.mem_range.1 hi; omega)) hctl (by omega) Hwb.out).mono ?_
          rintro e w9 ⟨j', S2, a0, a1, vb, lv, sv9, rfl, hw⟩
          have hjj : j' = j := by
            have hl := hw.le
            have e0 : (filmsTo one k).length = k := by simp [filmsTo]
            rw [e0] at hl
            refine whole_one one k ct j j' hj hl hfits hmost ?_ (fun hlt' => ?_)
            · have := hw.fits; rwa [filmsTo_take one k j' hl] at this
            · have := hw.most (by rw [e0]; exact hlt'); rwa [filmsTo_take one k (j' + 1) (by omega)] at this
          subst hjj
          have hwd := hw.bytes
          rw [filmsTo_take one k j' hj] at hwd
          have Hwd := hid hwd
          obtain ⟨pl, nl, cl, rfl⟩ := hw.lform
          obtain ⟨ps, ns, cs, rfl⟩ := hw.sform
          obtain ⟨pv, nv, cv, rfl⟩ := hw.vform
          have Hw := hid hw
          have hw9 := hw.below.size
          clear hw hwd
          go_upto_if 99 with fail
          obtain ⟨W9, hW9⟩ : ∃ W9, W9 = w9.alloc (.cells #[.int .i64 a0, .int .i64 a1, .slice pl nl cl, .slice ps ns cs] 29) := ⟨_, rfl⟩
          have HB9 : Hid (Below w9.heap.size w9 W9) := by rw [hW9]; exact (Below.refl _ _).alloc (Nat.le_refl _) _
          have HF9 : Hid (Blk W9 w9.heap.size #[.int .i64 a0, .int .i64 a1, .slice pl nl cl, .slice ps ns cs] 29) := by rw [hW9]; exact Blk.new _ _ _
          rw [← hW9]
          clear hW9
          have Hst9 := hid ((Hst8.out.mono Hw.out.below).mono HB9.out)
          go_cut [17, 18] (fun ok en wx => ok = .bool (decide (0 < j')) ∧ en = .int .i64 (disk (filmsTo one j')).length ∧ Below W9.heap.size W9 wx)
          case first =>
            by_cases hj0 : 0 < j'
            · have hj0' : (0 : Int) < (j' : Int) := by omega
              obtain ⟨f, hf1, hf2, hf3, hf4, hf5⟩ := Hw.out.last hj0
              obtain ⟨x, hx1, hx2⟩ : ∃ x, xs[j' - 1]? = some x ∧ x.f = f := by
                rw [← Hxs.out, List.getElem?_map] at hf1
                cases hxx : xs[j' - 1]? with
                | none => rw [hxx] at hf1; cases hf1
                | some x => rw [hxx] at hf1; exact ⟨x, rfl, by simpa using hf1⟩
              have hxl : j' - 1 < xs.length := (List.getElem?_eq_some_iff.1 hx1).1
              have hxm : x ∈ xs := List.mem_of_getElem? hx1
              have hzf := Hst9.out.sizes.at.form
              rw [Hzl.out] at hzf
              obtain ⟨pz', cz', ez, _, _, hz9⟩ := hzf
              injection ez with ez1 ez2 ez3
              subst ez1; subst ez3
              obtain ⟨bz, oz, rfl, hbz, hcz⟩ := hz9 (j' - 1) (by omega)
              have hval : (sizesTo one k)[j' - 1]?.getD 0 = ((disk (filmsTo one j')).length : Int) := by
                have : j' - 1 < k := by omega
                simp [sizesTo, this, show j' - 1 + 1 = j' from by omega]
              rw [hval] at hcz
              obtain ⟨pf, cf, rfl, hfl1, hfl2, hff⟩ := RowAt.form (owned_row Hst9.out.films)
              unfold maxLen at hfl2
              have hfl : (xs.flatMap FV.cells).length = xs.length * 4 := Hst9.out.films.1
              obtain ⟨bf, of, rfl, hbf, hcf0⟩ := hff (4 * (j' - 1) + 0) (by rw [hfl]; omega)
              rw [flat4 xs _ x hx1 0 (by omega)] at hcf0
              have hc4 : ∀ t, t < 4 → W9.cell? ⟨bf, of + (4 * (j' - 1) + t), none⟩ = (FV.cells x)[t]? := fun t ht => by
                obtain ⟨b', o', e, _, h⟩ := hff (4 * (j' - 1) + t) (by rw [hfl]; omega)
                injection e with e; injection e with e1 e2
                subst e1; subst e2
                rw [h, flat4 xs _ x hx1 t ht]
              have f0 : W9.cell? ⟨bf, of + (j' - 1) * 4, none⟩ = some (.int .i64 (x.f.W : Int)) := by rw [Nat.mul_comm]; exact hc4 0 (by omega)
              have f1 : W9.cell? ⟨bf, of + (j' - 1) * 4 + 1, none⟩ = some (.int .i64 (x.f.H : Int)) := by rw [Nat.mul_comm, Nat.add_assoc]; exact hc4 1 (by omega)
              have f2 : W9.cell? ⟨bf, of + (j' - 1) * 4 + 2, none⟩ = some x.l := by rw [Nat.mul_comm, Nat.add_assoc]; exact hc4 2 (by omega)
              have f3 : W9.cell? ⟨bf, of + (j' - 1) * 4 + 3, none⟩ = some x.s := by rw [Nat.mul_comm, Nat.add_assoc]; exact hc4 3 (by omega)
              have hF9lt := HF9.out.lt
              have l0 := HF9.out.cell 0 _ rfl
              have l1 := HF9.out.cell 1 _ rfl
              have l2 := HF9.out.cell 2 _ rfl
              have l3 := HF9.out.cell 3 _ rfl
              subst hx2
              have Ha0 := hid hf2
              have Ha1 := hid hf3
              have Hx1 := hid hx1
              have Hl9 := hid hf4
              have Hs9 := hid hf5
              have hxk : xs.length = k := by have := congrArg List.length Hxs.out; rw [List.length_map] at this; rw [this]; simp [filmsTo]
              have hjx : j' ≤ xs.length := by omega
              clear hff hz9 hc4 hcf0 hval hf1 hf2 hf3 hf4 hf5 hx1 hfl hxk
              go_wp2_with fail
              have Hsf : Hid (∀ n : Nat, Calls Try.prog 10 #[.agg #[.int .i64 a0, .int .i64 a1, .slice pl nl cl, .slice ps ns cs], .agg #[.int .i64 (x.f.W : Int), .int .i64 (x.f.H : Int), x.l, x.s]] W9.drew fun e w' => e = .returned (.bool true) ∧ Below W9.drew.heap.size W9.drew w') := fun _ => by
                have hp := Hst9.out.each x hxm
                rw [Ha0.out, Ha1.out]
                exact sameFilm_eq _ _ _ _ _ _ _ _ _ (RowAt.drew (Hl9.out.below HB9.out)) (RowAt.drew (Hs9.out.below HB9.out)) (RowAt.drew hp.light) (RowAt.drew hp.shots)
              have e1 : IntKind.i64.wrap ((j' : Int) - 1) = (j' : Int) - 1 := IntWalk.i64_in _ (by omega)
              have e2 : (1 : Int) ≤ (j' : Int) := by omega
              have e3 : (j' : Int) - 1 < (xs.length : Int) := by omega
              have e4 : ((j' : Int) - 1).toNat = j' - 1 := by omega
              go_region_held3 (fun w' => w'.cell? ⟨w9.heap.size, 0, none⟩ = some (.int .i64 a0) ∧ w'.cell? ⟨w9.heap.size, 1, none⟩ = some (.int .i64 a1) ∧ w'.cell? ⟨w9.heap.size, 2, none⟩ = some (.slice pl nl cl) ∧ w'.cell? ⟨w9.heap.size, 3, none⟩ = some (.slice ps ns cs) ∧
                  w'.cell? ⟨bf, of + (j' - 1) * 4, none⟩ = some (.int .i64 (x.f.W : Int)) ∧ w'.cell? ⟨bf, of + (j' - 1) * 4 + 1, none⟩ = some (.int .i64 (x.f.H : Int)) ∧ w'.cell? ⟨bf, of + (j' - 1) * 4 + 2, none⟩ = some x.l ∧ w'.cell? ⟨bf, of + (j' - 1) * 4 + 3, none⟩ = some x.s)
                (first | go_keep | exact ⟨k0, k1, k2, k3, k4, k5, k6, k7⟩)
                ((go_at_call 10; refine (Hsf.out 0).mono ?_; rintro e wz ⟨rfl, hbz⟩
                  have k0 := (hbz.cell (p := ⟨w9.heap.size, 0, none⟩) hF9lt).trans l0
                  have k1 := (hbz.cell (p := ⟨w9.heap.size, 1, none⟩) hF9lt).trans l1
                  have k2 := (hbz.cell (p := ⟨w9.heap.size, 2, none⟩) hF9lt).trans l2
                  have k3 := (hbz.cell (p := ⟨w9.heap.size, 3, none⟩) hF9lt).trans l3
                  have k4 := (hbz.cell (p := ⟨bf, of + (j' - 1) * 4, none⟩) hbf).trans f0
                  have k5 := (hbz.cell (p := ⟨bf, of + (j' - 1) * 4 + 1, none⟩) hbf).trans f1
                  have k6 := (hbz.cell (p := ⟨bf, of + (j' - 1) * 4 + 2, none⟩) hbf).trans f2
                  have k7 := (hbz.cell (p := ⟨bf, of + (j' - 1) * 4 + 3, none⟩) hbf).trans f3
                  have Hbz := hid hbz
                  clear hbz))
              go_wp2_with fail
              go_meet
              case rel => exact ⟨by rw [decide_eq_true hj0], rfl, (Below.refl W9.heap.size W9).drew.trans Hbz.out⟩
            · have hj0' : j' = 0 := by omega
              have E0 : Hid ((disk (filmsTo one j')).length = 0) := by rw [hj0']; rfl
              have hj1 : ¬ (0 : Int) < (j' : Int) := by omega
              clear hj0'
              go_wp2_with fail
              go_meet
              case rel => exact ⟨by rw [decide_eq_false hj0], by rw [E0.out]; rfl, Below.refl _ _⟩
          case rest =>
            obtain ⟨rfl, rfl, hbx⟩ := hcut
            have hw9c : Below w9.heap.size w9 wc := HB9.out.trans (hbx.mono HB9.out.size)
            have hS2 : Blk wc S2 #[.slice pv nv cv] 25 := Hw.out.store.below hw9c Hw.out.store.lt
            have hD2 : OwnB wc (.slice pv nv cv) (disk (filmsTo one j')) := own_kept Hwd.out fun kk _ hk' => hw9c.block kk hk'
            have hw8c : Below w8.heap.size w8 wc := Hw.out.below.trans (hw9c.mono hw9)
            have hdbc : BytesAt wc (.slice pb (disk (filmsTo one j')).length cb) (disk (filmsTo one j')) := by
              have h1 := RowAt.front (RowAt.below Hdb.out.at hw8c) (Nat.le_trans hfits hctl)
              rw [← List.map_take] at h1
              have e : (disk (filmsTo one k)).take (disk (filmsTo one j')).length = disk (filmsTo one j') := by
                have := wake_pre (filmsTo one k) (disk (filmsTo one k)).length j' (by rw [filmsTo_take one k j' hj]; omega)
                rw [filmsTo_take one k j' hj, List.drop_zero, List.take_length] at this
                exact this
              rw [e] at h1
              exact h1
            have kc1 := str_back (P := Try.prog) (RowAt.drew hdbc) 23 9 5 Try.underlying23 Try.underlying5 Try.underlying9
            have hsm3 := disk_small one j' (by omega)
            have hEcb : ((disk (filmsTo one j')).length : Int) ≤ (cb : Int) := by omega
            have hE0 : (0 : Int) ≤ ((disk (filmsTo one j')).length : Int) := by omega
            have Hw8c := hid hw8c
            have Hw9c := hid hw9c
            have Hbx := hid hbx
            have HS2 := hid hS2
            have HD2 := hid hD2
            have Hdbc := hid hdbc
            have hS2w : w8.heap.size ≤ S2 := Hw.out.fresh
            have hS2lt := hS2.lt
            clear hw8c hw9c hbx hS2 hD2 hdbc
            obtain ⟨wp, rfl⟩ : ∃ wp : World, wp = wc := ⟨_, rfl⟩
            go_upto_region 29 with fail
            go_cut [120] (fun r wx => r = .bool false ∧ Below wp.heap.size wp wx)
            case first =>
              go_region_law (go_simp; go_at_call 8; refine (bytes_any S2 _ _ _ HS2.out.drew (RowAt.drew HD2.out.at) (by omega)).mono ?_; rintro e w10 ⟨vb2, rfl, hb10, hbl10, hbf10⟩
                             obtain ⟨pv2, cv2, rfl⟩ := own_form hb10
                             have kc2 := str_back (P := Try.prog) hb10.at 23 9 5 Try.underlying23 Try.underlying5 Try.underlying9
                             have kc3 := str_back (P := Try.prog) ((RowAt.drew Hdbc.out).below hbl10) 23 9 5 Try.underlying23 Try.underlying5 Try.underlying9
                             have Hbl10 := hid hbl10
                             clear hb10 hbl10 hbf10)
              all_goals
                go_wp2_with fail
                go_meet
                case rel => exact ⟨rfl, (Below.refl wp.heap.size wp).drew.trans Hbl10.out⟩
            case rest =>
              obtain ⟨rfl, hbd⟩ := hcut
              have hw8p := Hw8c.out
              have hBd : Below w.heap.size w wc := Hst8.out.below.trans ((hw8p.mono Hst8.out.below.size).trans (hbd.mono (Nat.le_trans Hst8.out.below.size hw8p.size)))
              have hvc : ArgInts wc _ one := hv.mono hBd
              have hS3 : Blk wc S2 #[.slice pv nv cv] 25 := HS2.out.below hbd hS2lt
              have hD3 : OwnB wc (.slice pv nv cv) (disk (filmsTo one j')) := own_kept HD2.out fun kk _ hk' => hbd.block kk hk'
              have HBd := hid hBd
              have HS3 := hid hS3
              have HD3 := hid hD3
              have hS3lt := hS3.lt
              clear kc1 hw8p hbd hBd hS3 hD3
              go_wp2_with fail
              refine (filmOf_int _ one 2 2 _ hvc hfit (by omega) (by omega) (by omega) (by omega) (by omega)).mono ?_
              rintro e w11 ⟨lv, sv1, rfl, hl1, hs1, hb1, hlb, hsb, hls⟩
              obtain ⟨pl1, cl1, rfl⟩ := own_form hl1
              obtain ⟨ps1, cs1, rfl⟩ := own_form hs1
              have Hl1 := hid hl1
              have Hs1 := hid hs1
              have Hb1 := hid hb1
              have Hlb := hid hlb
              have Hsb := hid hsb
              clear hl1 hs1 hb1 hlb hsb hls
              go_wp2_with fail
              obtain ⟨W11, hW11⟩ : ∃ W, W = w11.alloc (.cells #[.int .i64 2, .int .i64 2, .slice pl1 (lightsTo one 4).length cl1, .slice ps1 (shotsTo one 4).length cs1] 29) := ⟨_, rfl⟩
              have hF11 : Blk W11 w11.heap.size #[.int .i64 2, .int .i64 2, .slice pl1 (lightsTo one 4).length cl1, .slice ps1 (shotsTo one 4).length cs1] 29 := by rw [hW11]; exact Blk.new _ _ _
              have hb11 : Below w11.heap.size w11 W11 := by rw [hW11]; exact (Below.refl _ _).alloc (Nat.le_refl _) _
              rw [← hW11]
              clear hW11
              have hsz11 := Hb1.out.size
              have hbd11 : Below wc.heap.size wc W11 := Hb1.out.trans (hb11.mono hsz11)
              have hvlt := lt_some HD3.out
              have hl11 : IntsAt W11 _ (lightsTo one 4) := (OwnI.at Hl1.out).below hb11
              have hs11 : IntsAt W11 _ (shotsTo one 4) := (OwnI.at Hs1.out).below hb11
              have hD11 : OwnB W11 (.slice pv nv cv) (disk (filmsTo one j')) := own_kept HD3.out fun kk _ hk' => hbd11.block kk hk'
              have hB11 : Below w.heap.size w W11 := HBd.out.trans (hbd11.mono HBd.out.size)
              have hw8 : w.heap.size ≤ w8.heap.size := Hst8.out.below.size
              refine (keep_int S2 _ _ 2 2 _ _ _ _ _ (HS3.out.below hbd11 hS3lt) hD11 Hw.out.ne (by omega) (by omega) (by omega) (film2_ok one) hl11 hs11).mono ?_
              rintro e w12 ⟨v12, rfl, hS12, hD12, hne12, hf12, hk12⟩
              have hD12 : OwnB w12 v12 (disk (filmsTo one j' ++ [film2 one])) := by rw [disk_app, disk_one]; exact hD12
              have hbfr := Hw.out.bfresh
              have hB12 : Below w.heap.size w w12 := hB11.trans (kept2_below hk12 hB11.size (by omega) (fun kk e => by have := hbfr kk e; omega))
              have hF12 : Blk w12 w11.heap.size #[.int .i64 2, .int .i64 2, .slice pl1 (lightsTo one 4).length cl1, .slice ps1 (shotsTo one 4).length cs1] 29 :=
                (hk12.block _ hF11.lt (by omega) (fun e => by have := hvlt _ e.symm; omega)).trans hF11
              have hl12 : IntsAt w12 _ (lightsTo one 4) := RowAt.kept hl11 hk12.size fun kk hkk hlt' => hk12.block kk hlt' (fun e => by have := Hlb.out kk hkk; omega) (fun e => by have := Hlb.out kk hkk; have := hvlt kk e.symm; omega)
              have hs12 : IntsAt w12 _ (shotsTo one 4) := RowAt.kept hs11 hk12.size fun kk hkk hlt' => hk12.block kk hlt' (fun e => by have := Hsb.out kk hkk; omega) (fun e => by have := Hsb.out kk hkk; have := hvlt kk e.symm; omega)
              have hlen2 : (disk (filmsTo one j' ++ [film2 one])).length ≤ 100000000 := by
                rw [disk_app, disk_one, List.length_append, Film.rec_len]
                have := Film.ok_len (film2_ok one)
                omega
              clear hF11 hb11 hl11 hs11 hD11 hB11 hk12 hf12 hvlt hbd11
              have HF12 := hid hF12
              have Hl12 := hid hl12
              have Hs12 := hid hs12
              have HB12 := hid hB12
              clear hF12 hl12 hs12 hB12
              go_wp2_with fail
              refine (bytes_any S2 v12 _ _ hS12 hD12.at (by omega)).mono ?_
              rintro e w13 ⟨v13, rfl, hb13, hbl13, hbf13⟩
              go_wp2_with fail
              have hok2 : ∀ f ∈ filmsTo one j' ++ [film2 one], f.ok := by
                intro f hf
                rcases List.mem_append.1 hf with hf | hf
                · obtain ⟨i, hi, rfl⟩ := List.mem_map.1 hf; exact film_ok one i (by have := List.mem_range.1 hi; omega)
                · rw [List.mem_singleton.1 hf]; exact film2_ok one
              refine (wake_any (filmsTo one j' ++ [film2 one]) (disk (filmsTo one j' ++ [film2 one])).length _ _ hok2 (Nat.le_refl _) (by omega) (by rw [List.take_length]; exact hb13.at)).mono ?_
              rintro e w14 ⟨j2, S3, b0, b1, vb3, lv3, sv3, rfl, hw3⟩
              have hj2 : j2 = j' + 1 := by
                have hl := hw3.le
                have e0 : (filmsTo one j' ++ [film2 one]).length = j' + 1 := by simp [filmsTo]
                rw [e0] at hl
                rcases Nat.lt_or_ge j2 (j' + 1) with h | h
                · have := hw3.most (by rw [e0]; exact h)
                  have := disk_take_le (filmsTo one j' ++ [film2 one]) (j2 + 1)
                  omega
                · omega
              subst hj2
              obtain ⟨f, g1, g2, g3, g4, g5⟩ := hw3.last (by omega)
              have hf2 : f = film2 one := by
                rw [Nat.add_sub_cancel, List.getElem?_append_right (by simp [filmsTo])] at g1
                simp [filmsTo] at g1
                exact g1.symm
              subst hf2
              have g2' : b0 = 2 := g2
              have g3' : b1 = 2 := g3
              subst g2'
              subst g3'
              have hT : decide (0 < j' + 1) = true := decide_eq_true (by omega)
              rw [hT]
              obtain ⟨pl3, nl3, cl3, rfl⟩ := hw3.lform
              obtain ⟨ps3, ns3, cs3, rfl⟩ := hw3.sform
              have hB14 : Below w.heap.size w w14 := (HB12.out.trans (hbl13.mono HB12.out.size)).trans (hw3.below.mono (Nat.le_trans HB12.out.size hbl13.size))
              have hF14 : Blk w14 w11.heap.size #[.int .i64 2, .int .i64 2, .slice pl1 (lightsTo one 4).length cl1, .slice ps1 (shotsTo one 4).length cs1] 29 := (HF12.out.below hbl13 HF12.out.lt).below hw3.below (Nat.lt_of_lt_of_le HF12.out.lt hbl13.size)
              have hl14 : IntsAt w14 (.slice pl1 (lightsTo one 4).length cl1) (lightsTo one 4) := (Hl12.out.below hbl13).below hw3.below
              have hs14 : IntsAt w14 (.slice ps1 (shotsTo one 4).length cs1) (shotsTo one 4) := (Hs12.out.below hbl13).below hw3.below
              have a0' := hF14.cell 0 _ rfl
              have a1' := hF14.cell 1 _ rfl
              have a2' := hF14.cell 2 _ rfl
              have a3' := hF14.cell 3 _ rfl
              have hF14lt := hF14.lt
              have Hl14 := hid hl14
              have Hs14 := hid hs14
              have HB14 := hid hB14
              have Hg4 := hid g4
              have Hg5 := hid g5
              clear hF14 hl14 hs14 hB14 g1 g2 g3 g4 g5 hw3 hT hok2 hb13 hbl13 hbf13 hS12 hD12 hne12
              go_wp2_with fail
              refine (sameFilm_eq 2 2 _ _ _ _ _ _ _ (Hg4.out.alloc _) (Hg5.out.alloc _) (Hl14.out.alloc _) (Hs14.out.alloc _)).mono ?_
              rintro e w15 ⟨rfl, hb15⟩
              go_wp2_with fail
              go_ret
              refine ⟨rfl, ?_⟩
              have h15 : Below w.heap.size w w15 := by
                have h1 := HB14.out.alloc HB14.out.size (.cells #[.int .i64 2, .int .i64 2, .slice pl3 nl3 cl3, .slice ps3 ns3 cs3] 29)
                exact h1.trans (hb15.mono h1.size)
              exact h15
  · have hlen' : (128 : Int) < (one.length : Int) := by omega
    go_enter Try.func3, Try.ntmps3
    go_wp2
    go_ret
    exact ⟨rfl, Below.refl _ _⟩

end Go.Proofs.Ytjjkgoekcpgilaa

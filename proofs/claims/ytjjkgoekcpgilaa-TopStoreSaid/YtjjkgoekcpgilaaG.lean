/- TopStore: Wake, walked. -/
import Derived.Test.YtjjkgoekcpgilaaF
namespace Go.Proofs.Ytjjkgoekcpgilaa
open Go.RowKit

theorem Blk.grown_new {w w' : World} {b g n c : Nat} {cs : Array Value} {e : TypeId} {o : Obj} (h : Blk w b cs e) (hg : (w.alloc o).drew.grownBy w' (Value.slice (some ⟨g, 0, none⟩) n c).ownBlock) (hgs : g = w.heap.size) : Blk w' b cs e :=
  (h.alloc o).drew.grown hg (fun e => by
    have := h.lt
    injection e with e
    have e : g = b := e
    omega)

structure Film where
  W : Nat
  H : Nat
  light : List Int
  shots : List Int
def Film.ok (f : Film) : Prop := FilmOk f.W f.H f.light f.shots
def Film.saved (f : Film) : List UInt8 := Go.Proofs.Ytjjkgoekcpgilaa.saved f.W f.H f.light f.shots
def Film.rec' (f : Film) : List UInt8 := recOf f.W f.H f.light f.shots
def disk (fs : List Film) : List UInt8 := fs.flatMap Film.rec'

theorem Film.ok_len {f : Film} (h : f.ok) : f.saved.length ≤ 100000 := by
  unfold Film.saved
  rw [saved_length, h.lenL, h.lenS]
  have : f.W * f.H ≤ 64 * 64 := Nat.mul_le_mul h.w64 h.h64
  omega
theorem Film.rec_eq (f : Film) : f.rec' = beBytes f.saved.length 4 ++ f.saved := rfl
theorem Film.rec_len (f : Film) : f.rec'.length = 4 + f.saved.length := by rw [f.rec_eq, List.length_append, beBytes_length]

theorem disk_split (fs : List Film) (j : Nat) (h : j < fs.length) : disk fs = disk (fs.take j) ++ (fs[j].rec' ++ disk (fs.drop (j + 1))) := by
  have e : fs = fs.take j ++ (fs[j] :: fs.drop (j + 1)) := by rw [← List.drop_eq_getElem_cons h, List.take_append_drop]
  conv => lhs; rw [e]
  simp only [disk, List.flatMap_append, List.flatMap_cons]
theorem disk_snoc (fs : List Film) (j : Nat) (h : j < fs.length) : disk (fs.take (j + 1)) = disk (fs.take j) ++ fs[j].rec' := by
  rw [take_snoc' fs j h]; simp only [disk, List.flatMap_append, List.flatMap_cons, List.flatMap_nil, List.append_nil]
theorem disk_take_le (fs : List Film) (j : Nat) : (disk (fs.take j)).length ≤ (disk fs).length := by
  have e : fs = fs.take j ++ fs.drop j := (List.take_append_drop j fs).symm
  have e2 : disk fs = disk (fs.take j) ++ disk (fs.drop j) := by
    conv => lhs; rw [e]
    simp only [disk, List.flatMap_append]
  rw [e2, List.length_append]; omega

theorem drop_take_take {α : Type} (l : List α) (c a m : Nat) (h : a + m ≤ c) : ((l.take c).drop a).take m = (l.drop a).take m := by
  rw [List.drop_take, List.take_take, Nat.min_eq_left (by omega)]

theorem wake_len (fs : List Film) (cut j : Nat) (h : j < fs.length) (hc : (disk (fs.take j)).length + 4 ≤ cut) :
    (((disk fs).take cut).drop (disk (fs.take j)).length).take 4 = beBytes fs[j].saved.length 4 := by
  rw [drop_take_take _ _ _ _ hc, disk_split fs j h, Film.rec_eq, List.append_assoc]
  exact cut_mid _ _ _ _ _ rfl (by simp [beBytes_length])
theorem wake_rec (fs : List Film) (cut j : Nat) (h : j < fs.length) (hc : (disk (fs.take j)).length + 4 + fs[j].saved.length ≤ cut) :
    (((disk fs).take cut).drop ((disk (fs.take j)).length + 4)).take fs[j].saved.length = fs[j].saved := by
  rw [drop_take_take _ _ _ _ hc, disk_split fs j h, Film.rec_eq, List.append_assoc, ← List.append_assoc]
  exact cut_mid _ _ _ _ _ (by rw [List.length_append, beBytes_length]) rfl
theorem wake_pre (fs : List Film) (cut j : Nat) (hc : (disk (fs.take j)).length ≤ cut) :
    (((disk fs).take cut).drop 0).take (disk (fs.take j)).length = disk (fs.take j) := by
  rw [drop_take_take _ _ _ _ (by omega), List.drop_zero]
  have e : fs = fs.take j ++ fs.drop j := (List.take_append_drop j fs).symm
  have e2 : disk fs = disk (fs.take j) ++ disk (fs.drop j) := by
    conv => lhs; rw [e]
    simp only [disk, List.flatMap_append]
  rw [e2, List.take_left]

theorem RowAt.below' {w w' : World} {sz n : Nat} {v : Value} {xs : List Value} (h : RowAt w sz v n xs) (hb : Below w.heap.size w w') : RowAt w' sz v n xs := h.below hb

theorem get_num (v : Value) (n : Nat) (w : World) (hv : BytesAt w v (beBytes n 4)) (hn : n ≤ 4294967295) :
    Calls Try.prog 13 #[v] w fun e w' => e = .returned (.int .i64 n) ∧ w = w' := by
  have := get_any v _ w hv (by rw [beBytes_length]; omega)
  rw [beOf_beBytes, Nat.mod_eq_of_lt (by omega)] at this
  exact this

theorem four_kept (w3 : World) (x : Value) (l : List Int) (B : Nat) (u0 u1 u2 u3 : Value) (hx : IntsAt w3 x l) (hxb : ∀ k, x.ownBlock = some k → B + 1 ≤ k) :
    IntsAt ((((w3.setCell ⟨B, 0, none⟩ u0).setCell ⟨B, 1, none⟩ u1).setCell ⟨B, 2, none⟩ u2).setCell ⟨B, 3, none⟩ u3) x l := by
  refine RowAt.kept hx (by simp [World.setCell]) fun bb hbb _ => ?_
  have := hxb bb hbb
  rw [Below.heap_setCell _ _ _ _ (by show bb ≠ B; omega), Below.heap_setCell _ _ _ _ (by show bb ≠ B; omega), Below.heap_setCell _ _ _ _ (by show bb ≠ B; omega), Below.heap_setCell _ _ _ _ (by show bb ≠ B; omega)]

/-- The film that lies in a block: nothing is said of it before a first one was read. -/
def Last (B : Nat) (fs : List Film) (j : Nat) (wr : World) : Prop :=
  ∃ a0 a1 p n c q m d, Blk wr B #[.int .i64 a0, .int .i64 a1, .slice p n c, .slice q m d] 29 ∧
    (0 < j → ∃ f, fs[j - 1]? = some f ∧ a0 = f.W ∧ a1 = f.H ∧ IntsAt wr (.slice p n c) f.light ∧ IntsAt wr (.slice q m d) f.shots ∧
      (∀ k, (Value.slice p n c).ownBlock = some k → B + 1 ≤ k) ∧ (∀ k, (Value.slice q m d).ownBlock = some k → B + 1 ≤ k))

structure Woken (w : World) (fs : List Film) (cut : Nat) (j S : Nat) (a0 a1 : Int) (vb lv sv : Value) (w' : World) : Prop where
  le : j ≤ fs.length
  fits : (disk (fs.take j)).length ≤ cut
  most : j < fs.length → cut < (disk (fs.take (j + 1))).length
  store : Blk w' S #[vb] 25
  bytes : OwnB w' vb (disk (fs.take j))
  ne : vb.ownBlock ≠ some S
  fresh : w.heap.size ≤ S
  bfresh : ∀ k, vb.ownBlock = some k → w.heap.size ≤ k
  last : 0 < j → ∃ f, fs[j - 1]? = some f ∧ a0 = f.W ∧ a1 = f.H ∧ IntsAt w' lv f.light ∧ IntsAt w' sv f.shots
  lform : ∃ p n c, lv = .slice p n c
  sform : ∃ p n c, sv = .slice p n c
  vform : ∃ p n c, vb = .slice p n c
  below : Below w.heap.size w w'

theorem woken_end {w wr w3 : World} {fs : List Film} {cut j k : Nat} {a0 a1 : Int} {p q p2 : Option Addr} {n c m d cc2 : Nat}
    (hbr : Below w.heap.size w wr) (hb3 : Below wr.heap.size wr w3) (hB : Blk wr w.heap.size #[.int .i64 a0, .int .i64 a1, .slice p n c, .slice q m d] 29)
    (hlast : 0 < j → ∃ f, fs[j - 1]? = some f ∧ a0 = f.W ∧ a1 = f.H ∧ IntsAt wr (.slice p n c) f.light ∧ IntsAt wr (.slice q m d) f.shots ∧
      (∀ k, (Value.slice p n c).ownBlock = some k → w.heap.size + 1 ≤ k) ∧ (∀ k, (Value.slice q m d).ownBlock = some k → w.heap.size + 1 ≤ k))
    (h1 : OwnB w3 (.slice p2 k cc2) (disk (fs.take j))) (hv3 : ∀ g, (Value.slice p2 k cc2).ownBlock = some g → wr.heap.size ≤ g)
    (hj : j ≤ fs.length) (hfits : (disk (fs.take j)).length ≤ cut) (hmost : j < fs.length → cut < (disk (fs.take (j + 1))).length)
    {W' : World} (hW' : W' = ((((w3.setCell ⟨w.heap.size, 0, none⟩ (.int .i64 a0)).setCell ⟨w.heap.size, 1, none⟩ (.int .i64 a1)).setCell ⟨w.heap.size, 2, none⟩ (.slice p n c)).setCell ⟨w.heap.size, 3, none⟩ (.slice q m d)).alloc (.cells #[.slice p2 k cc2] 25)) :
    Woken w fs cut j w3.heap.size a0 a1 (.slice p2 k cc2) (.slice p n c) (.slice q m d) W' ∧
      W'.cell? ⟨w.heap.size, 0, none⟩ = some (.int .i64 a0) ∧ W'.cell? ⟨w.heap.size, 1, none⟩ = some (.int .i64 a1) ∧ W'.cell? ⟨w.heap.size, 2, none⟩ = some (.slice p n c) ∧ W'.cell? ⟨w.heap.size, 3, none⟩ = some (.slice q m d) := by
  subst hW'
  have hlt := hB.lt
  have hB3 : Blk w3 w.heap.size _ 29 := hB.below hb3 hlt
  have hN := ((((hB3.set 0 (.int .i64 a0)).set 1 (.int .i64 a1)).set 2 (.slice p n c)).set 3 (.slice q m d)).alloc (.cells #[.slice p2 k cc2] 25)
  have hb0 : w.heap.size ≤ w.heap.size := Nat.le_refl _
  have hB4 : Below w.heap.size w w3 := hbr.trans (hb3.mono (by omega))
  have hB5 := ((((hB4.setCell (p := ⟨w.heap.size, 0, none⟩) hb0 (.int .i64 a0)).setCell (p := ⟨w.heap.size, 1, none⟩) hb0 (.int .i64 a1)).setCell (p := ⟨w.heap.size, 2, none⟩) hb0 (.slice p n c)).setCell (p := ⟨w.heap.size, 3, none⟩) hb0 (.slice q m d)).alloc (by simp [World.setCell]; have := hb3.size; omega) (.cells #[.slice p2 k cc2] 25)
  have hs3 := hb3.size
  have keep := fun (x : Value) (l : List Int) (hx : IntsAt wr x l) (hxb : ∀ k, x.ownBlock = some k → w.heap.size + 1 ≤ k) => (four_kept w3 x l w.heap.size (.int .i64 a0) (.int .i64 a1) (.slice p n c) (.slice q m d) (hx.below hb3) hxb).alloc (.cells #[.slice p2 k cc2] 25)
  have hne : ∀ j', (Value.slice p2 k cc2).ownBlock ≠ some (⟨w.heap.size, j', none⟩ : Addr).block := fun j' e => by
    have := hv3 _ e
    have e2 : (⟨w.heap.size, j', none⟩ : Addr).block = w.heap.size := rfl
    rw [e2] at this; omega
  have hS : Blk (((((w3.setCell ⟨w.heap.size, 0, none⟩ (.int .i64 a0)).setCell ⟨w.heap.size, 1, none⟩ (.int .i64 a1)).setCell ⟨w.heap.size, 2, none⟩ (.slice p n c)).setCell ⟨w.heap.size, 3, none⟩ (.slice q m d)).alloc (.cells #[.slice p2 k cc2] 25)) w3.heap.size #[.slice p2 k cc2] 25 := by
    have := Blk.new ((((w3.setCell ⟨w.heap.size, 0, none⟩ (.int .i64 a0)).setCell ⟨w.heap.size, 1, none⟩ (.int .i64 a1)).setCell ⟨w.heap.size, 2, none⟩ (.slice p n c)).setCell ⟨w.heap.size, 3, none⟩ (.slice q m d)) #[.slice p2 k cc2] 25
    simpa [World.setCell] using this
  refine ⟨⟨hj, hfits, hmost, hS, ?_, ?_, by omega, ?_, ?_, ⟨_, _, _, rfl⟩, ⟨_, _, _, rfl⟩, ⟨_, _, _, rfl⟩, hB5⟩, hN.cell 0 _ (by simp), hN.cell 1 _ (by simp), hN.cell 2 _ (by simp), hN.cell 3 _ (by simp)⟩
  · exact (ownsRow_setCell_other (ownsRow_setCell_other (ownsRow_setCell_other (ownsRow_setCell_other h1 (hne 0) _) (hne 1) _) (hne 2) _) (hne 3) _).alloc _
  · intro e; have := (lt_some h1) _ e; omega
  · intro g hg; have := hv3 g hg; omega
  · intro h
    obtain ⟨f, e1, e2, e3, e4, e5, e6, e7⟩ := hlast h
    exact ⟨f, e1, e2, e3, keep _ _ e4 e6, keep _ _ e5 e7⟩

set_option maxHeartbeats 1600000 in
theorem wake_any (fs : List Film) (cut : Nat) (v : Value) (w : World) (hfs : ∀ f ∈ fs, f.ok) (hcut : cut ≤ (disk fs).length) (hbig : cut ≤ 68719476736) (hv : BytesAt w v ((disk fs).take cut)) :
    Calls Try.prog 9 #[v] w fun e w' => ∃ j S a0 a1 vb lv sv, e = .returned (.tuple #[.pointer (some ⟨S, 0, none⟩), .agg #[.int .i64 a0, .int .i64 a1, lv, sv], .bool (decide (0 < j))]) ∧
      Woken w fs cut j S a0 a1 vb lv sv w' := by
  obtain ⟨i0, hi, hz0, hz1, hz2⟩ := info_parts info5
  have hDl : ((disk fs).take cut).length = cut := by rw [List.length_take]; omega
  have HDl := hid hDl
  have Hcut := hid hcut
  clear hcut
  rcases hv.cases with ⟨_, h0⟩ | ⟨b, off, cap, hv', hb, hc⟩
  · have hc0 : cut = 0 := by rw [h0] at hDl; simpa using hDl.symm
    subst hc0
    rename_i hvn
    subst hvn
    obtain ⟨wr, hwr⟩ : ∃ wr, wr = w.alloc (.cells #[.int .i64 0, .int .i64 0, .slice none 0 0, .slice none 0 0] 29) := ⟨_, rfl⟩
    have HB : Hid (Blk wr w.heap.size #[.int .i64 0, .int .i64 0, .slice none 0 0, .slice none 0 0] 29) := by rw [hwr]; exact Blk.new _ _ _
    have Hbr : Hid (Below w.heap.size w wr) := by rw [hwr]; exact (Below.refl _ _).alloc (Nat.le_refl _) _
    go_enter Try.func9, Try.ntmps9
    go_wp2_with fail
    rw [← hwr]
    have hsz : w.heap.size < wr.heap.size := HB.out.lt
    clear hwr
    have b0 := HB.out.cell 0 _ rfl
    have b1 := HB.out.cell 1 _ rfl
    have b2 := HB.out.cell 2 _ rfl
    have b3 := HB.out.cell 3 _ rfl
    have c0 := HB.out.free 0
    have c1 := HB.out.free 1
    have c2 := HB.out.free 2
    have c3 := HB.out.free 3
    refine wp_loop_rounds 1 ?_
    rw [rounds_succ]
    go_wp2_with fail
    go_region_law (first
      | (refine step_append_row rfl (.tmp 46) (.tmp 49) 23 rfl 5 i0 (.int .u8 0) 1 1 Try.underlying23 hi hz0 hz1 hz2 rfl (by decide) _ 0 [] rfl (World.ownsRow_lit (base := 0) _ #[] 0 ?_ ?_ ?_).drew _ 0 _ rfl (?_ : RowAt _ 1 _ 0 (([] : List UInt8).map byteV)) ?_ ?_ ?_ ?_
         · omega
         · unfold maxLen; omega
         · rfl
         · exact ⟨rfl, .inl ⟨rfl, rfl⟩⟩
         · exact bytes_one _
         · unfold maxLen; omega
         · omega
         intro p2 cc2 w3 h1 h2 h3
         have hb3 : Below wr.heap.size wr w3 := ((Below.refl _ _).alloc (Nat.le_refl _) _).drew.grown (row := some wr.heap.size) h2 (by simp) (by intro k hk; injection hk with hk; omega)
         have Hv3 : Hid (∀ g, (Value.slice p2 0 cc2).ownBlock = some g → wr.heap.size ≤ g) := fun g hg => by
           rw [Nat.zero_add] at h3
           rcases h3 with e | e
           · have e : (Value.slice p2 0 cc2).ownBlock = some wr.heap.size := e
             rw [e] at hg; injection hg with hg; omega
           · have := e g (by simpa using hg); simp at this; omega
         have H1 : Hid (OwnB w3 (.slice p2 0 cc2) []) := by unfold Hid OwnB; simpa using h1
         have HN : Hid (Blk w3 w.heap.size _ 29) := hid (HB.out.below hb3 HB.out.lt)
         have Hb3 := hid hb3
         have e0 := HN.out.cell 0 _ rfl
         have e1 := HN.out.cell 1 _ rfl
         have e2 := HN.out.cell 2 _ rfl
         have e3 := HN.out.cell 3 _ rfl
         have f0 := HN.out.free 0
         have f1 := HN.out.free 1
         have f2 := HN.out.free 2
         have f3 := HN.out.free 3
         have hsz3 := HN.out.lt
         clear h1 h2 h3 hb3))
    all_goals
      go_wp2_with fail
      obtain ⟨R, d0, d1, d2, d3⟩ := woken_end (fs := fs) (cut := 0) (j := 0) Hbr.out Hb3.out HB.out (fun h => absurd h (by omega)) H1.out Hv3.out (Nat.zero_le _) (by simp [disk]) (fun hl => by rw [disk_snoc fs 0 hl, List.length_append, Film.rec_len]; unfold Film.saved; rw [saved_length]; omega) rfl
      exact bodyPost_ret (v := .tuple #[.pointer (some ⟨w3.heap.size, 0, none⟩), .agg #[.int .i64 0, .int .i64 0, .slice none 0 0, .slice none 0 0], .bool (decide (0 < 0))]) (by simp [results, Try.results9, go_sem, Act.put, d0, d1, d2, d3]) rfl ⟨_, _, _, _, _, _, _, rfl, R⟩
  · have hcap : cut ≤ cap ∧ cap ≤ maxLen := by
      obtain ⟨p, c, e, l1, l2, _⟩ := RowAt.form hv
      rw [hv'] at e
      injection e with e1 e2 e3
      omega
    obtain ⟨hcap1, hcap2⟩ := hcap
    rw [hDl] at hv'
    subst hv'
    unfold maxLen at hcap2
    have Hc := hid hc
    have Hv := hid hv
    clear hc hv hDl
    go_enter Try.func9, Try.ntmps9
    go_wp2_with fail
    go_loopw [4, 5] (fun ok i wr => ∃ j k : Nat, j ≤ fs.length ∧ k ≤ cut ∧ i = .int .i64 k ∧ ok = .bool (decide (0 < j)) ∧ k = (disk (fs.take j)).length ∧ Last w.heap.size fs j wr ∧ Below w.heap.size w wr) (fun _ i _ => cut - (intOf i).toNat)
    case atStart => exact ⟨0, 0, Nat.zero_le _, Nat.zero_le _, rfl, rfl, rfl, ⟨0, 0, none, 0, 0, none, 0, 0, Blk.new _ _ _, fun h => absurd h (by omega)⟩, (Below.refl _ _).alloc (Nat.le_refl _) _⟩
    case round =>
      obtain ⟨j, k, hj, hk, rfl, rfl, hkd, hlast, hbr⟩ := hrel
      have Hkd := hid hkd
      have Hlast := hid hlast
      have Hbr := hid hbr
      clear hkd hlast hbr
      by_cases h4 : k + 4 ≤ cut
      · have hjl : j < fs.length := by
          rcases Nat.lt_or_ge j fs.length with h | h
          · exact h
          · exfalso
            have e : fs.take j = fs := List.take_of_length_le h
            have := Hkd.out; rw [e] at this
            have := Hcut.out
            omega
        have hok := hfs fs[j] (List.getElem_mem hjl)
        have hsl := Film.ok_len hok
        have Hlen := hid (wake_len fs cut j hjl (by rw [← Hkd.out]; exact h4))
        rw [← Hkd.out] at Hlen
        have H4 := hid (bytes_cut (cap := cap - k) HDl.out hb Hc.out k 4 (by omega) (by omega) (by unfold maxLen; omega) _ Hlen.out)
        have h4' : (k : Int) + 4 ≤ (cut : Int) := by omega
        obtain ⟨ns, hns⟩ : ∃ ns, ns = fs[j].saved.length := ⟨_, rfl⟩
        rw [← hns] at hsl H4
        have Hns := hid hns
        have hn0 : 10 ≤ ns := by rw [hns]; unfold Film.saved; rw [saved_length]; omega
        clear hns
        go_wp2_with fail
        refine (get_num _ ns _ (H4.out.below' Hbr.out) (by omega)).mono ?_
        rintro e w1 ⟨rfl, rfl⟩
        by_cases h5 : k + 4 + ns ≤ cut
        · have h5' : (k : Int) + 4 + (ns : Int) ≤ (cut : Int) := by omega
          have H5 := hid (bytes_cut (cap := cap - (k + 4)) HDl.out hb Hc.out (k + 4) ns (by omega) (by omega) (by unfold maxLen; omega) fs[j].saved (by rw [Hns.out, Hkd.out]; exact wake_rec fs cut j hjl (by rw [← Hkd.out, ← Hns.out]; exact h5)))
          go_wp2_with fail
          refine (load_ok fs[j].W fs[j].H fs[j].light fs[j].shots _ _ hok (H5.out.below' Hbr.out)).mono ?_
          rintro e w3 ⟨lv, sv, rfl, hl3, hs3, hb3, hlb, hsb⟩
          obtain ⟨p3, c3, rfl, _⟩ := hl3.form
          obtain ⟨q3, d3, rfl, _⟩ := hs3.form
          obtain ⟨a0, a1, p, n, c, q, m, d, hB, _⟩ := Hlast.out
          have hBlt := hB.lt
          have hB3 : Blk w3 w.heap.size _ 29 := hB.below hb3 hBlt
          have b0 := hB3.cell 0 _ rfl
          have b1 := hB3.cell 1 _ rfl
          have b2 := hB3.cell 2 _ rfl
          have b3 := hB3.cell 3 _ rfl
          have c0 := hB3.free 0
          have c1 := hB3.free 1
          have c2 := hB3.free 2
          have c3' := hB3.free 3
          have hsz := hB3.lt
          have HB3 := hid hB3
          have Hl3 := hid hl3
          have Hs3 := hid hs3
          have Hb3 := hid hb3
          have Hlb := hid hlb
          have Hsb := hid hsb
          clear hB hB3 hl3 hs3 hb3 hlb hsb
          go_wp2_with fail
          go_roundw
          case rel =>
            have hN := ((((HB3.out.set 0 (.int .i64 fs[j].W)).set 1 (.int .i64 fs[j].H)).set 2 (.slice p3 fs[j].light.length c3)).set 3 (.slice q3 fs[j].shots.length d3)).alloc (.cells #[.int .i64 fs[j].W, .int .i64 fs[j].H, .slice p3 fs[j].light.length c3, .slice q3 fs[j].shots.length d3] 29)
            have hb0 : w.heap.size ≤ w.heap.size := Nat.le_refl _
            have hB4 : Below w.heap.size w w3 := Hbr.out.trans (Hb3.out.mono Hbr.out.size)
            have keep := fun (x : Value) (l : List Int) (hx : IntsAt w3 x l) (hxb : ∀ k, x.ownBlock = some k → wr.heap.size ≤ k) => (four_kept w3 x l w.heap.size (.int .i64 fs[j].W) (.int .i64 fs[j].H) (.slice p3 fs[j].light.length c3) (.slice q3 fs[j].shots.length d3) hx (fun kk hk => by have := hxb kk hk; omega)).alloc (.cells #[.int .i64 fs[j].W, .int .i64 fs[j].H, .slice p3 fs[j].light.length c3, .slice q3 fs[j].shots.length d3] 29)
            refine ⟨j + 1, k + 4 + ns, by omega, by omega, by simp, by simp, ?_, ⟨fs[j].W, fs[j].H, p3, _, c3, q3, _, d3, by simpa using hN, fun _ => ⟨fs[j], ?_, rfl, rfl, keep _ _ Hl3.out Hlb.out, keep _ _ Hs3.out Hsb.out, ?_, ?_⟩⟩, ?_⟩
            · rw [disk_snoc fs j hjl, List.length_append, Film.rec_len, ← Hkd.out, ← Hns.out]; omega
            · rw [Nat.add_sub_cancel]; exact List.getElem?_eq_getElem hjl
            · intro kk hk; have := Hlb.out kk hk; omega
            · intro kk hk; have := Hsb.out kk hk; omega
            · exact ((((hB4.setCell (p := ⟨w.heap.size, 0, none⟩) hb0 _).setCell (p := ⟨w.heap.size, 1, none⟩) hb0 _).setCell (p := ⟨w.heap.size, 2, none⟩) hb0 _).setCell (p := ⟨w.heap.size, 3, none⟩) hb0 _).alloc (by simp [World.setCell]; omega) _
          case measure => simp [intOf]; omega
        · have h5' : (cut : Int) < (k : Int) + 4 + (ns : Int) := by omega
          have Hmost : Hid (j < fs.length → cut < (disk (fs.take (j + 1))).length) := fun _ => by
            rw [disk_snoc fs j hjl, List.length_append, Film.rec_len, ← Hkd.out, ← Hns.out]; omega
          obtain ⟨a0, a1, p, n, c, q, m, d, hB, hlast⟩ := Hlast.out
          have b0 := hB.cell 0 _ rfl
          have b1 := hB.cell 1 _ rfl
          have b2 := hB.cell 2 _ rfl
          have b3 := hB.cell 3 _ rfl
          have c0 := hB.free 0
          have c1 := hB.free 1
          have c2 := hB.free 2
          have c3 := hB.free 3
          have hsz := hB.lt
          have HB := hid hB
          have HL := hid hlast
          have Hpre := hid (bytes_cut (cap := cap) HDl.out hb Hc.out 0 k (by omega) (by omega) (by unfold maxLen; omega) (disk (fs.take j)) (by rw [Hkd.out]; exact wake_pre fs cut j (by rw [← Hkd.out]; exact hk)))
          rw [Nat.add_zero] at Hpre
          have hk0 : (0 : Int) ≤ (k : Int) := by omega
          have hkc : (k : Int) ≤ (cap : Int) := by omega
          have Hkl : Hid ((disk (fs.take j)).length = k) := hid Hkd.out.symm
          clear hB hlast
          go_wp2_with fail
          go_region_law (first
            | (refine step_append_row rfl (.tmp 46) (.tmp 49) 23 rfl 5 i0 (.int .u8 0) 1 1 Try.underlying23 hi hz0 hz1 hz2 rfl (by decide) _ 0 [] rfl (World.ownsRow_lit (base := 0) _ #[] 0 ?_ ?_ ?_).drew _ k _ rfl (?_ : RowAt _ 1 _ k ((disk (fs.take j)).map byteV)) ?_ ?_ ?_ ?_
               · omega
               · unfold maxLen; omega
               · rfl
               · have := ((Hpre.out.below Hbr.out).alloc (.cells #[] 5)).drew
                 unfold BytesAt at this
                 rw [Hkl.out] at this
                 exact this
               · exact bytes_one _
               · unfold maxLen; omega
               · omega
               intro p2 cc2 w3 h1 h2 h3
               have hb3 : Below wr.heap.size wr w3 := ((Below.refl _ _).alloc (Nat.le_refl _) _).drew.grown (row := some wr.heap.size) h2 (by simp) (by intro k hk; injection hk with hk; omega)
               have Hv3 : Hid (∀ g, (Value.slice p2 k cc2).ownBlock = some g → wr.heap.size ≤ g) := fun g hg => by
                 rw [Nat.zero_add] at h3
                 rcases h3 with e | e
                 · have e : (Value.slice p2 k cc2).ownBlock = some wr.heap.size := e
                   rw [e] at hg; injection hg with hg; omega
                 · have := e g (by simpa using hg); simp at this; omega
               have H1 : Hid (OwnB w3 (.slice p2 k cc2) (disk (fs.take j))) := by unfold Hid OwnB; rw [Hkl.out]; simpa using h1
               have HN : Hid (Blk w3 w.heap.size _ 29) := hid (HB.out.below hb3 HB.out.lt)
               have Hb3 := hid hb3
               have e0 := HN.out.cell 0 _ rfl
               have e1 := HN.out.cell 1 _ rfl
               have e2 := HN.out.cell 2 _ rfl
               have e3 := HN.out.cell 3 _ rfl
               have f0 := HN.out.free 0
               have f1 := HN.out.free 1
               have f2 := HN.out.free 2
               have f3 := HN.out.free 3
               have hsz3 := HN.out.lt
               clear h1 h2 h3 hb3))
          all_goals
            go_wp2_with fail
            obtain ⟨R, d0, d1, d2, d3⟩ := woken_end Hbr.out Hb3.out HB.out HL.out H1.out Hv3.out hj (by rw [← Hkd.out]; exact hk) Hmost.out rfl
            exact bodyPost_ret (v := .tuple #[.pointer (some ⟨w3.heap.size, 0, none⟩), .agg #[.int .i64 a0, .int .i64 a1, .slice p n c, .slice q m d], .bool (decide (0 < j))]) (by simp [results, Try.results9, go_sem, Act.put, d0, d1, d2, d3]) rfl ⟨_, _, _, _, _, _, _, rfl, R⟩
      · have h4' : (cut : Int) < (k : Int) + 4 := by omega
        have Hmost : Hid (j < fs.length → cut < (disk (fs.take (j + 1))).length) := fun hjl => by
          rw [disk_snoc fs j hjl, List.length_append, Film.rec_len, ← Hkd.out]; omega
        obtain ⟨a0, a1, p, n, c, q, m, d, hB, hlast⟩ := Hlast.out
        have b0 := hB.cell 0 _ rfl
        have b1 := hB.cell 1 _ rfl
        have b2 := hB.cell 2 _ rfl
        have b3 := hB.cell 3 _ rfl
        have c0 := hB.free 0
        have c1 := hB.free 1
        have c2 := hB.free 2
        have c3 := hB.free 3
        have hsz := hB.lt
        have HB := hid hB
        have HL := hid hlast
        have Hpre := hid (bytes_cut (cap := cap) HDl.out hb Hc.out 0 k (by omega) (by omega) (by unfold maxLen; omega) (disk (fs.take j)) (by rw [Hkd.out]; exact wake_pre fs cut j (by rw [← Hkd.out]; exact hk)))
        rw [Nat.add_zero] at Hpre
        have hk0 : (0 : Int) ≤ (k : Int) := by omega
        have hkc : (k : Int) ≤ (cap : Int) := by omega
        have Hkl : Hid ((disk (fs.take j)).length = k) := hid Hkd.out.symm
        clear hB hlast
        go_wp2_with fail
        go_region_law (first
          | (refine step_append_row rfl (.tmp 46) (.tmp 49) 23 rfl 5 i0 (.int .u8 0) 1 1 Try.underlying23 hi hz0 hz1 hz2 rfl (by decide) _ 0 [] rfl (World.ownsRow_lit (base := 0) _ #[] 0 ?_ ?_ ?_).drew _ k _ rfl (?_ : RowAt _ 1 _ k ((disk (fs.take j)).map byteV)) ?_ ?_ ?_ ?_
             · omega
             · unfold maxLen; omega
             · rfl
             · have := ((Hpre.out.below Hbr.out).alloc (.cells #[] 5)).drew
               unfold BytesAt at this
               rw [Hkl.out] at this
               exact this
             · exact bytes_one _
             · unfold maxLen; omega
             · omega
             intro p2 cc2 w3 h1 h2 h3
             have hb3 : Below wr.heap.size wr w3 := ((Below.refl _ _).alloc (Nat.le_refl _) _).drew.grown (row := some wr.heap.size) h2 (by simp) (by intro k hk; injection hk with hk; omega)
             have Hv3 : Hid (∀ g, (Value.slice p2 k cc2).ownBlock = some g → wr.heap.size ≤ g) := fun g hg => by
               rw [Nat.zero_add] at h3
               rcases h3 with e | e
               · have e : (Value.slice p2 k cc2).ownBlock = some wr.heap.size := e
                 rw [e] at hg; injection hg with hg; omega
               · have := e g (by simpa using hg); simp at this; omega
             have H1 : Hid (OwnB w3 (.slice p2 k cc2) (disk (fs.take j))) := by unfold Hid OwnB; rw [Hkl.out]; simpa using h1
             have HN : Hid (Blk w3 w.heap.size _ 29) := hid (HB.out.below hb3 HB.out.lt)
             have Hb3 := hid hb3
             have e0 := HN.out.cell 0 _ rfl
             have e1 := HN.out.cell 1 _ rfl
             have e2 := HN.out.cell 2 _ rfl
             have e3 := HN.out.cell 3 _ rfl
             have f0 := HN.out.free 0
             have f1 := HN.out.free 1
             have f2 := HN.out.free 2
             have f3 := HN.out.free 3
             have hsz3 := HN.out.lt
             clear h1 h2 h3 hb3))
        all_goals
          go_wp2_with fail
          obtain ⟨R, d0, d1, d2, d3⟩ := woken_end Hbr.out Hb3.out HB.out HL.out H1.out Hv3.out hj (by rw [← Hkd.out]; exact hk) Hmost.out rfl
          exact bodyPost_ret (v := .tuple #[.pointer (some ⟨w3.heap.size, 0, none⟩), .agg #[.int .i64 a0, .int .i64 a1, .slice p n c, .slice q m d], .bool (decide (0 < j))]) (by simp [results, Try.results9, go_sem, Act.put, d0, d1, d2, d3]) rfl ⟨_, _, _, _, _, _, _, rfl, R⟩

end Go.Proofs.Ytjjkgoekcpgilaa

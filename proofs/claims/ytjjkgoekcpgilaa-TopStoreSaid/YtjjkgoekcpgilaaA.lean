/- TopStore: small helpers, walked. -/
import Derived.Test.YtjjkgoekcpgilaaBase
namespace Go.Proofs.Ytjjkgoekcpgilaa
open Go.RowKit

def pick (c n : Int) : Int := if c < 0 then -((c + 1).tmod n) else c % n

theorem pick_lt (c n : Int) (hn : 1 ≤ n) : 0 ≤ pick c n ∧ pick c n < n := by
  unfold pick
  split
  · rename_i h
    have e : -((c + 1).tmod n) = (-(c + 1)) % n := by
      rw [← Int.neg_tmod, Int.tmod_eq_emod_of_nonneg (by omega)]
    rw [e]
    exact ⟨Int.emod_nonneg _ (by omega), Int.emod_lt_of_pos _ (by omega)⟩
  · exact ⟨Int.emod_nonneg _ (by omega), Int.emod_lt_of_pos _ (by omega)⟩

theorem pick_any (c n : Int) (w : World) (hn : 1 ≤ n) (hn2 : n ≤ 4611686018427387904) (hc : -9223372036854775808 ≤ c) (hc2 : c ≤ 9223372036854775807) :
    Calls Try.prog 4 #[.int .i64 c, .int .i64 n] w fun e w' => e = .returned (.int .i64 (pick c n)) ∧ w = w' := by
  by_cases h : c < 0
  · have H : Hid (pick c n = -((c + 1).tmod n)) := if_pos h
    go_enter Try.func4, Try.ntmps4
    go_wp2
    go_ret
    exact ⟨by rw [H.out]; rfl, rfl⟩
  · have H : Hid (pick c n = c % n) := if_neg h
    go_enter Try.func4, Try.ntmps4
    go_wp2
    go_ret
    exact ⟨by rw [H.out]; rfl, rfl⟩

abbrev intV (n : Int) : Value := .int .i64 n
def byteV (c : UInt8) : Value := .int .u8 (c.toNat : Int)
abbrev IntsAt (w : World) (v : Value) (xs : List Int) : Prop := RowAt w 1 v xs.length (xs.map (Value.int .i64))
abbrev BytesAt (w : World) (v : Value) (xs : List UInt8) : Prop := RowAt w 1 v xs.length (xs.map byteV)

theorem IntsAt.cases {w : World} {v : Value} {xs : List Int} (h : IntsAt w v xs) : (v = .slice none 0 0 ∧ xs = []) ∨
    ∃ b off cap, v = .slice (some ⟨b, off, none⟩) xs.length cap ∧ b < w.heap.size ∧ ∀ j, j < xs.length → w.cell? ⟨b, off + j, none⟩ = some (.int .i64 (xs[j]?.getD 0)) := by
  rcases h.2 with ⟨h1, h2⟩ | ⟨b, off, cap, h1, _, _, h2, h3⟩
  · exact .inl ⟨h1, List.eq_nil_of_length_eq_zero h2⟩
  · refine .inr ⟨b, off, cap, h1, h2, fun j hj => ?_⟩
    rw [h3 j (by simpa using hj), List.getElem?_map, List.getElem?_eq_getElem hj]; rfl

theorem BytesAt.cases {w : World} {v : Value} {xs : List UInt8} (h : BytesAt w v xs) : (v = .slice none 0 0 ∧ xs = []) ∨
    ∃ b off cap, v = .slice (some ⟨b, off, none⟩) xs.length cap ∧ b < w.heap.size ∧ ∀ j, j < xs.length → w.cell? ⟨b, off + j, none⟩ = some (.int .u8 ((xs[j]?.getD 0).toNat : Int)) := by
  rcases h.2 with ⟨h1, h2⟩ | ⟨b, off, cap, h1, _, _, h2, h3⟩
  · exact .inl ⟨h1, List.eq_nil_of_length_eq_zero h2⟩
  · refine .inr ⟨b, off, cap, h1, h2, fun j hj => ?_⟩
    rw [h3 j (by simpa using hj), List.getElem?_map, List.getElem?_eq_getElem hj]; rfl

/-- A slice of ints that came in: an empty one may lie anywhere. -/
def ArgInts (w : World) (v : Value) (xs : List Int) : Prop := (∃ p c, v = .slice p 0 c ∧ xs = []) ∨ IntsAt w v xs
theorem ArgInts.below {w w' : World} {v : Value} {xs : List Int} (h : ArgInts w v xs) (hb : Below w.heap.size w w') : ArgInts w' v xs := by
  rcases h with h | h
  · exact .inl h
  · exact .inr (RowAt.below h hb)
theorem ArgInts.form {w : World} {v : Value} {xs : List Int} (h : ArgInts w v xs) : ∃ p c, v = .slice p xs.length c := by
  rcases h with ⟨p, c, h1, h2⟩ | h
  · exact ⟨p, c, by rw [h1, h2]; rfl⟩
  · obtain ⟨p, c, h1, _⟩ := RowAt.form h
    exact ⟨p, c, h1⟩
theorem ArgInts.cases {w : World} {v : Value} {xs : List Int} (h : ArgInts w v xs) : (∃ p c, v = .slice p 0 c ∧ xs = []) ∨
    ∃ b off cap, v = .slice (some ⟨b, off, none⟩) xs.length cap ∧ b < w.heap.size ∧ ∀ j, j < xs.length → w.cell? ⟨b, off + j, none⟩ = some (.int .i64 (xs[j]?.getD 0)) := by
  rcases h with h | h
  · exact .inl h
  · rcases h.cases with ⟨h1, h2⟩ | h
    · exact .inl ⟨none, 0, h1, h2⟩
    · exact .inr h

def raw (xs : List Int) (k : Nat) : Int := xs[k % xs.length]?.getD 0

theorem raw_any (v : Value) (xs : List Int) (k : Nat) (w : World) (hv : ArgInts w v xs) (hl : xs.length ≤ 1048576) (hk : k ≤ 4611686018427387904) :
    Calls Try.prog 6 #[v, .int .i64 k] w fun e w' => e = .returned (.int .i64 (raw xs k)) ∧ w = w' := by
  rcases hv.cases with ⟨p, c, rfl, rfl⟩ | ⟨b, off, cap, rfl, hb, hc⟩
  · go_enter Try.func6, Try.ntmps6
    go_wp2
    go_ret
    exact ⟨rfl, rfl⟩
  · by_cases h0 : xs = []
    · subst h0
      go_enter Try.func6, Try.ntmps6
      go_wp2
      go_ret
      exact ⟨rfl, rfl⟩
    · have hp : 0 < xs.length := List.length_pos_iff.2 h0
      have hm : k % xs.length < xs.length := Nat.mod_lt _ hp
      have h := hc (k % xs.length) hm
      clear hc
      have H : Hid (raw xs k = xs[k % xs.length]) := by unfold raw; rw [List.getElem?_eq_getElem hm]; rfl
      go_enter Try.func6, Try.ntmps6
      go_wp2
      go_ret
      exact ⟨by rw [H.out]; rfl, rfl⟩

theorem raw_int (v : Value) (xs : List Int) (k : Int) (w : World) (hv : ArgInts w v xs) (hl : xs.length ≤ 1048576) (h0 : 0 ≤ k) (hk : k ≤ 4611686018427387904) :
    Calls Try.prog 6 #[v, .int .i64 k] w fun e w' => e = .returned (.int .i64 (raw xs k.toNat)) ∧ w = w' := by
  obtain ⟨m, rfl⟩ := Int.eq_ofNat_of_zero_le h0
  exact raw_any v xs m w hv hl (by omega)

/-- The number of bytes, the highest first. -/
def beOf (l : List UInt8) : Nat := l.foldl (fun n c => n * 256 + c.toNat) 0

theorem take_snoc' {α : Type} (l : List α) (k : Nat) (h : k < l.length) : l.take (k + 1) = l.take k ++ [l[k]] := by
  rw [List.take_add_one, List.getElem?_eq_getElem h]; rfl
theorem beOf_snoc (l : List UInt8) (c : UInt8) : beOf (l ++ [c]) = beOf l * 256 + c.toNat := by simp [beOf]
theorem beOf_lt (l : List UInt8) : beOf l < 256 ^ l.length := by
  suffices h : ∀ n : Nat, ∀ l : List UInt8, l.length = n → beOf l < 256 ^ n from h _ l rfl
  intro n
  induction n with
  | zero => intro l h; rw [List.length_eq_zero_iff.1 h]; decide
  | succ n ih =>
    intro l h
    have hne : l ≠ [] := by intro e; rw [e] at h; cases h
    rw [← List.dropLast_concat_getLast hne, beOf_snoc]
    have h1 := ih l.dropLast (by simp [h])
    have h2 := (l.getLast hne).toNat_lt
    rw [Nat.pow_succ]
    omega

theorem shl_or (x : Nat) (c : UInt8) (hx : x < 1099511627776) : bits .or .i64 (wrap64 ((x : Int) * 256)) (wrap64 ((c.toNat : Nat) : Int)) = ((x * 256 + c.toNat : Nat) : Int) := by
  have hc := c.toNat_lt
  rw [IntWalk.wrap64_in _ ⟨by omega, by omega⟩, IntWalk.wrap64_in _ ⟨by omega, by omega⟩]
  have := bits_join .i64 56 (by decide) (fun n h0 h1 => by rw [IntKind.wrap_i64]; omega) 8 ((x : Int) * 256) ((c.toNat : Nat) : Int) (by omega) (by omega) (by omega) (by omega) (by omega) (by omega)
  rw [this]
  omega

theorem get_any (v : Value) (l : List UInt8) (w : World) (hv : BytesAt w v l) (hl : l.length ≤ 6) :
    Calls Try.prog 13 #[v] w fun e w' => e = .returned (.int .i64 (beOf l)) ∧ w = w' := by
  rcases hv.cases with ⟨rfl, rfl⟩ | ⟨b, off, cap, rfl, hb, hc⟩
  · go_enter Try.func13, Try.ntmps13
    go_wp2
    refine wp_loop_rounds 1 ?_
    rw [rounds_succ]
    go_wp2
    go_ret
    exact ⟨rfl, rfl⟩
  · clear hv
    go_enter Try.func13, Try.ntmps13
    go_wp2
    go_loop [3, 8] (fun n i => ∃ k : Nat, k ≤ l.length ∧ i = .int .i64 k ∧ n = .int .i64 (beOf (l.take k))) (fun _ i => l.length - (intOf i).toNat)
    case atStart => exact ⟨0, Nat.zero_le _, rfl, rfl⟩
    case round =>
      obtain ⟨k, hk, rfl, rfl⟩ := hrel
      have hcell : k < l.length → w.cell? ⟨b, off + k, none⟩ = some (.int .u8 ((l[k]?.getD 0).toNat : Int)) := hc k
      clear hc
      by_cases hlt : k < l.length
      · have H : Hid (bits .or .i64 (wrap64 ((beOf (l.take k) : Int) * 256)) (wrap64 ((l[k].toNat : Nat) : Int)) = (beOf (l.take (k + 1)) : Int)) := by
          have h1 := beOf_lt (l.take k)
          have h2 : (256 : Nat) ^ (l.take k).length ≤ 256 ^ 5 := Nat.pow_le_pow_right (by decide) (by rw [List.length_take]; omega)
          unfold Hid
          rw [shl_or _ _ (by omega), take_snoc' _ _ hlt, beOf_snoc]
        go_wp2
        go_round
        case rel => exact ⟨k + 1, by omega, by go_num, by rw [H.out]⟩
        case measure => simp [intOf]; omega
      · have hkl : k = l.length := by omega
        have H : Hid (l.take k = l) := by unfold Hid; rw [hkl]; exact List.take_length
        clear hkl
        go_wp2
        go_ret
        exact ⟨by rw [H.out]; rfl, rfl⟩

/-- The sum of bytes, as the code makes it. -/
def sumStep (h : Int) (c : UInt8) : Int := bits .xor .u32 h ((c.toNat : Int) % 4294967296) * 16777619 % 4294967296
def sumOf (l : List UInt8) : Int := l.foldl sumStep 1
theorem sumOf_snoc (l : List UInt8) (c : UInt8) : sumOf (l ++ [c]) = sumStep (sumOf l) c := by simp [sumOf]

theorem sum_any (v : Value) (l : List UInt8) (w : World) (hv : BytesAt w v l) (hl : l.length ≤ 1099511627776) :
    Calls Try.prog 17 #[v] w fun e w' => e = .returned (.int .u32 (sumOf l)) ∧ w = w' := by
  rcases hv.cases with ⟨rfl, rfl⟩ | ⟨b, off, cap, rfl, hb, hc⟩
  · go_enter Try.func17, Try.ntmps17
    go_wp2
    refine wp_loop_rounds 1 ?_
    rw [rounds_succ]
    go_wp2
    go_ret
    exact ⟨rfl, rfl⟩
  · clear hv
    go_enter Try.func17, Try.ntmps17
    go_wp2
    go_loop [3, 8] (fun n i => ∃ k : Nat, k ≤ l.length ∧ i = .int .i64 k ∧ n = .int .u32 (sumOf (l.take k))) (fun _ i => l.length - (intOf i).toNat)
    case atStart => exact ⟨0, Nat.zero_le _, rfl, rfl⟩
    case round =>
      obtain ⟨k, hk, rfl, rfl⟩ := hrel
      have hcell : k < l.length → w.cell? ⟨b, off + k, none⟩ = some (.int .u8 ((l[k]?.getD 0).toNat : Int)) := hc k
      clear hc
      by_cases hlt : k < l.length
      · have H : Hid (sumOf (l.take (k + 1)) = bits .xor .u32 (sumOf (l.take k)) ((l[k].toNat : Int) % 4294967296) * 16777619 % 4294967296) := by
          unfold Hid
          rw [take_snoc' _ _ hlt, sumOf_snoc]; rfl
        go_wp2
        go_round
        case rel => exact ⟨k + 1, by omega, by go_num, by rw [H.out]⟩
        case measure => simp [intOf]; omega
      · have hkl : k = l.length := by omega
        have H : Hid (l.take k = l) := by unfold Hid; rw [hkl]; exact List.take_length
        clear hkl
        go_wp2
        go_ret
        exact ⟨by rw [H.out]; rfl, rfl⟩

theorem sumOf_range (l : List UInt8) : 0 ≤ sumOf l ∧ sumOf l < 4294967296 := by
  by_cases h : l = []
  · subst h; decide
  · rw [← List.dropLast_concat_getLast h, sumOf_snoc]
    unfold sumStep
    omega

/-- The int rows' element type and the bytes'. -/
theorem info3 : (Try.prog.info? 3).map (fun i => (i.zero, i.size, i.bytes)) = some (some (.int .i64 0), 1, 8) := by kernel_rfl
theorem info5 : (Try.prog.info? 5).map (fun i => (i.zero, i.size, i.bytes)) = some (some (.int .u8 0), 1, 1) := by kernel_rfl

/-- What a number is in so many bytes, the highest first. -/
def beBytes (n size : Nat) : List UInt8 := (List.range size).map fun k => UInt8.ofNat (n / 2 ^ (8 * (size - 1 - k)))

theorem beBytes_snoc (n size k : Nat) (h : k < size) : (beBytes n size).take (k + 1) = (beBytes n size).take k ++ [UInt8.ofNat (n / 2 ^ (8 * (size - 1 - k)))] := by
  rw [take_snoc' _ _ (by simpa [beBytes] using h)]
  simp [beBytes]

theorem put_any (v : Value) (xs : List Value) (n size : Nat) (w : World) (hown : w.ownsRow 0 5 1 v xs.length xs)
    (hlen : xs.length ≤ 1099511627776) (hn : n ≤ 4611686018427387904) (hs : size ≤ 6) :
    Calls Try.prog 12 #[v, .int .i64 n, .int .i64 size] w fun e w' => ∃ v', e = .returned v' ∧ w'.ownsRow 0 5 1 v' (xs.length + size) (xs ++ (beBytes n size).map byteV) ∧ w.grownBy w' v.ownBlock ∧ Fresh w v v' := by
  obtain ⟨i0, hi, hz0, hz1, hz2⟩ := info_parts info5
  go_enter Try.func12, Try.ntmps12
  go_wp2
  go_loopw [0, 7] (fun u i wr => ∃ k : Nat, k ≤ size ∧ i = .int .i64 ((size : Int) - 1 - k) ∧ wr.ownsRow 0 5 1 u (xs.length + k) (xs ++ ((beBytes n size).take k).map byteV) ∧ w.grownBy wr v.ownBlock ∧ Fresh w v u)
    (fun _ i _ => (intOf i + 1).toNat)
  case atStart => exact ⟨0, Nat.zero_le _, by simp, by simpa using hown, World.grownBy.refl _ _, Fresh.refl _ _⟩
  case round =>
    obtain ⟨k, hk, rfl, hr, hg, hf⟩ := hrel
    by_cases hlt : k < size
    · have hb : Hid ((n : Int) / 2 ^ (8 * (size - 1 - k)) % 256 = ((UInt8.ofNat (n / 2 ^ (8 * (size - 1 - k)))).toNat : Int)) := by
        unfold Hid; rw [UInt8.toNat_ofNat']; simp
      have hsn : Hid _ := hid (beBytes_snoc n size k hlt)
      have hgr := hg.size
      go_wp2_with (at_builtin; refine wpList_append_row _ rfl _ _ 23 rfl 5 i0 (.int .u8 0) 1 1 Try.underlying23 hi hz0 hz1 hz2 rfl (by decide) _ _ _ rfl (hr.alloc _) _ 1 _ rfl (row_one _ _ _) ?c1 ?c2 ?c3 ?_)
      case c1 => intro u hu; simp at hu; subst hu; rfl
      case c2 => unfold maxLen; omega
      case c3 => omega
      intro v' w1 h1 h2 h3
      have R1 : Hid (w1.ownsRow 0 5 1 v' (xs.length + (k + 1)) (xs ++ ((beBytes n size).take (k + 1)).map byteV)) := by
        have e : xs ++ ((beBytes n size).take (k + 1)).map byteV = xs ++ ((beBytes n size).take k).map byteV ++ [.int .u8 ((n : Int) / 2 ^ (8 * (size - 1 - k)) % 256)] := by
          rw [hsn.out, hb.out]; simp [byteV]
        unfold Hid; rw [e]; simpa [Nat.add_assoc] using h1
      have R2 : Hid (w.grownBy w1 v.ownBlock) := grown_trans (grown_then_none hg (World.grownBy_alloc _ _ _)) h2 hf
      have R3 : Hid (Fresh w v v') := hf.trans (h3.of_le (by simp)) hgr
      clear h1 h2 h3
      go_wp2
      go_roundw
      case rel => exact ⟨k + 1, by omega, by simp; omega, R1.out, R2.out, R3.out⟩
      case measure => simp [intOf]; omega
    · have hkl : k = size := by omega
      subst hkl
      go_wp2
      go_ret
      exact ⟨_, rfl, by rw [List.take_of_length_le (by simp [beBytes])] at hr; exact hr, hg, hf⟩

end Go.Proofs.Ytjjkgoekcpgilaa

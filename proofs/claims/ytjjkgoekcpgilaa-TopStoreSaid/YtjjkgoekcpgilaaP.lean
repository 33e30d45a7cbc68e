/- TopStore: the plain laws on saved films. -/
import Derived.Test.YtjjkgoekcpgilaaE
namespace Go.Proofs.Ytjjkgoekcpgilaa
open Go.RowKit

theorem beBytes_succ (n s : Nat) : beBytes n (s + 1) = beBytes (n / 256) s ++ [UInt8.ofNat n] := by
  unfold beBytes
  rw [List.range_succ, List.map_append]
  congr 1
  · apply List.map_congr_left
    intro k hk
    have hk := List.mem_range.1 hk
    congr 1
    rw [show s + 1 - 1 - k = (s - 1 - k) + 1 from by omega, Nat.mul_add, Nat.pow_add, show 2 ^ (8 * 1) = 256 from rfl, Nat.mul_comm, Nat.div_div_eq_div_mul]
  · simp

theorem beOf_beBytes (s : Nat) : ∀ n, beOf (beBytes n s) = n % 256 ^ s := by
  induction s with
  | zero => intro n; simp [beBytes, beOf]; omega
  | succ s ih =>
    intro n
    have e : (256 : Nat) ^ (s + 1) = 256 * 256 ^ s := by rw [Nat.pow_succ, Nat.mul_comm]
    have e2 : (UInt8.ofNat n).toNat = n % 256 := by simp [UInt8.toNat_ofNat']
    rw [beBytes_succ, beOf_snoc, ih, e2, e, Nat.mod_mul]
    omega

theorem lightB_split (l : List Int) (k : Nat) (h : k < l.length) : lightB l = lightB (l.take k) ++ (beBytes l[k].toNat 6 ++ lightB (l.drop (k + 1))) := by
  have e : l = l.take k ++ (l[k] :: l.drop (k + 1)) := by rw [← List.drop_eq_getElem_cons h, List.take_append_drop]
  conv => lhs; rw [e]
  simp only [lightB, List.flatMap_append, List.flatMap_cons]
theorem shotsB_split (l : List Int) (k : Nat) (h : k < l.length) : shotsB l = shotsB (l.take k) ++ (beBytes l[k].toNat 3 ++ shotsB (l.drop (k + 1))) := by
  have e : l = l.take k ++ (l[k] :: l.drop (k + 1)) := by rw [← List.drop_eq_getElem_cons h, List.take_append_drop]
  conv => lhs; rw [e]
  simp only [shotsB, List.flatMap_append, List.flatMap_cons]

theorem cut_mid {α : Type} (a b c : List α) (n m : Nat) (hn : n = a.length) (hm : m = b.length) : ((a ++ (b ++ c)).drop n).take m = b := by
  subst hn; subst hm
  rw [List.drop_left, List.take_left]

theorem saved_light (W H : Nat) (light shots : List Int) (k : Nat) (h : k < light.length) : ((saved W H light shots).drop (6 + 6 * k)).take 6 = beBytes light[k].toNat 6 := by
  have e : saved W H light shots = (head6 W H ++ lightB (light.take k)) ++ (beBytes light[k].toNat 6 ++ (lightB (light.drop (k + 1)) ++ (shotsB shots ++ beBytes (sumOf (headOf W H light shots)).toNat 4))) := by
    unfold saved
    generalize beBytes (sumOf (headOf W H light shots)).toNat 4 = c
    unfold headOf
    conv => lhs; rw [lightB_split light k h]
    simp only [List.append_assoc]
  rw [e]
  exact cut_mid _ _ _ _ _ (by rw [List.length_append, lightB_length, List.length_take]; simp [head6]; omega) (by simp [beBytes_length])

theorem saved_shots (W H : Nat) (light shots : List Int) (k : Nat) (h : k < shots.length) : ((saved W H light shots).drop (6 + 6 * light.length + 3 * k)).take 3 = beBytes shots[k].toNat 3 := by
  have e : saved W H light shots = (head6 W H ++ lightB light ++ shotsB (shots.take k)) ++ (beBytes shots[k].toNat 3 ++ (shotsB (shots.drop (k + 1)) ++ beBytes (sumOf (headOf W H light shots)).toNat 4)) := by
    unfold saved
    generalize beBytes (sumOf (headOf W H light shots)).toNat 4 = c
    unfold headOf
    conv => lhs; rw [shotsB_split shots k h]
    simp only [List.append_assoc]
  rw [e]
  exact cut_mid _ _ _ _ _ (by rw [List.length_append, List.length_append, lightB_length, shotsB_length, List.length_take]; simp [head6]; omega) (by simp [beBytes_length])

theorem saved_head (W H : Nat) (light shots : List Int) (n : Nat) (hn : n + 4 = (saved W H light shots).length) : (saved W H light shots).take n = headOf W H light shots := by
  unfold saved at hn ⊢
  rw [List.length_append, beBytes_length] at hn
  rw [show n = (headOf W H light shots).length from by omega, List.take_left]
theorem saved_tail (W H : Nat) (light shots : List Int) (n : Nat) (hn : n + 4 = (saved W H light shots).length) : (saved W H light shots).drop n = beBytes (sumOf (headOf W H light shots)).toNat 4 := by
  unfold saved at hn ⊢
  rw [List.length_append, beBytes_length] at hn
  rw [show n = (headOf W H light shots).length from by omega, List.drop_left]

theorem sum_back (l : List UInt8) : (beOf (beBytes (sumOf l).toNat 4) : Int) = sumOf l := by
  have := sumOf_range l
  rw [beOf_beBytes, Nat.mod_eq_of_lt (by omega)]
  omega
theorem light_back (x : Int) (h0 : 0 ≤ x) (h1 : x ≤ 1099511627776) : (beOf (beBytes x.toNat 6) : Int) = x := by
  rw [beOf_beBytes, Nat.mod_eq_of_lt (by omega)]; omega
theorem shot_back (x : Int) (h0 : 0 ≤ x) (h1 : x ≤ 1048576) : (beOf (beBytes x.toNat 3) : Int) = x := by
  rw [beOf_beBytes, Nat.mod_eq_of_lt (by omega)]; omega

theorem saved_front (W H : Nat) (light shots : List Int) (k : Nat) (h : k < 6) : (saved W H light shots)[k]? = (head6 W H)[k]? := by
  unfold saved headOf
  rw [List.append_assoc, List.append_assoc, List.getElem?_append_left (by simpa [head6] using h)]

/-- 'string(b)'. -/
theorem str_back {P : Program} {w : World} {v : Value} {l : List UInt8} (h : BytesAt w v l) (src dst e : TypeId) (hs : P.underlying src = some (.slice e)) (he : P.underlying e = some (.int .u8)) (hd : P.underlying dst = some .string) :
    (convert src dst v).run P w = .ok (.string ⟨l.toArray⟩) w := by
  rcases h.cases with ⟨rfl, rfl⟩ | ⟨b, off, cap, rfl, hb, hc⟩
  · exact run_convert_bytes_nil (w := w) src e hs he 0 0 dst hd
  · refine run_convert_bytes_back (P := P) w src dst e ⟨b, off, none⟩ cap l hs he hd fun j hj => ?_
    rw [Addr.add_lit, hc j hj, List.getElem?_eq_getElem hj]
    rfl

/-- A piece of a row that is read. -/
theorem bytes_cut {w : World} {b off cap n : Nat} {D : List UInt8} (hn : D.length = n) (hb : b < w.heap.size) (hc : ∀ j, j < D.length → w.cell? ⟨b, off + j, none⟩ = some (.int .u8 ((D[j]?.getD 0).toNat : Int)))
    (lo m : Nat) (hm : lo + m ≤ n) (hmc : m ≤ cap) (hcm : cap ≤ maxLen) (l : List UInt8) (hl : (D.drop lo).take m = l) : BytesAt w (.slice (some ⟨b, off + lo, none⟩) m cap) l := by
  subst hl
  have hlen : ((D.drop lo).take m).length = m := by rw [List.length_take, List.length_drop]; omega
  refine ⟨by simp, .inr ⟨b, off + lo, cap, by rw [hlen], by rw [hlen]; exact hmc, hcm, hb, fun j hj => ?_⟩⟩
  rw [List.length_map, hlen] at hj
  rw [Nat.add_assoc, hc (lo + j) (by omega), List.getElem?_map, List.getElem?_take, if_pos hj, List.getElem?_drop, List.getElem?_eq_getElem (by omega)]
  rfl

end Go.Proofs.Ytjjkgoekcpgilaa

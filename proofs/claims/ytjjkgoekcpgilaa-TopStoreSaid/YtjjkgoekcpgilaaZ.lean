/- TopStore: a film that is being made: its block, the two rows. -/
import Derived.Test.YtjjkgoekcpgilaaC
import Derived.Deep.AppendLies
namespace Go.Proofs.Ytjjkgoekcpgilaa
open Go.RowKit

/-- A row of ints that a call owns. -/
abbrev OwnI (w : World) (v : Value) (l : List Int) : Prop := w.ownsRow 0 3 1 v l.length (l.map (Value.int .i64))
theorem OwnI.at {w : World} {v : Value} {l : List Int} (h : OwnI w v l) : IntsAt w v l := owned_row h

structure Zone (B : Nat) (W H : Nat) (L S : List Int) (wr : World) (lv sv : Value) : Prop where
  res : Blk wr B #[.int .i64 0, .int .i64 0, .slice none 0 0, .slice none 0 0] 29
  film : Blk wr (B + 1) #[.int .i64 W, .int .i64 H, lv, sv] 29
  light : OwnI wr lv L
  shots : OwnI wr sv S
  lb : ∀ k, lv.ownBlock = some k → B + 2 ≤ k
  sb : ∀ k, sv.ownBlock = some k → B + 2 ≤ k
  ne : ∀ k, lv.ownBlock = some k → sv.ownBlock ≠ some k

theorem grown_drew_alloc {w w' : World} {o : Obj} {row : Option Nat} (h : (w.alloc o).drew.grownBy w' row) : w.grownBy w' row :=
  grown_none_trans (w1 := (w.alloc o).drew) ⟨rfl, rfl, rfl, by simp, fun k hk _ => Below.heap_alloc w o k hk⟩ h

theorem Fresh.alloc_drew {w : World} {o : Obj} {v v' : Value} (h : Fresh (w.alloc o).drew v v') : Fresh w v v' := h.of_le (by simp)

theorem Zone.light' {B W H : Nat} {L S : List Int} {x : Int} {w wr w3 : World} {lv sv v2 : Value} {o : Obj} (hz : Zone B W H L S wr lv sv) (hbr : Below B w wr)
    (h1 : w3.ownsRow 0 3 1 v2 (L.length + 1) (L.map (Value.int .i64) ++ [.int .i64 x])) (h2 : (wr.alloc o).drew.grownBy w3 lv.ownBlock) (h3 : Fresh (wr.alloc o).drew lv v2) :
    Zone B W H (L ++ [x]) S (w3.setCell ⟨B + 1, 2, none⟩ v2) v2 sv ∧ Below B w (w3.setCell ⟨B + 1, 2, none⟩ v2) := by
  have h2 := grown_drew_alloc h2
  have h3 := h3.alloc_drew
  have hlt := hz.film.lt
  have hsl := (lt_some hz.shots)
  have hne : ∀ k, lv.ownBlock = some k → B + 2 ≤ k := hz.lb
  have hv2 : ∀ k, v2.ownBlock = some k → B + 2 ≤ k := fun k hk => by
    rcases h3 with e | e
    · exact hne k (e ▸ hk)
    · have := e k hk; omega
  have hss : sv.ownBlock = none ∨ sv.ownBlock ≠ lv.ownBlock := by
    rcases he : lv.ownBlock with _ | k
    · rcases hs : sv.ownBlock with _ | k2
      · exact .inl rfl
      · exact .inr (by simp)
    · exact .inr (hz.ne k he)
  refine ⟨⟨?_, ?_, ?_, ?_, hv2, hz.sb, ?_⟩, ?_⟩
  · exact (hz.res.grown h2 (fun e => by have := hne _ e; omega)).set_other _ _ (by simp)
  · have := (hz.film.grown h2 (fun e => by have := hne _ e; omega)).set 2 v2
    simpa using this
  · refine ownsRow_setCell_other ?_ (fun e => by have := hv2 _ e; simp at this) _
    simpa using h1
  · exact ownsRow_setCell_other (hz.shots.kept h2 hss) (fun e => by have := hz.sb _ e; simp at this) _
  · intro k hk e
    rcases h3 with h3 | h3
    · exact hz.ne k (h3 ▸ hk) e
    · have := h3 k hk; have := hsl k e; omega
  · exact (hbr.grown h2 (by omega) (fun k hk => by have := hne k hk; omega)).setCell (by show B ≤ B + 1; omega) _

theorem Zone.shots' {B W H : Nat} {L S : List Int} {x : Int} {w wr w3 : World} {lv sv v2 : Value} {o : Obj} (hz : Zone B W H L S wr lv sv) (hbr : Below B w wr)
    (h1 : w3.ownsRow 0 3 1 v2 (S.length + 1) (S.map (Value.int .i64) ++ [.int .i64 x])) (h2 : (wr.alloc o).drew.grownBy w3 sv.ownBlock) (h3 : Fresh (wr.alloc o).drew sv v2) :
    Zone B W H L (S ++ [x]) (w3.setCell ⟨B + 1, 3, none⟩ v2) lv v2 ∧ Below B w (w3.setCell ⟨B + 1, 3, none⟩ v2) := by
  have h2 := grown_drew_alloc h2
  have h3 := h3.alloc_drew
  have hlt := hz.film.lt
  have hsl := (lt_some hz.light)
  have hne : ∀ k, sv.ownBlock = some k → B + 2 ≤ k := hz.sb
  have hv2 : ∀ k, v2.ownBlock = some k → B + 2 ≤ k := fun k hk => by
    rcases h3 with e | e
    · exact hne k (e ▸ hk)
    · have := e k hk; omega
  have hss : lv.ownBlock = none ∨ lv.ownBlock ≠ sv.ownBlock := by
    rcases he : lv.ownBlock with _ | k
    · exact .inl rfl
    · exact .inr (fun e => hz.ne k he e.symm)
  refine ⟨⟨?_, ?_, ?_, ?_, hz.lb, hv2, ?_⟩, ?_⟩
  · exact (hz.res.grown h2 (fun e => by have := hne _ e; omega)).set_other _ _ (by simp)
  · have := (hz.film.grown h2 (fun e => by have := hne _ e; omega)).set 3 v2
    simpa using this
  · exact ownsRow_setCell_other (hz.light.kept h2 hss) (fun e => by have := hz.lb _ e; simp at this) _
  · refine ownsRow_setCell_other ?_ (fun e => by have := hv2 _ e; simp at this) _
    simpa using h1
  · intro k hk e
    rcases h3 with h3 | h3
    · exact hz.ne k hk (h3 ▸ e)
    · have := h3 k e; have := hsl k hk; omega
  · exact (hbr.grown h2 (by omega) (fun k hk => by have := hne k hk; omega)).setCell (by show B ≤ B + 1; omega) _

end Go.Proofs.Ytjjkgoekcpgilaa

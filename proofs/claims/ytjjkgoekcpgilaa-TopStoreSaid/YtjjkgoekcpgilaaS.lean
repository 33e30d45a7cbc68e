/- TopStore: what the law keeps: the store, the sizes, the films; what each step leaves of it. -/
import Derived.Test.YtjjkgoekcpgilaaG
namespace Go.Proofs.Ytjjkgoekcpgilaa
open Go.RowKit

theorem info29 : (Try.prog.info? 29).map (fun i => (i.zero, i.size, i.bytes)) = some (some (.agg #[.int .i64 0, .int .i64 0, .slice none 0 0, .slice none 0 0]), 4, 64) := by kernel_rfl

/-- A film as it lies in memory. -/
structure FV where
  f : Film
  l : Value
  s : Value
def FV.cells (x : FV) : List Value := [.int .i64 x.f.W, .int .i64 x.f.H, x.l, x.s]

structure Part (w : World) (x : FV) : Prop where
  light : IntsAt w x.l x.f.light
  shots : IntsAt w x.s x.f.shots
  ok : x.f.ok
  lform : ∃ p n c, x.l = .slice p n c
  sform : ∃ p n c, x.s = .slice p n c

/-- Two values that lie in no one block. -/
def Apart (u v : Value) : Prop := ∀ k, u.ownBlock = some k → v.ownBlock ≠ some k
theorem Apart.symm {u v : Value} (h : Apart u v) : Apart v u := fun k hk e => h k e hk

structure St (w wr : World) (S : Nat) (xs : List FV) (D : List UInt8) (Z : List Int) (sv zv fv : Value) : Prop where
  store : Blk wr S #[sv] 25
  bytes : OwnB wr sv D
  sizes : OwnI wr zv Z
  films : wr.ownsRow 0 29 4 fv xs.length (xs.flatMap FV.cells)
  each : ∀ x ∈ xs, Part wr x
  sS : sv.ownBlock ≠ some S
  zS : zv.ownBlock ≠ some S
  fS : fv.ownBlock ≠ some S
  sz : Apart sv zv
  sf : Apart sv fv
  zf : Apart zv fv
  xl : ∀ x ∈ xs, x.l.ownBlock ≠ some S ∧ Apart x.l sv ∧ Apart x.l zv ∧ Apart x.l fv
  xs' : ∀ x ∈ xs, x.s.ownBlock ≠ some S ∧ Apart x.s sv ∧ Apart x.s zv ∧ Apart x.s fv
  lS : w.heap.size ≤ S
  ls : ∀ k, sv.ownBlock = some k → w.heap.size ≤ k
  lz : ∀ k, zv.ownBlock = some k → w.heap.size ≤ k
  lf : ∀ k, fv.ownBlock = some k → w.heap.size ≤ k
  below : Below w.heap.size w wr

theorem own_kept {w w' : World} {e : TypeId} {sz n : Nat} {v : Value} {l : List Value} (h : w.ownsRow 0 e sz v n l) (hb : ∀ k, v.ownBlock = some k → k < w.heap.size → w'.heap[k]? = w.heap[k]?) : w'.ownsRow 0 e sz v n l := by
  refine ⟨h.1, ?_⟩
  rcases h.2 with h2 | ⟨g, cap, cur, rfl, h3, h4, h5⟩
  · exact .inl h2
  · exact .inr ⟨g, cap, cur, rfl, h3, (hb g rfl (lt_of_block h4)).trans h4, h5⟩

theorem Part.kept {w w' : World} {x : FV} (h : Part w x) (hs : w.heap.size ≤ w'.heap.size) (h1 : ∀ k, x.l.ownBlock = some k → k < w.heap.size → w'.heap[k]? = w.heap[k]?)
    (h2 : ∀ k, x.s.ownBlock = some k → k < w.heap.size → w'.heap[k]? = w.heap[k]?) : Part w' x :=
  ⟨RowAt.kept h.light hs h1, RowAt.kept h.shots hs h2, h.ok, h.lform, h.sform⟩

theorem Part.lt {w : World} {x : FV} (h : Part w x) : (∀ k, x.l.ownBlock = some k → k < w.heap.size) ∧ (∀ k, x.s.ownBlock = some k → k < w.heap.size) := ⟨RowAt.lt h.light, RowAt.lt h.shots⟩

/-- Whatever leaves the old blocks alone. -/
theorem St.mono {w wr w' : World} {S : Nat} {xs : List FV} {D : List UInt8} {Z : List Int} {sv zv fv : Value} (h : St w wr S xs D Z sv zv fv) (hb : Below wr.heap.size wr w') : St w w' S xs D Z sv zv fv :=
  ⟨h.store.below hb h.store.lt, own_kept h.bytes fun k _ hk => hb.block k hk, own_kept h.sizes fun k _ hk => hb.block k hk, own_kept h.films fun k _ hk => hb.block k hk,
    fun x hx => (h.each x hx).kept hb.size (fun k _ hk => hb.block k hk) (fun k _ hk => hb.block k hk), h.sS, h.zS, h.fS, h.sz, h.sf, h.zf, h.xl, h.xs', h.lS, h.ls, h.lz, h.lf, h.below.trans (hb.mono h.below.size)⟩

/-- Behind Keep. -/
theorem St.keep {w wr w' : World} {S : Nat} {xs : List FV} {D D' : List UInt8} {Z : List Int} {sv sv' zv fv : Value} (h : St w wr S xs D Z sv zv fv)
    (hS : Blk w' S #[sv'] 25) (hD : OwnB w' sv' D') (hne : sv'.ownBlock ≠ some S) (hf : Fresh wr sv sv') (hk : Kept2 S sv.ownBlock wr w') : St w w' S xs D' Z sv' zv fv := by
  have other : ∀ v : Value, v.ownBlock ≠ some S → Apart v sv → ∀ k, v.ownBlock = some k → k < wr.heap.size → w'.heap[k]? = wr.heap[k]? := fun v h1 h2 k hk' hlt =>
    hk.block k hlt (fun e => h1 (e ▸ hk')) (fun e => h2 k hk' e.symm)
  have apart : ∀ v : Value, (∀ k, v.ownBlock = some k → k < wr.heap.size) → Apart v sv → Apart v sv' := fun v hlt h2 k hv e => by
    rcases hf with e' | e'
    · exact h2 k hv (e' ▸ e)
    · have := e' k e; have := hlt k hv; omega
  have hzl := lt_some h.sizes
  have hfl := lt_some h.films
  refine ⟨hS, hD, own_kept h.sizes (other zv h.zS h.sz.symm), own_kept h.films (other fv h.fS h.sf.symm), fun x hx => ?_, hne, h.zS, h.fS, (apart zv hzl h.sz.symm).symm, (apart fv hfl h.sf.symm).symm, h.zf, fun x hx => ?_, fun x hx => ?_, h.lS, ?_, h.lz, h.lf, ?_⟩
  · exact (h.each x hx).kept hk.size (other _ (h.xl x hx).1 (h.xl x hx).2.1) (other _ (h.xs' x hx).1 (h.xs' x hx).2.1)
  · exact ⟨(h.xl x hx).1, apart _ (h.each x hx).lt.1 (h.xl x hx).2.1, (h.xl x hx).2.2⟩
  · exact ⟨(h.xs' x hx).1, apart _ (h.each x hx).lt.2 (h.xs' x hx).2.1, (h.xs' x hx).2.2⟩
  · intro k hk'
    rcases hf with e | e
    · exact h.ls k (e ▸ hk')
    · have := e k hk'; have := h.below.size; omega
  · refine h.below.trans ⟨hk.os, hk.tape, hk.output, hk.size, fun k hk' => ?_⟩
    exact hk.block k (Nat.lt_of_lt_of_le hk' h.below.size) (fun e => by have := h.lS; omega) (fun e => by have := h.ls k e.symm; omega)

/-- Behind an append to the sizes. -/
theorem St.size {w wr w' : World} {S : Nat} {xs : List FV} {D : List UInt8} {Z Z' : List Int} {sv zv zv' fv : Value} (h : St w wr S xs D Z sv zv fv)
    (hZ : OwnI w' zv' Z') (hg : wr.grownBy w' zv.ownBlock) (hf : Fresh wr zv zv') : St w w' S xs D Z' sv zv' fv := by
  have other : ∀ v : Value, Apart v zv → ∀ k, v.ownBlock = some k → k < wr.heap.size → w'.heap[k]? = wr.heap[k]? := fun v h2 k hk' hlt =>
    hg.block k hlt (fun e => h2 k hk' e.symm)
  have apart : ∀ v : Value, (∀ k, v.ownBlock = some k → k < wr.heap.size) → Apart v zv → Apart v zv' := fun v hlt h2 k hv e => by
    rcases hf with e' | e'
    · exact h2 k hv (e' ▸ e)
    · have := e' k e; have := hlt k hv; omega
  have hsl := lt_some h.bytes
  have hfl := lt_some h.films
  have hSl := h.store.lt
  refine ⟨h.store.grown hg h.zS, own_kept h.bytes (other sv h.sz), hZ, own_kept h.films (other fv h.zf.symm), fun x hx => ?_, h.sS, ?_, h.fS, apart sv hsl h.sz, h.sf, (apart fv hfl h.zf.symm).symm, fun x hx => ?_, fun x hx => ?_, h.lS, h.ls, ?_, h.lf, ?_⟩
  · exact (h.each x hx).kept hg.size (other _ (h.xl x hx).2.2.1) (other _ (h.xs' x hx).2.2.1)
  · intro e
    rcases hf with e' | e'
    · exact h.zS (e' ▸ e)
    · have := e' S e; omega
  · exact ⟨(h.xl x hx).1, (h.xl x hx).2.1, apart _ (h.each x hx).lt.1 (h.xl x hx).2.2.1, (h.xl x hx).2.2.2⟩
  · exact ⟨(h.xs' x hx).1, (h.xs' x hx).2.1, apart _ (h.each x hx).lt.2 (h.xs' x hx).2.2.1, (h.xs' x hx).2.2.2⟩
  · intro k hk'
    rcases hf with e | e
    · exact h.lz k (e ▸ hk')
    · have := e k hk'; have := h.below.size; omega
  · exact h.below.trans ⟨hg.os, hg.tape, hg.output, hg.size, fun k hk' => hg.block k (Nat.lt_of_lt_of_le hk' h.below.size) (fun e => by have := h.lz k e.symm; omega)⟩

/-- Behind an append to the films. -/
theorem St.film {w wr w' : World} {S : Nat} {xs : List FV} {x : FV} {D : List UInt8} {Z : List Int} {sv zv fv fv' : Value} (h : St w wr S xs D Z sv zv fv)
    (hF : w'.ownsRow 0 29 4 fv' (xs ++ [x]).length ((xs ++ [x]).flatMap FV.cells)) (hg : wr.grownBy w' fv.ownBlock) (hf : Fresh wr fv fv')
    (hx : Part wr x) (hxl : x.l.ownBlock ≠ some S ∧ Apart x.l sv ∧ Apart x.l zv ∧ Apart x.l fv) (hxs : x.s.ownBlock ≠ some S ∧ Apart x.s sv ∧ Apart x.s zv ∧ Apart x.s fv) : St w w' S (xs ++ [x]) D Z sv zv fv' := by
  have other : ∀ v : Value, Apart v fv → ∀ k, v.ownBlock = some k → k < wr.heap.size → w'.heap[k]? = wr.heap[k]? := fun v h2 k hk' hlt =>
    hg.block k hlt (fun e => h2 k hk' e.symm)
  have apart : ∀ v : Value, (∀ k, v.ownBlock = some k → k < wr.heap.size) → Apart v fv → Apart v fv' := fun v hlt h2 k hv e => by
    rcases hf with e' | e'
    · exact h2 k hv (e' ▸ e)
    · have := e' k e; have := hlt k hv; omega
  have hsl := lt_some h.bytes
  have hzl := lt_some h.sizes
  have hSl := h.store.lt
  have all : ∀ y ∈ xs ++ [x], Part wr y ∧ (y.l.ownBlock ≠ some S ∧ Apart y.l sv ∧ Apart y.l zv ∧ Apart y.l fv) ∧ (y.s.ownBlock ≠ some S ∧ Apart y.s sv ∧ Apart y.s zv ∧ Apart y.s fv) := by
    intro y hy
    rcases List.mem_append.1 hy with hy | hy
    · exact ⟨h.each y hy, h.xl y hy, h.xs' y hy⟩
    · rw [List.mem_singleton.1 hy]; exact ⟨hx, hxl, hxs⟩
  refine ⟨h.store.grown hg h.fS, own_kept h.bytes (other sv h.sf), own_kept h.sizes (other zv h.zf), hF, fun y hy => ?_, h.sS, h.zS, ?_, h.sz, apart sv hsl h.sf, apart zv hzl h.zf, fun y hy => ?_, fun y hy => ?_, h.lS, h.ls, h.lz, ?_, ?_⟩
  · obtain ⟨a, b, c⟩ := all y hy
    exact a.kept hg.size (other _ b.2.2.2) (other _ c.2.2.2)
  · intro e
    rcases hf with e' | e'
    · exact h.fS (e' ▸ e)
    · have := e' S e; omega
  · obtain ⟨a, b, c⟩ := all y hy
    exact ⟨b.1, b.2.1, b.2.2.1, apart _ a.lt.1 b.2.2.2⟩
  · obtain ⟨a, b, c⟩ := all y hy
    exact ⟨c.1, c.2.1, c.2.2.1, apart _ a.lt.2 c.2.2.2⟩
  · intro k hk'
    rcases hf with e | e
    · exact h.lf k (e ▸ hk')
    · have := e k hk'; have := h.below.size; omega
  · exact h.below.trans ⟨hg.os, hg.tape, hg.output, hg.size, fun k hk' => hg.block k (Nat.lt_of_lt_of_le hk' h.below.size) (fun e => by have := h.lf k e.symm; omega)⟩

end Go.Proofs.Ytjjkgoekcpgilaa

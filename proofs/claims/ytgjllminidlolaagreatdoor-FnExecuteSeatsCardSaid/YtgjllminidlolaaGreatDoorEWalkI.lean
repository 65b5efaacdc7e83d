/- Contracts: obey of a known line. -/
import Derived.Test.YtgjllminidlolaaGreatDoorEWalkH
set_option linter.unusedVariables false
namespace Go.Proofs.YtgjllminidlolaaGreatDoor
open Go.RowKit

theorem grown_later {w W W' : World} {R g : Nat} (h : w.grownBy W (some R)) (k : W.grownBy W' (some g)) (hg : w.heap.size ≤ g) : w.grownBy W' (some R) :=
  ⟨k.os.trans h.os, k.tape.trans h.tape, k.output.trans h.output, Nat.le_trans h.size k.size, fun i hi hr => (k.block i (Nat.lt_of_lt_of_le hi h.size) (fun e => by injection e with e; omega)).trans (h.block i hi hr)⟩
theorem size_setCell (W : World) (a : Addr) (v : Value) : (W.setCell a v).heap.size = W.heap.size := by simp [World.setCell]
/-- The end of obey. -/
theorem obey_end {w0 w w4 WD : World} {R g : Nat} {s' : LSt} {av : Nat → Prop} {v5 : Value} {out' : List ByteArray} {tmps : Array Value} (hg : g = w.heap.size) (hw0 : w0.heap.size ≤ R) (hR : R < w.heap.size) (hG4 : w.grownBy w4 (some R)) (hS4 : St w0 R s' (fun j => av j ∨ j = g) w4)
    (hG5 : w4.grownBy WD (some g)) (hO : OwnE 1 encS 9 w.heap.size WD v5 out') (hc : ∀ o, (WD.alloc o).cell? ⟨g, 0, none⟩ = some v5)
    (hres : ∀ W, W.cell? ⟨g, 0, none⟩ = some v5 → (results Tryz.f36 tmps).run Tryz.prog W = .ok v5 W) (o : Obj) :
    ∃ v, (results Tryz.f36 tmps).run Tryz.prog (WD.alloc o) = .ok v (WD.alloc o) ∧ Obeyed w0 R s' out' av w (.returned v) (WD.alloc o) := by
  subst hg
  refine ⟨v5, hres _ (hc o), v5, rfl, hO.alloc o, grown_trans (grown_later hG4 hG5 (Nat.le_refl _)) (World.grownBy_alloc WD o _), ?_⟩
  have h1 := hS4.kept hG5 (fun i hi => by injection hi with hi; subst hi; exact ⟨.inr rfl, by omega⟩)
  exact (h1.below (below_alloc (Below.refl _ _) o)).fewer (fun j _ hj => .inl hj)

set_option maxRecDepth 20000 in
set_option maxHeartbeats 3200000 in
theorem obey_run (w0 : World) (R : Nat) (s s' : LSt) (av : Nat → Prop) (l : ByteArray) (nw : Int) (k : Nat) (ns : List Int) (out out' : List ByteArray) (ok : Bool) (w : World) (hs : St w0 R s av w) (ha : ∀ j, w.heap.size ≤ j → ¬ av j)
    (hp : ∀ W, Below w.heap.size w W → Calls Tryz.prog 67 #[.string l] W (ParseYes nw k ns W))
    (hk : ∀ (W : World) (av' : Nat → Prop) (A : Option Addr) (n c : Nat), n = ns.length → (∀ j, W.heap.size ≤ j → ¬ av' j) → St w0 R s av' W → SlE 1 encI W A n ns → Calls Tryz.prog k #[.pointer (some ⟨R, 0, none⟩), .slice A n c] W (Ran w0 R s' out ok av' W))
    (hcf : ∀ (args : Array Value) (W : World), (callFunc k args).run Tryz.prog W = .ok (.enter k args) W)
    (ho : (ok = true ∧ out' = out) ∨ (ok = false ∧ out' = [bs noL])) :
    Calls Tryz.prog 36 #[.pointer (some ⟨R, 0, none⟩), .string l] w (Obeyed w0 R s' out' av w) := by
  have HS := Lib.hid hs
  have HP := Lib.hid hp
  have HK := Lib.hid hk
  have HA := Lib.hid ha
  have HO := Lib.hid ho
  have HB0 := Lib.hid (below_alloc (Below.refl w.heap.size w) (.cells #[.slice none 0 0] 60))
  have HSV := Lib.hid (hs.fewer (av' := fun j => av j ∨ j = w.heap.size) (fun j hj hb => by rcases hb with hb | hb; exact hb; omega))
  clear hs hp hk ha ho
  have hmf : ∀ (fn : Fn) (first cap : Array Value) (w : World), (Instr.makeFunc fn first cap).run Tryz.prog w = .ok (.func fn first cap) w := fun _ _ _ _ => rfl
  go_enter_defers Tryz.func36, Tryz.ntmps36
  go_wp2_with fail
  refine (HP.out _ HB0.out).mono ?_
  rintro e w2 ⟨v, rfl, hown, hb2⟩
  obtain ⟨n, hn⟩ : ∃ n, ns.length = n := ⟨_, rfl⟩
  obtain ⟨A, c, rfl, hsl, -⟩ := hown.slc encI_len hn
  have hgs : (w.alloc (.cells #[.slice none 0 0] 60)).heap.size = w.heap.size + 1 := by
    show (w.heap.push _).size = _
    rw [Array.size_push]
  have hsz2 := hb2.size
  have hg2 : w.heap.size < w2.heap.size := by omega
  have hc2 : w2.cell? ⟨w.heap.size, 0, none⟩ = some (.slice none 0 0) := by
    rw [hb2.cell (by show w.heap.size < _; omega)]
    simp
  have hz2 : w2.frozen? ⟨w.heap.size, 0, none⟩ = false := by
    rw [hb2.frozen (by show w.heap.size < _; omega)]
    simp
  have HB2 := Lib.hid (below_trans HB0.out hb2)
  have HSL2 := Lib.hid hsl
  have HN := Lib.hid hn
  clear hb2 HB0 hown hsl hn
  go_wp2_with fail
  have hW3 : (w2.alloc (.cells #[.int .i64 nw, .func (.func k) #[] #[]] 113)).heap.size = w2.heap.size + 1 := by
    show (w2.heap.push _).size = _
    rw [Array.size_push]
  have hRw : R < w.heap.size := HS.out.2.1
  have hc3 : (w2.alloc (.cells #[.int .i64 nw, .func (.func k) #[] #[]] 113)).cell? ⟨w.heap.size, 0, none⟩ = some (.slice none 0 0) := by rw [World.cell?_alloc_lt _ _ _ hg2]; exact hc2
  have hz3 : (w2.alloc (.cells #[.int .i64 nw, .func (.func k) #[] #[]] 113)).frozen? ⟨w.heap.size, 0, none⟩ = false := by rw [(below_alloc (Below.refl w2.heap.size w2) _).frozen hg2]; exact hz2
  have HB3 := Lib.hid (below_alloc HB2.out (.cells #[.int .i64 nw, .func (.func k) #[] #[]] 113))
  have HSL3 := Lib.hid (HSL2.out.alloc (.cells #[.int .i64 nw, .func (.func k) #[] #[]] 113))
  generalize w2.alloc (.cells #[.int .i64 nw, .func (.func k) #[] #[]] 113) = W3 at *
  refine (HK.out W3 (fun j => av j ∨ j = w.heap.size) A n c HN.out.symm (fun j hj hb => by rcases hb with hb | hb; exact HA.out j (by omega) hb; omega) (HSV.out.below HB3.out) HSL3.out).mono ?_
  rintro e w4 ⟨v4, rfl, hown4, hg4, hst4⟩
  obtain ⟨n4, hn4⟩ : ∃ n4, out.length = n4 := ⟨_, rfl⟩
  obtain ⟨A4, c4, rfl, -, -⟩ := hown4.slc encS_len hn4
  have hne : some R ≠ some w.heap.size := fun h => by injection h with h; omega
  have hgW3 : w.heap.size < W3.heap.size := by omega
  have hc4 : w4.cell? ⟨w.heap.size, 0, none⟩ = some (.slice none 0 0) := by rw [grown_cell hg4 hgW3 hne]; exact hc3
  have hz4 : w4.frozen? ⟨w.heap.size, 0, none⟩ = false := by rw [grown_frozen hg4 hgW3 hne]; exact hz3
  have hgw4 : w.heap.size < w4.heap.size := Nat.lt_of_lt_of_le hgW3 hg4.size
  have HG4 := Lib.hid (grown_trans (grown_of_below HB3.out (some R)) hg4)
  have HO4 := Lib.hid hown4
  have HS4 := Lib.hid hst4
  clear hg4 hown4 hst4 hn4 hc2 hz2 hc3 hz3
  rcases HO.out with ⟨rfl, rfl⟩ | ⟨rfl, rfl⟩
  · have hG5 := grown_trans (grown_setCell w4 ⟨w.heap.size, 0, none⟩ (.slice A4 n4 c4)) (grown_setCell (w4.setCell ⟨w.heap.size, 0, none⟩ (.slice A4 n4 c4)) ⟨w.heap.size, 0, none⟩ (.slice A4 n4 c4))
    have hO5 := (HO4.out.apart hG5 (noBad_ne (bad := fun i => i = w.heap.size) (fun i hi hb => by have := (HO4.out.lt i hi).1; omega) rfl)).base_le (base' := w.heap.size) (by omega)
    have hc5 : ∀ o, ((((w4.setCell ⟨w.heap.size, 0, none⟩ (.slice A4 n4 c4)).setCell ⟨w.heap.size, 0, none⟩ (.slice A4 n4 c4))).alloc o).cell? ⟨w.heap.size, 0, none⟩ = some (.slice A4 n4 c4) := fun o => by
      rw [World.cell?_alloc_lt _ _ _ (by rw [size_setCell, size_setCell]; exact hgw4)]
      exact World.cell?_setCell_same _ _ _ (World.cell?_setCell_same _ _ _ hc4)
    have H5 := Lib.hid (And.intro hG5 (And.intro hO5 hc5))
    clear hG5 hO5 hc5
    go_wp2_with fail
    obtain ⟨hG5, hO5, hc5⟩ := H5.out
    refine leaves_cons (f := 66) (args := #[.pointer (some ⟨w.heap.size, 0, none⟩)]) (by simp) (by simp [go_sem]) ?_
    refine (catch_idle w.heap.size _).mono ?_
    rintro e u' w'' ⟨rfl, rfl, rfl⟩
    refine obey_end (g := w.heap.size) rfl HS.out.1 hRw HG4.out HS4.out hG5 hO5 hc5 (fun W h => ?_) _
    simp [results, Tryz.results36, go_sem, h]
  · have hG5 := grown_trans (grown_trans (grown_trans (grown_setCell w4 ⟨w.heap.size, 0, none⟩ (.slice A4 n4 c4)) (grown_setCell _ ⟨w.heap.size, 0, none⟩ (.slice (some ⟨w4.heap.size, 0, none⟩) 1 1))) (grown_setCell _ ⟨w.heap.size, 0, none⟩ (.slice (some ⟨w4.heap.size, 0, none⟩) 1 1))) (World.grownBy_alloc _ (.cells #[.string (bs noL)] 9) (some w.heap.size))
    have hO5 := own_new' (enc := encS) (k := 1) (((w4.setCell ⟨w.heap.size, 0, none⟩ (.slice A4 n4 c4)).setCell ⟨w.heap.size, 0, none⟩ (.slice (some ⟨w4.heap.size, 0, none⟩) 1 1)).setCell ⟨w.heap.size, 0, none⟩ (.slice (some ⟨w4.heap.size, 0, none⟩) 1 1)) 9 w.heap.size (by rw [size_setCell, size_setCell, size_setCell]; omega) encS_len [bs noL] #[.string (bs noL)] rfl (by unfold maxLen; simp) rfl (g := w4.heap.size) (by rw [size_setCell, size_setCell, size_setCell])
    have hc5 : ∀ o, (((((w4.setCell ⟨w.heap.size, 0, none⟩ (.slice A4 n4 c4)).setCell ⟨w.heap.size, 0, none⟩ (.slice (some ⟨w4.heap.size, 0, none⟩) 1 1)).setCell ⟨w.heap.size, 0, none⟩ (.slice (some ⟨w4.heap.size, 0, none⟩) 1 1)).alloc (.cells #[.string (bs noL)] 9)).alloc o).cell? ⟨w.heap.size, 0, none⟩ = some (.slice (some ⟨w4.heap.size, 0, none⟩) 1 1) := fun o => by
      have hx : (((w4.setCell ⟨w.heap.size, 0, none⟩ (.slice A4 n4 c4)).setCell ⟨w.heap.size, 0, none⟩ (.slice (some ⟨w4.heap.size, 0, none⟩) 1 1)).setCell ⟨w.heap.size, 0, none⟩ (.slice (some ⟨w4.heap.size, 0, none⟩) 1 1)).heap.size = w4.heap.size := by rw [size_setCell, size_setCell, size_setCell]
      rw [(below_alloc (below_alloc (Below.refl _ (((w4.setCell ⟨w.heap.size, 0, none⟩ (.slice A4 n4 c4)).setCell ⟨w.heap.size, 0, none⟩ (.slice (some ⟨w4.heap.size, 0, none⟩) 1 1)).setCell ⟨w.heap.size, 0, none⟩ (.slice (some ⟨w4.heap.size, 0, none⟩) 1 1))) _) _).cell (by rw [hx]; exact hgw4)]
      exact World.cell?_setCell_same _ _ _ (World.cell?_setCell_same _ _ _ (World.cell?_setCell_same _ _ _ hc4))
    have H5 := Lib.hid (And.intro hG5 (And.intro hO5 hc5))
    clear hG5 hO5 hc5
    go_wp2_with fail
    obtain ⟨hG5, hO5, hc5⟩ := H5.out
    refine leaves_cons (f := 66) (args := #[.pointer (some ⟨w.heap.size, 0, none⟩)]) (by simp) (by simp [go_sem]) ?_
    refine (catch_idle w.heap.size _).mono ?_
    rintro e u' w'' ⟨rfl, rfl, rfl⟩
    refine obey_end (g := w.heap.size) rfl HS.out.1 hRw HG4.out HS4.out hG5 hO5 hc5 (fun W h => ?_) _
    simp [results, Tryz.results36, go_sem, h]
end Go.Proofs.YtgjllminidlolaaGreatDoor

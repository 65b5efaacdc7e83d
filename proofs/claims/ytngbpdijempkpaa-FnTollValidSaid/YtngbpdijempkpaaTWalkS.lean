/- Contracts: TollSum of both. -/
import Derived.Test.YtngbpdijempkpaaTWalkC
set_option linter.unusedVariables false
namespace Go.Proofs.Ytngbpdijempkpaa
open Go.RowKit

/-- What TollSum returns. -/
def SumIs (xs : List T3) (free f t : Int) (paid : List Int) (r : Int) : Prop := (PayOk xs free f t paid ∧ r = sumC (gAt xs) paid) ∨ (¬ PayOk xs free f t paid ∧ r = -1)
theorem pay_idx {xs : List T3} {free f t : Int} {paid : List Int} {len : Nat} (h : PayOk xs free f t paid) (hl : xs.length = len) : IdxOf len paid :=
  idx_sub (way_idx (f := inW f t) h.1.1.1 hl) (fun x hx => h.2.1.subset hx)

set_option maxRecDepth 20000 in
set_option maxHeartbeats 1600000 in
theorem implTollSum_any (A B : Option Addr) (len cap m c : Nat) (xs : List T3) (free f t r : Int) (paid : List Int) (w : World) (h : SlE 3 enc3 w A len xs) (h' : SlE 1 encI w B m paid) (hn : len ≤ 1048576) (hm : m ≤ 1048576) (hr : SumIs xs free f t paid r) :
    Calls Try.prog 42 #[.slice A len cap, .int .i64 free, .int .i64 f, .int .i64 t, .slice B m c] w (Only (.int .i64 r) w) := by
  have H := Lib.hid h
  have H' := Lib.hid h'
  have HXL := Lib.hid h.len
  clear h h'
  rcases hr with ⟨hP, rfl⟩ | ⟨hP, rfl⟩
  · have HP := Lib.hid hP
    clear hP
    go_enter Try.func42, Try.ntmps42
    go_wp2_with fail
    refine (implTollValid_any A B len cap m c xs free f t paid w H.out H'.out hn hm).mono ?_
    intro e w2 hp
    obtain ⟨rfl, hb2⟩ := hp.yes HP.out
    have HB2 := Lib.hid hb2
    clear hb2 hp
    go_wp2_with fail
    refine (tollsOf_any A B len cap m c xs paid w2 (H.out.below HB2.out) (H'.out.below HB2.out) (by omega) (by omega) HP.out.1.1.1 (pay_idx HP.out HXL.out)).mono ?_
    rintro e w3 ⟨rfl, rfl⟩
    go_wp2
    go_ret
    exact ⟨rfl, HB2.out⟩
  · have HP := Lib.hid hP
    clear hP
    go_enter Try.func42, Try.ntmps42
    go_wp2_with fail
    refine (implTollValid_any A B len cap m c xs free f t paid w H.out H'.out hn hm).mono ?_
    intro e w2 hp
    obtain ⟨rfl, hb2⟩ := hp.no HP.out
    have HB2 := Lib.hid hb2
    clear hb2 hp
    go_wp2
    go_ret
    exact ⟨rfl, HB2.out⟩

set_option maxRecDepth 20000 in
set_option maxHeartbeats 1600000 in
theorem specTollSum_any (A B : Option Addr) (len cap m c : Nat) (xs : List T3) (free f t r : Int) (paid : List Int) (w : World) (h : SlE 3 enc3 w A len xs) (h' : SlE 1 encI w B m paid) (hn : len ≤ 1048576) (hm : m ≤ 1048576) (hr : SumIs xs free f t paid r) :
    Calls Try.prog 44 #[.slice A len cap, .int .i64 free, .int .i64 f, .int .i64 t, .slice B m c] w (Only (.int .i64 r) w) := by
  have H := Lib.hid h
  have H' := Lib.hid h'
  have HXL := Lib.hid h.len
  have HL := Lib.hid h'.len
  clear h h'
  rcases hr with ⟨hP, rfl⟩ | ⟨hP, rfl⟩
  · have HP := Lib.hid hP
    have HI := Lib.hid (pay_idx hP HXL.out)
    have hbd : ∀ k, (0 : Int) ≤ sumC (gAt xs) (paid.take k) ∧ sumC (gAt xs) (paid.take k) ≤ 99 * ((paid.take k).length : Nat) := fun k => sumC_bd _ fun i hi => by
      obtain ⟨j, rfl, hj, e, _, _, _, _, h1, h2⟩ := gate_of hP.1.1.1 (hP.2.1.subset (List.mem_of_mem_take hi))
      exact ⟨h1, h2⟩
    have HBD := Lib.hid hbd
    clear hP hbd
    go_enter Try.func44, Try.ntmps44
    go_wp2_with fail
    refine (specTollValid_any A B len cap m c xs free f t paid w H.out H'.out hn hm).mono ?_
    intro e w2 hp
    obtain ⟨rfl, hb2⟩ := hp.yes HP.out
    have HB2 := Lib.hid hb2
    clear hb2 hp
    go_wp2_with fail
    go_loop [12, 11] (fun j s => ∃ k : Nat, k ≤ m ∧ j = .int .i64 k ∧ s = .int .i64 (sumC (gAt xs) (paid.take k))) (fun j _ => m - (intOf j).toNat)
    case atStart => exact ⟨0, by omega, rfl, rfl⟩
    case round =>
      obtain ⟨k, hk, rfl, rfl⟩ := hrel
      by_cases hlt : k < m
      · obtain ⟨b, off, q, rfl, hbl, hx, hd, h0⟩ := at1 H'.out HB2.out hlt
        obtain ⟨hq0, hq1⟩ := HI.out q (mem_at hx)
        obtain ⟨q, rfl⟩ : ∃ n : Nat, q = n := ⟨q.toNat, by omega⟩
        have hq1' : q < len := by omega
        obtain ⟨b1, off1, x, y, z, rfl, hbl1, hx1, hd1, g0, g1, g2⟩ := at3 H.out HB2.out hq1'
        have hgq := HP.out.1.1.1.2 q _ hx1
        unfold GOk at hgq
        simp only at hgq
        obtain ⟨hza, hzb⟩ : 1 ≤ z ∧ z ≤ 99 := ⟨by omega, by omega⟩
        have HX := sumC_next (g := gAt xs) hx
        rw [gAt_at hx1] at HX
        have HX := Lib.hid HX
        have hb := HBD.out k
        have hl : (paid.take k).length ≤ k := List.length_take_le _ _
        clear hx hd hx1 hd1 hgq
        generalize sumC (gAt xs) (paid.take k) = s at *
        go_wp2
        go_round
        case rel => exact ⟨k + 1, by omega, by go_num, by rw [HX.out]⟩
        case measure => simp [intOf]; omega
      · have hx : paid.take k = paid := List.take_of_length_le (by have := HL.out; omega)
        rw [hx]
        clear hx
        go_wp2
        go_ret
        exact ⟨rfl, HB2.out⟩
  · have HP := Lib.hid hP
    clear hP
    go_enter Try.func44, Try.ntmps44
    go_wp2_with fail
    refine (specTollValid_any A B len cap m c xs free f t paid w H.out H'.out hn hm).mono ?_
    intro e w2 hp
    obtain ⟨rfl, hb2⟩ := hp.no HP.out
    have HB2 := Lib.hid hb2
    clear hb2 hp
    go_wp2
    go_ret
    exact ⟨rfl, HB2.out⟩

theorem tsum_both (free f t : Int) (xs : List T3) (ps : List Int) : ∃ r : Int,
    (∀ (A : Option Addr) (len c : Nat) (B : Option Addr) (m d : Nat) (w : World), SlE 3 enc3 w A len xs → len ≤ 1048576 → len ≤ c → SlE 1 encI w B m ps → m ≤ 1048576 → m ≤ d → Calls Try.prog 44 #[.slice A len c, .int .i64 free, .int .i64 f, .int .i64 t, .slice B m d] w (Only (.int .i64 r) w)) ∧
    (∀ (A : Option Addr) (len c : Nat) (B : Option Addr) (m d : Nat) (w : World), SlE 3 enc3 w A len xs → len ≤ 1048576 → len ≤ c → SlE 1 encI w B m ps → m ≤ 1048576 → m ≤ d → Calls Try.prog 42 #[.slice A len c, .int .i64 free, .int .i64 f, .int .i64 t, .slice B m d] w (Only (.int .i64 r) w)) := by
  by_cases hP : PayOk xs free f t ps
  · exact ⟨_, fun A len c B m d w h hl _ h' hl' _ => specTollSum_any A B len c m d xs free f t _ ps w h h' hl hl' (.inl ⟨hP, rfl⟩), fun A len c B m d w h hl _ h' hl' _ => implTollSum_any A B len c m d xs free f t _ ps w h h' hl hl' (.inl ⟨hP, rfl⟩)⟩
  · exact ⟨_, fun A len c B m d w h hl _ h' hl' _ => specTollSum_any A B len c m d xs free f t _ ps w h h' hl hl' (.inr ⟨hP, rfl⟩), fun A len c B m d w h hl _ h' hl' _ => implTollSum_any A B len c m d xs free f t _ ps w h h' hl hl' (.inr ⟨hP, rfl⟩)⟩
end Go.Proofs.Ytngbpdijempkpaa

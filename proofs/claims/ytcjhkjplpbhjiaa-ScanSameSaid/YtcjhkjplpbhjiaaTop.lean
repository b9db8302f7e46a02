/- Contracts of scan.Marks, scan.Order and scan.Doubled. -/
import Derived.Test.YtcjhkjplpbhjiaaParted
import Derived.Test.YtcjhkjplpbhjiaaRight
import Derived.Test.YtcjhkjplpbhjiaaTime
namespace Go.Proofs.Ytcjhkjplpbhjiaa
open Go.RowKit Go.Proofs Go.Sort
set_option maxRecDepth 100000

def errR (l : List Scn) : Int := if okL l then 0 else 2
def marksR (l : List Scn) : List Mrk := if okL l then marksF l else []
def keptR (l : List Scn) : List Evt := if okL l then keptF l else []
def doubR (l : List Scn) : List Evt := if okL l then doubF l else []

theorem Marks_any (A : Option Addr) (c : Nat) (l : List Scn) (w : World) (hr : Rd encScn 6 w A l) (hlen : l.length ≤ 1000000) :
    Calls Try.prog 20 #[.slice A l.length c] w fun e w' => ∃ A' c', e = .returned (.tuple #[.slice A' (marksR l).length c', .int .i64 (errR l)]) ∧ Rd encMrk 3 w' A' (marksR l) ∧ Below w.heap.size w w' := by
  have HR := Right_any A c l w hr hlen
  cases hok : okL l with
  | false =>
    have e1 : marksR l = [] := if_neg (by rw [hok]; decide)
    have e2 : errR l = 2 := if_neg (by rw [hok]; decide)
    rw [e1, e2]
    rw [hok] at HR
    have HR := Lib.hid HR
    clear hr e1 e2 hok
    go_enter Try.func20, Try.ntmps20
    go_wp2_with fail
    refine HR.out.mono ?_
    rintro e w1 ⟨rfl, hb⟩
    have B1 := Lib.hid hb
    clear hb HR
    go_wp2_with fail
    go_ret2
    exact ⟨none, 0, rfl, Rd.nil _ _ _ _, B1.out⟩
  | true =>
    have e1 : marksR l = marksF l := if_pos hok
    have e2 : errR l = 0 := if_pos hok
    rw [e1, e2]
    rw [hok] at HR
    have HR := Lib.hid HR
    have HM := Lib.hid (fun w1 (hb : Below w.heap.size w w1) => marks_any A c l w1 (hr.below (Nat.le_refl _) hb) hok)
    clear hr e1 e2 hok
    generalize marksF l = ms at *
    go_enter Try.func20, Try.ntmps20
    go_wp2_with fail
    refine HR.out.mono ?_
    rintro e w1 ⟨rfl, hb⟩
    have B1 := Lib.hid hb
    clear hb HR
    go_wp2_with fail
    refine (HM.out _ B1.out).mono ?_
    rintro e w2 ⟨A', c', rfl, hr2, hb2⟩
    have B2 := Lib.hid (B1.out.trans (hb2.mono B1.out.size))
    have R2 := Lib.hid hr2
    clear hr2 hb2 HM
    go_wp2_with fail
    go_ret2
    exact ⟨A', c', rfl, R2.out, B2.out⟩

theorem Order_any (A : Option Addr) (c : Nat) (l : List Scn) (w : World) (hr : Rd encScn 6 w A l) (hlen : l.length ≤ 1000000) :
    Calls Try.prog 19 #[.slice A l.length c] w fun e w' => ∃ A' c', e = .returned (.tuple #[.slice A' (keptR l).length c', .int .i64 (errR l)]) ∧ Rd encEvt 7 w' A' (keptR l) ∧ Below w.heap.size w w' := by
  have HR := Right_any A c l w hr hlen
  cases hok : okL l with
  | false =>
    have e1 : keptR l = [] := if_neg (by rw [hok]; decide)
    have e2 : errR l = 2 := if_neg (by rw [hok]; decide)
    rw [e1, e2]
    rw [hok] at HR
    have HR := Lib.hid HR
    clear hr e1 e2 hok
    go_enter Try.func19, Try.ntmps19
    go_wp2_with fail
    refine HR.out.mono ?_
    rintro e w1 ⟨rfl, hb⟩
    have B1 := Lib.hid hb
    clear hb HR
    go_wp2_with fail
    go_ret2
    exact ⟨none, 0, rfl, Rd.nil _ _ _ _, B1.out⟩
  | true =>
    have e1 : keptR l = keptF l := if_pos hok
    have e2 : errR l = 0 := if_pos hok
    rw [e1, e2]
    rw [hok] at HR
    have HR := Lib.hid HR
    have HM := Lib.hid (fun w1 (hb : Below w.heap.size w w1) => parted_any A c l w1 (hr.below (Nat.le_refl _) hb) hok)
    clear hr e1 e2 hok
    generalize keptF l = ms at *
    go_enter Try.func19, Try.ntmps19
    go_wp2_with fail
    refine HR.out.mono ?_
    rintro e w1 ⟨rfl, hb⟩
    have B1 := Lib.hid hb
    clear hb HR
    go_wp2_with fail
    refine (HM.out _ B1.out).mono ?_
    rintro e w2 ⟨A', c', A2, c2, rfl, hr2, -, hb2⟩
    have B2 := Lib.hid (B1.out.trans (hb2.mono B1.out.size))
    have R2 := Lib.hid hr2
    clear hr2 hb2 HM
    go_wp2_with fail
    go_ret2
    exact ⟨A', c', rfl, R2.out, B2.out⟩

theorem Doubled_any (A : Option Addr) (c : Nat) (l : List Scn) (w : World) (hr : Rd encScn 6 w A l) (hlen : l.length ≤ 1000000) :
    Calls Try.prog 23 #[.slice A l.length c] w fun e w' => ∃ A' c', e = .returned (.tuple #[.slice A' (doubR l).length c', .int .i64 (errR l)]) ∧ Rd encEvt 7 w' A' (doubR l) ∧ Below w.heap.size w w' := by
  have HR := Right_any A c l w hr hlen
  cases hok : okL l with
  | false =>
    have e1 : doubR l = [] := if_neg (by rw [hok]; decide)
    have e2 : errR l = 2 := if_neg (by rw [hok]; decide)
    rw [e1, e2]
    rw [hok] at HR
    have HR := Lib.hid HR
    clear hr e1 e2 hok
    go_enter Try.func23, Try.ntmps23
    go_wp2_with fail
    refine HR.out.mono ?_
    rintro e w1 ⟨rfl, hb⟩
    have B1 := Lib.hid hb
    clear hb HR
    go_wp2_with fail
    go_ret2
    exact ⟨none, 0, rfl, Rd.nil _ _ _ _, B1.out⟩
  | true =>
    have e1 : doubR l = doubF l := if_pos hok
    have e2 : errR l = 0 := if_pos hok
    rw [e1, e2]
    rw [hok] at HR
    have HR := Lib.hid HR
    have HM := Lib.hid (fun w1 (hb : Below w.heap.size w w1) => parted_any A c l w1 (hr.below (Nat.le_refl _) hb) hok)
    clear hr e1 e2 hok
    generalize doubF l = ms at *
    go_enter Try.func23, Try.ntmps23
    go_wp2_with fail
    refine HR.out.mono ?_
    rintro e w1 ⟨rfl, hb⟩
    have B1 := Lib.hid hb
    clear hb HR
    go_wp2_with fail
    refine (HM.out _ B1.out).mono ?_
    rintro e w2 ⟨A2, c2, A', c', rfl, -, hr2, hb2⟩
    have B2 := Lib.hid (B1.out.trans (hb2.mono B1.out.size))
    have R2 := Lib.hid hr2
    clear hr2 hb2 HM
    go_wp2_with fail
    go_ret2
    exact ⟨A', c', rfl, R2.out, B2.out⟩

theorem one_any (sc at_ seen : Int) (w : World) : Calls Try.prog 22 #[.int .i64 sc, .int .i64 at_, .int .i64 seen] w fun e w' => e = .returned (.agg #[.int .i64 7, .int .i64 3, .int .i64 sc, .int .u8 1, .int .i64 at_, .int .i64 seen]) ∧ Below w.heap.size w w' := by
  go_enter Try.func22, Try.ntmps22
  go_wp2_with fail
  refine bodyPost_ret (results_cell_row rfl _ _ w.heap.size 24 _ (0, 0) _ rfl (blk_new rfl) Try.underlying24 rfl rfl) rfl ?_
  exact ⟨rfl, (Below.refl _ _).alloc (Nat.le_refl _) _⟩
end Go.Proofs.Ytcjhkjplpbhjiaa

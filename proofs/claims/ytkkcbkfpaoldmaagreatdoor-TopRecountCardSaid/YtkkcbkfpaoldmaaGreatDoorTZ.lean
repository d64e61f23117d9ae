/- TopRecount returns true at every input whose lists are not longer than a machine holds. -/
import Derived.Test.YtkkcbkfpaoldmaaGreatDoorM21
import Derived.Test.YtkkcbkfpaoldmaaGreatDoorT2
namespace Go.Proofs.YtkkcbkfpaoldmaaGreatDoor
open Go Go.RowKit

theorem topRecount_any (x : Crit) (Ad Ap : Option Addr) (nd cd np cp : Nat) (AfD AfP : Nat → Option Addr) (NfD CfD NfP CfP : Nat → Nat) (MfD MfP : Nat → Nat → Int) (sm : Nat) (hsm : sm < 256) (b1 b2 : Bool) (A1 A2 : Option Addr) (n1 c1 n2 c2 : Nat) (p q : List Int) (d : List UInt8) (hd : d.length = 32)
    (w : World) (hL : Laid w) (hD : MatRd w w.heap.size Ad nd AfD NfD CfD MfD) (hP : MatRd w w.heap.size Ap np AfP NfP CfP MfP) (hLm : LimRd w w.heap.size A1 n1 c1 A2 n2 c2 p q) (hju : ∀ k, k < nd → NfD k ≤ 17592186044416) (hnd : nd ≤ 9223372036854775807) :
    Calls Tryz.prog 3 #[.agg x.c, .slice Ad nd cd, .slice Ap np cp, .int .u8 sm, .agg (ratD b1 A1 n1 c1 b2 A2 n2 c2), .agg (dig d)] w (Ret (.bool true) w) := by
  by_cases G : TopOk x nd np NfD NfP MfD MfP b1 n1 p b2 n2 q
  · exact top_good x Ad Ap nd cd np cp AfD AfP NfD CfD NfP CfP MfD MfP sm hsm b1 b2 A1 A2 n1 c1 n2 c2 p q d hd w hL hD hP hLm G
  · exact top_bad x Ad Ap nd cd np cp AfD AfP NfD CfD NfP CfP MfD MfP sm b1 b2 A1 A2 n1 c1 n2 c2 p q d w hD hP hLm hju hnd G
end Go.Proofs.YtkkcbkfpaoldmaaGreatDoor

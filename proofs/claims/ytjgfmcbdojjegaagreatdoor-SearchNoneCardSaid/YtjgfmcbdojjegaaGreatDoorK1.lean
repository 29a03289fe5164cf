/-
  Calls of the closed run that are known by themselves (part 1, printed by a program).
-/
import Derived.Test.YtjgfmcbdojjegaaGreatDoorL1
namespace Go.Proofs.YtjgfmcbdojjegaaGreatDoor
open Go Go.A3

def vNet : PV := .agg [.sl [bs [120]] true, .nils, .nils, .sl [.agg [bs [65], .sl [.agg [bs [97], .int .u8 (0), .sl [.agg [.int .i64 (1), .int .i64 (0), .int .u8 (2), .int .i64 (5)]] true], .agg [bs [98], .int .u8 (0), .nils]] true, .sl [.agg [.int .i64 (0), .int .i64 (1), .sl [.agg [.int .i64 (1), .int .i64 (0), .int .u8 (4), .int .i64 (3)]] true, .nils, .int .i64 (0), .bool false, .sl [.agg [.int .i64 (1), .int .i64 (0), .int .i64 (0), .nils]] true]] true]] true]
def tab0 : List Known := []
theorem ok0 : AllPure XP tab0 := trivial

def ca0 : List PV := [bs [120]]
def cr0 : PV := .bool true
theorem cp0 : Pure XP 382 ca0 cr0 := runV_ok XP_any XP_free (h := hintM tab0) (d := 30) ok0 (by kernel_rfl) (by kernel_rfl)
def tab1 : List Known := ⟨382, ca0, cr0⟩ :: tab0
theorem ok1 : AllPure XP tab1 := ⟨cp0, ok0⟩

def ca1 : List PV := [bs [65]]
def cr1 : PV := .bool true
theorem cp1 : Pure XP 382 ca1 cr1 := runV_ok XP_any XP_free (h := hintM tab1) (d := 30) ok1 (by kernel_rfl) (by kernel_rfl)
def tab2 : List Known := ⟨382, ca1, cr1⟩ :: tab1
theorem ok2 : AllPure XP tab2 := ⟨cp1, ok1⟩

def ca2 : List PV := [bs [97]]
def cr2 : PV := .bool true
theorem cp2 : Pure XP 382 ca2 cr2 := runV_ok XP_any XP_free (h := hintM tab2) (d := 30) ok2 (by kernel_rfl) (by kernel_rfl)
def tab3 : List Known := ⟨382, ca2, cr2⟩ :: tab2
theorem ok3 : AllPure XP tab3 := ⟨cp2, ok2⟩

def ca3 : List PV := [bs [98]]
def cr3 : PV := .bool true
theorem cp3 : Pure XP 382 ca3 cr3 := runV_ok XP_any XP_free (h := hintM tab3) (d := 30) ok3 (by kernel_rfl) (by kernel_rfl)
def tab4 : List Known := ⟨382, ca3, cr3⟩ :: tab3
theorem ok4 : AllPure XP tab4 := ⟨cp3, ok3⟩

def ca4 : List PV := [vNet]
def cr4 : PV := .int .i64 (0)
theorem cp4 : Pure XP 246 ca4 cr4 := runV_ok XP_any XP_free (h := hintM tab4) (d := 30) ok4 (by kernel_rfl) (by kernel_rfl)
def tab5 : List Known := ⟨246, ca4, cr4⟩ :: tab4
theorem ok5 : AllPure XP tab5 := ⟨cp4, ok4⟩

def ca5 : List PV := [vNet]
def cr5 : PV := .int .i64 (0)
theorem cp5 : Pure XP 250 ca5 cr5 := runV_ok XP_any XP_free (h := hintM tab5) (d := 30) ok5 (by kernel_rfl) (by kernel_rfl)
def tab6 : List Known := ⟨250, ca5, cr5⟩ :: tab5
theorem ok6 : AllPure XP tab6 := ⟨cp5, ok5⟩

def ca6 : List PV := [vNet]
def cr6 : PV := .int .i64 (0)
theorem cp6 : Pure XP 150 ca6 cr6 := runV_ok XP_any XP_free (h := hintM tab6) (d := 30) ok6 (by kernel_rfl) (by kernel_rfl)
def tab7 : List Known := ⟨150, ca6, cr6⟩ :: tab6
theorem ok7 : AllPure XP tab7 := ⟨cp6, ok6⟩

def ca7 : List PV := [vNet]
def cr7 : PV := .tup [.agg [.int .i64 (0), .int .i64 (0), .int .i64 (0)], .int .i64 (0)]
theorem cp7 : Pure XP 149 ca7 cr7 := runV_ok XP_any XP_free (h := hintM tab7) (d := 30) ok7 (by kernel_rfl) (by kernel_rfl)
def tab8 : List Known := ⟨149, ca7, cr7⟩ :: tab7
theorem ok8 : AllPure XP tab8 := ⟨cp7, ok7⟩

def ca8 : List PV := [vNet, .sl [.agg [.sl [.agg [.int .i64 (0), .int .i64 (1)]] true, .nils, .nils]] true]
def cr8 : PV := .int .i64 (0)
theorem cp8 : Pure XP 68 ca8 cr8 := runV_ok XP_any XP_free (h := hintM tab8) (d := 30) ok8 (by kernel_rfl) (by kernel_rfl)
def tab9 : List Known := ⟨68, ca8, cr8⟩ :: tab8
theorem ok9 : AllPure XP tab9 := ⟨cp8, ok8⟩

def ca9 : List PV := [vNet, .sl [.sl [.agg [.sl [.agg [.int .i64 (0), .int .i64 (1)]] true, .nils, .nils]] true] true, .fn (.func 78) [] []]
def cr9 : PV := .sl [.int .i64 (5)] false
theorem cp9 : Pure XP 77 ca9 cr9 := runV_ok XP_any XP_free (h := hintM tab9) (d := 30) ok9 (by kernel_rfl) (by kernel_rfl)
def tab10 : List Known := ⟨77, ca9, cr9⟩ :: tab9
theorem ok10 : AllPure XP tab10 := ⟨cp9, ok9⟩

def ca10 : List PV := [vNet, .sl [.int .i64 (5)] false]
def cr10 : PV := .tup [.agg [.sl [.sl [.sl [.int .i64 (5)] false, .sl [.int .i64 (5)] false] false] false, .sl [.sl [.sl [.int .i64 (5)] false, .sl [.int .i64 (5)] false] false] false], .int .i64 (0)]
theorem cp10 : Pure XP 27 ca10 cr10 := runV_ok XP_any XP_free (h := hintM tab10) (d := 30) ok10 (by kernel_rfl) (by kernel_rfl)
def tab11 : List Known := ⟨27, ca10, cr10⟩ :: tab10
theorem ok11 : AllPure XP tab11 := ⟨cp10, ok10⟩

def ca11 : List PV := [vNet, .agg [.sl [.sl [.sl [.int .i64 (5)] false, .sl [.int .i64 (5)] false] false] false, .sl [.sl [.sl [.int .i64 (5)] false, .sl [.int .i64 (5)] false] false] false]]
def cr11 : PV := .tup [.agg [.sl [.sl [.sl [.int .i64 (5)] false, .sl [.int .i64 (5)] false] false] false, .sl [.sl [.sl [.int .i64 (5)] false, .sl [.int .i64 (5)] false] false] false], .int .i64 (0)]
theorem cp11 : Pure XP 79 ca11 cr11 := runV_ok XP_any XP_free (h := hintM tab11) (d := 30) ok11 (by kernel_rfl) (by kernel_rfl)
def tab12 : List Known := ⟨79, ca11, cr11⟩ :: tab11
theorem ok12 : AllPure XP tab12 := ⟨cp11, ok11⟩

def ca12 : List PV := [.int .i64 (1)]
def cr12 : PV := .tup [.ip (.agg [.int .i64 (1), .int .i32 (1), .int .i32 (1), .int .i32 (0), .int .i32 (0), .int .i32 (0), .int .i32 (0), .int .i32 (0), .int .i32 (0), .int .i32 (0), .int .i32 (1), .int .i32 (1), .int .i32 (0), .int .i32 (0), .int .i32 (0), .int .i32 (0), .int .i32 (0), .int .i32 (0), .int .i32 (0), .int .i32 (0), .int .i32 (0), .int .i32 (0), .int .i32 (0), .int .i32 (0), .int .i32 (0), .int .i32 (0), .int .i32 (0), .int .i32 (0), .int .i32 (0), .int .i32 (0), .int .i32 (0), .int .i32 (0), .int .i32 (0), .int .i32 (0), .int .i32 (0), .int .i32 (0), .int .i32 (0), .int .i32 (0), .int .i32 (0), .int .i32 (0), .int .i32 (0), .int .i32 (0), .int .i32 (0), .int .i32 (0), .int .i32 (0), .int .i32 (0), .int .i32 (0), .int .i32 (0), .int .i32 (0), .int .i32 (0), .int .i32 (0), .int .i32 (0), .int .i32 (0), .int .i32 (0), .int .i32 (0), .int .i32 (0), .int .i32 (0), .int .i32 (0), .int .i32 (0), .int .i32 (0), .int .i32 (0), .int .i32 (0), .int .i32 (0), .int .i32 (0), .int .i32 (0), .int .i32 (0), .int .i32 (0), .int .i32 (0), .int .i32 (0), .int .i32 (0), .int .i32 (0), .int .i32 (0), .int .i32 (0), .int .i32 (0), .int .i32 (0), .int .i32 (0), .int .i32 (0), .int .i32 (0), .int .i32 (0), .int .i32 (0), .int .i32 (0), .int .i32 (0)]) 0, .int .i64 (0)]
theorem cp12 : Pure XP 81 ca12 cr12 := runV_ok XP_any XP_free (h := hintM tab12) (d := 30) ok12 (by kernel_rfl) (by kernel_rfl)
def tab13 : List Known := ⟨81, ca12, cr12⟩ :: tab12
theorem ok13 : AllPure XP tab13 := ⟨cp12, ok12⟩

def ca13 : List PV := [.ip (.agg [.int .i64 (1), .int .i32 (1), .int .i32 (1), .int .i32 (0), .int .i32 (0), .int .i32 (0), .int .i32 (0), .int .i32 (0), .int .i32 (0), .int .i32 (0), .int .i32 (1), .int .i32 (1), .int .i32 (0), .int .i32 (0), .int .i32 (0), .int .i32 (0), .int .i32 (0), .int .i32 (0), .int .i32 (0), .int .i32 (0), .int .i32 (0), .int .i32 (0), .int .i32 (0), .int .i32 (0), .int .i32 (0), .int .i32 (0), .int .i32 (0), .int .i32 (0), .int .i32 (0), .int .i32 (0), .int .i32 (0), .int .i32 (0), .int .i32 (0), .int .i32 (0), .int .i32 (0), .int .i32 (0), .int .i32 (0), .int .i32 (0), .int .i32 (0), .int .i32 (0), .int .i32 (0), .int .i32 (0), .int .i32 (0), .int .i32 (0), .int .i32 (0), .int .i32 (0), .int .i32 (0), .int .i32 (0), .int .i32 (0), .int .i32 (0), .int .i32 (0), .int .i32 (0), .int .i32 (0), .int .i32 (0), .int .i32 (0), .int .i32 (0), .int .i32 (0), .int .i32 (0), .int .i32 (0), .int .i32 (0), .int .i32 (0), .int .i32 (0), .int .i32 (0), .int .i32 (0), .int .i32 (0), .int .i32 (0), .int .i32 (0), .int .i32 (0), .int .i32 (0), .int .i32 (0), .int .i32 (0), .int .i32 (0), .int .i32 (0), .int .i32 (0), .int .i32 (0), .int .i32 (0), .int .i32 (0), .int .i32 (0), .int .i32 (0), .int .i32 (0), .int .i32 (0), .int .i32 (0)]) 0, .sl [.agg [.int .i64 (1), .int .i64 (0), .int .u8 (2), .int .i64 (5)]] false]
def cr13 : PV := .tup [.ip (.agg [.int .i64 (1), .int .i32 (1), .int .i32 (1), .int .i32 (0), .int .i32 (0), .int .i32 (0), .int .i32 (0), .int .i32 (0), .int .i32 (0), .int .i32 (0), .int .i32 (1), .int .i32 (1), .int .i32 (0), .int .i32 (0), .int .i32 (0), .int .i32 (0), .int .i32 (0), .int .i32 (0), .int .i32 (0), .int .i32 (0), .int .i32 (0), .int .i32 (0), .int .i32 (0), .int .i32 (0), .int .i32 (0), .int .i32 (0), .int .i32 (0), .int .i32 (0), .int .i32 (0), .int .i32 (0), .int .i32 (0), .int .i32 (0), .int .i32 (0), .int .i32 (0), .int .i32 (0), .int .i32 (0), .int .i32 (0), .int .i32 (0), .int .i32 (0), .int .i32 (0), .int .i32 (0), .int .i32 (0), .int .i32 (0), .int .i32 (0), .int .i32 (0), .int .i32 (0), .int .i32 (0), .int .i32 (0), .int .i32 (0), .int .i32 (0), .int .i32 (0), .int .i32 (0), .int .i32 (0), .int .i32 (0), .int .i32 (0), .int .i32 (0), .int .i32 (0), .int .i32 (0), .int .i32 (0), .int .i32 (0), .int .i32 (0), .int .i32 (0), .int .i32 (0), .int .i32 (0), .int .i32 (0), .int .i32 (0), .int .i32 (0), .int .i32 (0), .int .i32 (0), .int .i32 (0), .int .i32 (0), .int .i32 (0), .int .i32 (0), .int .i32 (0), .int .i32 (0), .int .i32 (0), .int .i32 (0), .int .i32 (0), .int .i32 (0), .int .i32 (0), .int .i32 (0), .int .i32 (0)]) 0, .int .i64 (0)]
theorem cp13 : Pure XP 259 ca13 cr13 := runV_ok XP_any XP_free (h := hintM tab13) (d := 30) ok13 (by kernel_rfl) (by kernel_rfl)
def tab14 : List Known := ⟨259, ca13, cr13⟩ :: tab13
theorem ok14 : AllPure XP tab14 := ⟨cp13, ok13⟩

end Go.Proofs.YtjgfmcbdojjegaaGreatDoor

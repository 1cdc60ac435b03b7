/-
  Instances on the tables of this seat's program: of each type what it is, its size and its zero; of each function that it has a body. Written by a program (wip/mktab.py).
-/
import Derived.Test.YtdbmmnpnhpiecaaVals
import Derived.Test.YtdbmmnpnhpiecaaProg
namespace Go.Proofs.Ytdbmmnpnhpiecaa
open Go
namespace Sl
set_option maxRecDepth 100000
abbrev und0 := @Und.mk Try.prog 0 _ Try.underlying0
attribute [instance] und0
instance inf0 : Inf Try.prog 0 1 0 (Go.Value.tuple #[]) := ⟨_, (by kernel_rfl : Try.prog.info? 0 = some (Try.types.getD 0 default)), by kernel_rfl, by kernel_rfl, by kernel_rfl⟩
abbrev und1 := @Und.mk Try.prog 1 _ Try.underlying1
attribute [instance] und1
instance inf1 : Inf Try.prog 1 1 8 Go.Value.nilFunc := ⟨_, (by kernel_rfl : Try.prog.info? 1 = some (Try.types.getD 1 default)), by kernel_rfl, by kernel_rfl, by kernel_rfl⟩
abbrev und2 := @Und.mk Try.prog 2 _ Try.underlying2
attribute [instance] und2
instance inf2 : Inf Try.prog 2 1 8 (Go.Value.int Go.IntKind.i64 0) := ⟨_, (by kernel_rfl : Try.prog.info? 2 = some (Try.types.getD 2 default)), by kernel_rfl, by kernel_rfl, by kernel_rfl⟩
abbrev und3 := @Und.mk Try.prog 3 _ Try.underlying3
attribute [instance] und3
instance inf3 : Inf Try.prog 3 1 8 (Go.Value.int Go.IntKind.i64 0) := ⟨_, (by kernel_rfl : Try.prog.info? 3 = some (Try.types.getD 3 default)), by kernel_rfl, by kernel_rfl, by kernel_rfl⟩
abbrev und4 := @Und.mk Try.prog 4 _ Try.underlying4
attribute [instance] und4
instance inf4 : Inf Try.prog 4 1 1 (Go.Value.bool false) := ⟨_, (by kernel_rfl : Try.prog.info? 4 = some (Try.types.getD 4 default)), by kernel_rfl, by kernel_rfl, by kernel_rfl⟩
abbrev und5 := @Und.mk Try.prog 5 _ Try.underlying5
attribute [instance] und5
instance inf5 : Inf Try.prog 5 1 1 (Go.Value.int Go.IntKind.u8 0) := ⟨_, (by kernel_rfl : Try.prog.info? 5 = some (Try.types.getD 5 default)), by kernel_rfl, by kernel_rfl, by kernel_rfl⟩
abbrev und6 := @Und.mk Try.prog 6 _ Try.underlying6
attribute [instance] und6
instance inf6 : Inf Try.prog 6 1 1 (Go.Value.int Go.IntKind.u8 0) := ⟨_, (by kernel_rfl : Try.prog.info? 6 = some (Try.types.getD 6 default)), by kernel_rfl, by kernel_rfl, by kernel_rfl⟩
abbrev und7 := @Und.mk Try.prog 7 _ Try.underlying7
attribute [instance] und7
instance plc7 : Plc Try.prog 7 [(0, 1), (1, 1), (2, 1), (3, 1)] := ⟨_, Try.underlying7, fun _ => by kernel_rfl⟩
instance inf7 : Inf Try.prog 7 4 24 (Go.Value.agg #[Go.Value.int Go.IntKind.i64 0, Go.Value.int Go.IntKind.i64 0, Go.Value.bool false, Go.Value.int Go.IntKind.u8 0]) := ⟨_, (by kernel_rfl : Try.prog.info? 7 = some (Try.types.getD 7 default)), by kernel_rfl, by kernel_rfl, by kernel_rfl⟩
abbrev und8 := @Und.mk Try.prog 8 _ Try.underlying8
attribute [instance] und8
instance plc8 : Plc Try.prog 8 [(0, 1), (1, 1), (2, 1), (3, 1)] := ⟨_, Try.underlying8, fun _ => by kernel_rfl⟩
instance inf8 : Inf Try.prog 8 4 24 (Go.Value.agg #[Go.Value.int Go.IntKind.i64 0, Go.Value.int Go.IntKind.i64 0, Go.Value.bool false, Go.Value.int Go.IntKind.u8 0]) := ⟨_, (by kernel_rfl : Try.prog.info? 8 = some (Try.types.getD 8 default)), by kernel_rfl, by kernel_rfl, by kernel_rfl⟩
abbrev und9 := @Und.mk Try.prog 9 _ Try.underlying9
attribute [instance] und9
instance inf9 : Inf Try.prog 9 1 16 (Go.Value.string { data := #[] }) := ⟨_, (by kernel_rfl : Try.prog.info? 9 = some (Try.types.getD 9 default)), by kernel_rfl, by kernel_rfl, by kernel_rfl⟩
abbrev und10 := @Und.mk Try.prog 10 _ Try.underlying10
attribute [instance] und10
instance inf10 : Inf Try.prog 10 1 16 (Go.Value.string { data := #[] }) := ⟨_, (by kernel_rfl : Try.prog.info? 10 = some (Try.types.getD 10 default)), by kernel_rfl, by kernel_rfl, by kernel_rfl⟩
abbrev und11 := @Und.mk Try.prog 11 _ Try.underlying11
attribute [instance] und11
instance inf11 : Inf Try.prog 11 1 16 (Go.Value.string { data := #[] }) := ⟨_, (by kernel_rfl : Try.prog.info? 11 = some (Try.types.getD 11 default)), by kernel_rfl, by kernel_rfl, by kernel_rfl⟩
abbrev und12 := @Und.mk Try.prog 12 _ Try.underlying12
attribute [instance] und12
instance inf12 : Inf Try.prog 12 1 8 (Go.Value.int Go.IntKind.u64 0) := ⟨_, (by kernel_rfl : Try.prog.info? 12 = some (Try.types.getD 12 default)), by kernel_rfl, by kernel_rfl, by kernel_rfl⟩
abbrev und13 := @Und.mk Try.prog 13 _ Try.underlying13
attribute [instance] und13
instance plc13 : Plc Try.prog 13 [(0, 1), (1, 1)] := ⟨_, Try.underlying13, fun _ => by kernel_rfl⟩
instance inf13 : Inf Try.prog 13 2 24 (Go.Value.agg #[Go.Value.string { data := #[] }, Go.Value.int Go.IntKind.u64 0]) := ⟨_, (by kernel_rfl : Try.prog.info? 13 = some (Try.types.getD 13 default)), by kernel_rfl, by kernel_rfl, by kernel_rfl⟩
abbrev und14 := @Und.mk Try.prog 14 _ Try.underlying14
attribute [instance] und14
instance plc14 : Plc Try.prog 14 [(0, 1), (1, 1)] := ⟨_, Try.underlying14, fun _ => by kernel_rfl⟩
instance inf14 : Inf Try.prog 14 2 24 (Go.Value.agg #[Go.Value.string { data := #[] }, Go.Value.int Go.IntKind.u64 0]) := ⟨_, (by kernel_rfl : Try.prog.info? 14 = some (Try.types.getD 14 default)), by kernel_rfl, by kernel_rfl, by kernel_rfl⟩
abbrev und15 := @Und.mk Try.prog 15 _ Try.underlying15
attribute [instance] und15
instance inf15 : Inf Try.prog 15 1 8 (Go.Value.pointer none) := ⟨_, (by kernel_rfl : Try.prog.info? 15 = some (Try.types.getD 15 default)), by kernel_rfl, by kernel_rfl, by kernel_rfl⟩
abbrev und16 := @Und.mk Try.prog 16 _ Try.underlying16
attribute [instance] und16
instance inf16 : Inf Try.prog 16 1 8 (Go.Value.pointer none) := ⟨_, (by kernel_rfl : Try.prog.info? 16 = some (Try.types.getD 16 default)), by kernel_rfl, by kernel_rfl, by kernel_rfl⟩
abbrev und17 := @Und.mk Try.prog 17 _ Try.underlying17
attribute [instance] und17
instance inf17 : Inf Try.prog 17 1 8 (Go.Value.pointer none) := ⟨_, (by kernel_rfl : Try.prog.info? 17 = some (Try.types.getD 17 default)), by kernel_rfl, by kernel_rfl, by kernel_rfl⟩
abbrev und18 := @Und.mk Try.prog 18 _ Try.underlying18
attribute [instance] und18
instance plc18 : Plc Try.prog 18 [(0, 1)] := ⟨_, Try.underlying18, fun _ => by kernel_rfl⟩
instance inf18 : Inf Try.prog 18 1 8 (Go.Value.agg #[Go.Value.pointer none]) := ⟨_, (by kernel_rfl : Try.prog.info? 18 = some (Try.types.getD 18 default)), by kernel_rfl, by kernel_rfl, by kernel_rfl⟩
abbrev und19 := @Und.mk Try.prog 19 _ Try.underlying19
attribute [instance] und19
instance plc19 : Plc Try.prog 19 [(0, 1)] := ⟨_, Try.underlying19, fun _ => by kernel_rfl⟩
instance inf19 : Inf Try.prog 19 1 8 (Go.Value.agg #[Go.Value.pointer none]) := ⟨_, (by kernel_rfl : Try.prog.info? 19 = some (Try.types.getD 19 default)), by kernel_rfl, by kernel_rfl, by kernel_rfl⟩
abbrev und20 := @Und.mk Try.prog 20 _ Try.underlying20
attribute [instance] und20
instance inf20 : Inf Try.prog 20 1 16 Go.Value.nilIface := ⟨_, (by kernel_rfl : Try.prog.info? 20 = some (Try.types.getD 20 default)), by kernel_rfl, by kernel_rfl, by kernel_rfl⟩
abbrev und21 := @Und.mk Try.prog 21 _ Try.underlying21
attribute [instance] und21
instance inf21 : Inf Try.prog 21 1 4 (Go.Value.int Go.IntKind.i32 0) := ⟨_, (by kernel_rfl : Try.prog.info? 21 = some (Try.types.getD 21 default)), by kernel_rfl, by kernel_rfl, by kernel_rfl⟩
abbrev und22 := @Und.mk Try.prog 22 _ Try.underlying22
attribute [instance] und22
instance inf22 : Inf Try.prog 22 1 24 (Go.Value.slice none 0 0) := ⟨_, (by kernel_rfl : Try.prog.info? 22 = some (Try.types.getD 22 default)), by kernel_rfl, by kernel_rfl, by kernel_rfl⟩
abbrev und23 := @Und.mk Try.prog 23 _ Try.underlying23
attribute [instance] und23
instance plc23 : Plc Try.prog 23 [(0, 1), (1, 1), (2, 1), (3, 1)] := ⟨_, Try.underlying23, fun _ => by kernel_rfl⟩
instance inf23 : Inf Try.prog 23 4 32 (Go.Value.agg #[Go.Value.int Go.IntKind.i64 0, Go.Value.int Go.IntKind.i64 0, Go.Value.int Go.IntKind.i64 0, Go.Value.bool false]) := ⟨_, (by kernel_rfl : Try.prog.info? 23 = some (Try.types.getD 23 default)), by kernel_rfl, by kernel_rfl, by kernel_rfl⟩
abbrev und24 := @Und.mk Try.prog 24 _ Try.underlying24
attribute [instance] und24
instance plc24 : Plc Try.prog 24 [(0, 1), (1, 1), (2, 1), (3, 1)] := ⟨_, Try.underlying24, fun _ => by kernel_rfl⟩
instance inf24 : Inf Try.prog 24 4 32 (Go.Value.agg #[Go.Value.int Go.IntKind.i64 0, Go.Value.int Go.IntKind.i64 0, Go.Value.int Go.IntKind.i64 0, Go.Value.bool false]) := ⟨_, (by kernel_rfl : Try.prog.info? 24 = some (Try.types.getD 24 default)), by kernel_rfl, by kernel_rfl, by kernel_rfl⟩
abbrev und25 := @Und.mk Try.prog 25 _ Try.underlying25
attribute [instance] und25
instance inf25 : Inf Try.prog 25 1 24 (Go.Value.slice none 0 0) := ⟨_, (by kernel_rfl : Try.prog.info? 25 = some (Try.types.getD 25 default)), by kernel_rfl, by kernel_rfl, by kernel_rfl⟩
abbrev und26 := @Und.mk Try.prog 26 _ Try.underlying26
attribute [instance] und26
instance inf26 : Inf Try.prog 26 1 8 Go.Value.nilFunc := ⟨_, (by kernel_rfl : Try.prog.info? 26 = some (Try.types.getD 26 default)), by kernel_rfl, by kernel_rfl, by kernel_rfl⟩
abbrev und27 := @Und.mk Try.prog 27 _ Try.underlying27
attribute [instance] und27
instance inf27 : Inf Try.prog 27 1 8 (Go.Value.int Go.IntKind.i64 0) := ⟨_, (by kernel_rfl : Try.prog.info? 27 = some (Try.types.getD 27 default)), by kernel_rfl, by kernel_rfl, by kernel_rfl⟩
abbrev und28 := @Und.mk Try.prog 28 _ Try.underlying28
attribute [instance] und28
instance inf28 : Inf Try.prog 28 1 0 (Go.Value.tuple #[Go.Value.slice none 0 0, Go.Value.slice none 0 0, Go.Value.int Go.IntKind.i64 0]) := ⟨_, (by kernel_rfl : Try.prog.info? 28 = some (Try.types.getD 28 default)), by kernel_rfl, by kernel_rfl, by kernel_rfl⟩
abbrev und29 := @Und.mk Try.prog 29 _ Try.underlying29
attribute [instance] und29
instance inf29 : Inf Try.prog 29 1 8 Go.Value.nilFunc := ⟨_, (by kernel_rfl : Try.prog.info? 29 = some (Try.types.getD 29 default)), by kernel_rfl, by kernel_rfl, by kernel_rfl⟩
abbrev und30 := @Und.mk Try.prog 30 _ Try.underlying30
attribute [instance] und30
instance inf30 : Inf Try.prog 30 1 8 Go.Value.nilFunc := ⟨_, (by kernel_rfl : Try.prog.info? 30 = some (Try.types.getD 30 default)), by kernel_rfl, by kernel_rfl, by kernel_rfl⟩
abbrev und31 := @Und.mk Try.prog 31 _ Try.underlying31
attribute [instance] und31
instance inf31 : Inf Try.prog 31 1 8 Go.Value.nilFunc := ⟨_, (by kernel_rfl : Try.prog.info? 31 = some (Try.types.getD 31 default)), by kernel_rfl, by kernel_rfl, by kernel_rfl⟩
abbrev und32 := @Und.mk Try.prog 32 _ Try.underlying32
attribute [instance] und32
instance inf32 : Inf Try.prog 32 1 8 Go.Value.nilFunc := ⟨_, (by kernel_rfl : Try.prog.info? 32 = some (Try.types.getD 32 default)), by kernel_rfl, by kernel_rfl, by kernel_rfl⟩
abbrev und33 := @Und.mk Try.prog 33 _ Try.underlying33
attribute [instance] und33
instance inf33 : Inf Try.prog 33 1 8 Go.Value.nilFunc := ⟨_, (by kernel_rfl : Try.prog.info? 33 = some (Try.types.getD 33 default)), by kernel_rfl, by kernel_rfl, by kernel_rfl⟩
abbrev und34 := @Und.mk Try.prog 34 _ Try.underlying34
attribute [instance] und34
instance inf34 : Inf Try.prog 34 1 24 (Go.Value.slice none 0 0) := ⟨_, (by kernel_rfl : Try.prog.info? 34 = some (Try.types.getD 34 default)), by kernel_rfl, by kernel_rfl, by kernel_rfl⟩
abbrev und35 := @Und.mk Try.prog 35 _ Try.underlying35
attribute [instance] und35
instance inf35 : Inf Try.prog 35 1 8 Go.Value.nilFunc := ⟨_, (by kernel_rfl : Try.prog.info? 35 = some (Try.types.getD 35 default)), by kernel_rfl, by kernel_rfl, by kernel_rfl⟩
abbrev und36 := @Und.mk Try.prog 36 _ Try.underlying36
attribute [instance] und36
instance plc36 : Plc Try.prog 36 [(0, 4), (4, 1), (5, 1)] := ⟨_, Try.underlying36, fun _ => by kernel_rfl⟩
instance inf36 : Inf Try.prog 36 6 64 (Go.Value.agg #[Go.Value.int Go.IntKind.i64 0, Go.Value.int Go.IntKind.i64 0, Go.Value.int Go.IntKind.i64 0, Go.Value.bool false, Go.Value.slice none 0 0, Go.Value.bool false]) := ⟨_, (by kernel_rfl : Try.prog.info? 36 = some (Try.types.getD 36 default)), by kernel_rfl, by kernel_rfl, by kernel_rfl⟩
abbrev und37 := @Und.mk Try.prog 37 _ Try.underlying37
attribute [instance] und37
instance plc37 : Plc Try.prog 37 [(0, 4), (4, 1), (5, 1)] := ⟨_, Try.underlying37, fun _ => by kernel_rfl⟩
instance inf37 : Inf Try.prog 37 6 64 (Go.Value.agg #[Go.Value.int Go.IntKind.i64 0, Go.Value.int Go.IntKind.i64 0, Go.Value.int Go.IntKind.i64 0, Go.Value.bool false, Go.Value.slice none 0 0, Go.Value.bool false]) := ⟨_, (by kernel_rfl : Try.prog.info? 37 = some (Try.types.getD 37 default)), by kernel_rfl, by kernel_rfl, by kernel_rfl⟩
abbrev und38 := @Und.mk Try.prog 38 _ Try.underlying38
attribute [instance] und38
instance inf38 : Inf Try.prog 38 1 8 Go.Value.nilFunc := ⟨_, (by kernel_rfl : Try.prog.info? 38 = some (Try.types.getD 38 default)), by kernel_rfl, by kernel_rfl, by kernel_rfl⟩
abbrev und39 := @Und.mk Try.prog 39 _ Try.underlying39
attribute [instance] und39
instance inf39 : Inf Try.prog 39 1 8 Go.Value.nilFunc := ⟨_, (by kernel_rfl : Try.prog.info? 39 = some (Try.types.getD 39 default)), by kernel_rfl, by kernel_rfl, by kernel_rfl⟩
abbrev und40 := @Und.mk Try.prog 40 _ Try.underlying40
attribute [instance] und40
instance plc40 : Plc Try.prog 40 [(0, 1), (1, 1)] := ⟨_, Try.underlying40, fun _ => by kernel_rfl⟩
instance inf40 : Inf Try.prog 40 2 16 (Go.Value.agg #[Go.Value.int Go.IntKind.i64 0, Go.Value.int Go.IntKind.i64 0]) := ⟨_, (by kernel_rfl : Try.prog.info? 40 = some (Try.types.getD 40 default)), by kernel_rfl, by kernel_rfl, by kernel_rfl⟩
abbrev und41 := @Und.mk Try.prog 41 _ Try.underlying41
attribute [instance] und41
instance plc41 : Plc Try.prog 41 [(0, 1), (1, 1)] := ⟨_, Try.underlying41, fun _ => by kernel_rfl⟩
instance inf41 : Inf Try.prog 41 2 16 (Go.Value.agg #[Go.Value.int Go.IntKind.i64 0, Go.Value.int Go.IntKind.i64 0]) := ⟨_, (by kernel_rfl : Try.prog.info? 41 = some (Try.types.getD 41 default)), by kernel_rfl, by kernel_rfl, by kernel_rfl⟩
abbrev und42 := @Und.mk Try.prog 42 _ Try.underlying42
attribute [instance] und42
instance inf42 : Inf Try.prog 42 1 8 Go.Value.nilFunc := ⟨_, (by kernel_rfl : Try.prog.info? 42 = some (Try.types.getD 42 default)), by kernel_rfl, by kernel_rfl, by kernel_rfl⟩
abbrev und43 := @Und.mk Try.prog 43 _ Try.underlying43
attribute [instance] und43
instance inf43 : Inf Try.prog 43 1 8 Go.Value.nilFunc := ⟨_, (by kernel_rfl : Try.prog.info? 43 = some (Try.types.getD 43 default)), by kernel_rfl, by kernel_rfl, by kernel_rfl⟩
abbrev und44 := @Und.mk Try.prog 44 _ Try.underlying44
attribute [instance] und44
instance inf44 : Inf Try.prog 44 1 8 Go.Value.nilFunc := ⟨_, (by kernel_rfl : Try.prog.info? 44 = some (Try.types.getD 44 default)), by kernel_rfl, by kernel_rfl, by kernel_rfl⟩
abbrev und45 := @Und.mk Try.prog 45 _ Try.underlying45
attribute [instance] und45
instance inf45 : Inf Try.prog 45 1 8 Go.Value.nilFunc := ⟨_, (by kernel_rfl : Try.prog.info? 45 = some (Try.types.getD 45 default)), by kernel_rfl, by kernel_rfl, by kernel_rfl⟩
abbrev und46 := @Und.mk Try.prog 46 _ Try.underlying46
attribute [instance] und46
instance inf46 : Inf Try.prog 46 1 8 Go.Value.nilFunc := ⟨_, (by kernel_rfl : Try.prog.info? 46 = some (Try.types.getD 46 default)), by kernel_rfl, by kernel_rfl, by kernel_rfl⟩
abbrev und47 := @Und.mk Try.prog 47 _ Try.underlying47
attribute [instance] und47
instance inf47 : Inf Try.prog 47 1 8 Go.Value.nilFunc := ⟨_, (by kernel_rfl : Try.prog.info? 47 = some (Try.types.getD 47 default)), by kernel_rfl, by kernel_rfl, by kernel_rfl⟩
abbrev und48 := @Und.mk Try.prog 48 _ Try.underlying48
attribute [instance] und48
instance inf48 : Inf Try.prog 48 1 8 Go.Value.nilFunc := ⟨_, (by kernel_rfl : Try.prog.info? 48 = some (Try.types.getD 48 default)), by kernel_rfl, by kernel_rfl, by kernel_rfl⟩
abbrev und49 := @Und.mk Try.prog 49 _ Try.underlying49
attribute [instance] und49
instance inf49 : Inf Try.prog 49 1 8 Go.Value.nilFunc := ⟨_, (by kernel_rfl : Try.prog.info? 49 = some (Try.types.getD 49 default)), by kernel_rfl, by kernel_rfl, by kernel_rfl⟩
abbrev und50 := @Und.mk Try.prog 50 _ Try.underlying50
attribute [instance] und50
instance inf50 : Inf Try.prog 50 1 8 Go.Value.nilFunc := ⟨_, (by kernel_rfl : Try.prog.info? 50 = some (Try.types.getD 50 default)), by kernel_rfl, by kernel_rfl, by kernel_rfl⟩
abbrev und51 := @Und.mk Try.prog 51 _ Try.underlying51
attribute [instance] und51
instance plc51 : Plc Try.prog 51 [(0, 1), (1, 1)] := ⟨_, Try.underlying51, fun _ => by kernel_rfl⟩
instance inf51 : Inf Try.prog 51 2 16 (Go.Value.agg #[Go.Value.int Go.IntKind.i64 0, Go.Value.int Go.IntKind.i64 0]) := ⟨_, (by kernel_rfl : Try.prog.info? 51 = some (Try.types.getD 51 default)), by kernel_rfl, by kernel_rfl, by kernel_rfl⟩
abbrev und52 := @Und.mk Try.prog 52 _ Try.underlying52
attribute [instance] und52
instance plc52 : Plc Try.prog 52 [(0, 1), (1, 1)] := ⟨_, Try.underlying52, fun _ => by kernel_rfl⟩
instance inf52 : Inf Try.prog 52 2 16 (Go.Value.agg #[Go.Value.int Go.IntKind.i64 0, Go.Value.int Go.IntKind.i64 0]) := ⟨_, (by kernel_rfl : Try.prog.info? 52 = some (Try.types.getD 52 default)), by kernel_rfl, by kernel_rfl, by kernel_rfl⟩
abbrev und53 := @Und.mk Try.prog 53 _ Try.underlying53
attribute [instance] und53
instance inf53 : Inf Try.prog 53 1 8 Go.Value.nilFunc := ⟨_, (by kernel_rfl : Try.prog.info? 53 = some (Try.types.getD 53 default)), by kernel_rfl, by kernel_rfl, by kernel_rfl⟩
abbrev und54 := @Und.mk Try.prog 54 _ Try.underlying54
attribute [instance] und54
instance inf54 : Inf Try.prog 54 1 8 Go.Value.nilFunc := ⟨_, (by kernel_rfl : Try.prog.info? 54 = some (Try.types.getD 54 default)), by kernel_rfl, by kernel_rfl, by kernel_rfl⟩
abbrev und55 := @Und.mk Try.prog 55 _ Try.underlying55
attribute [instance] und55
instance inf55 : Inf Try.prog 55 1 8 Go.Value.nilFunc := ⟨_, (by kernel_rfl : Try.prog.info? 55 = some (Try.types.getD 55 default)), by kernel_rfl, by kernel_rfl, by kernel_rfl⟩
abbrev und56 := @Und.mk Try.prog 56 _ Try.underlying56
attribute [instance] und56
instance inf56 : Inf Try.prog 56 1 8 Go.Value.nilFunc := ⟨_, (by kernel_rfl : Try.prog.info? 56 = some (Try.types.getD 56 default)), by kernel_rfl, by kernel_rfl, by kernel_rfl⟩
abbrev und57 := @Und.mk Try.prog 57 _ Try.underlying57
attribute [instance] und57
instance inf57 : Inf Try.prog 57 1 8 Go.Value.nilFunc := ⟨_, (by kernel_rfl : Try.prog.info? 57 = some (Try.types.getD 57 default)), by kernel_rfl, by kernel_rfl, by kernel_rfl⟩
abbrev und58 := @Und.mk Try.prog 58 _ Try.underlying58
attribute [instance] und58
instance inf58 : Inf Try.prog 58 1 8 Go.Value.nilFunc := ⟨_, (by kernel_rfl : Try.prog.info? 58 = some (Try.types.getD 58 default)), by kernel_rfl, by kernel_rfl, by kernel_rfl⟩
abbrev und59 := @Und.mk Try.prog 59 _ Try.underlying59
attribute [instance] und59
instance plc59 : Plc Try.prog 59 [(0, 1), (1, 1)] := ⟨_, Try.underlying59, fun _ => by kernel_rfl⟩
instance inf59 : Inf Try.prog 59 2 16 (Go.Value.agg #[Go.Value.int Go.IntKind.i64 0, Go.Value.int Go.IntKind.i64 0]) := ⟨_, (by kernel_rfl : Try.prog.info? 59 = some (Try.types.getD 59 default)), by kernel_rfl, by kernel_rfl, by kernel_rfl⟩
abbrev und60 := @Und.mk Try.prog 60 _ Try.underlying60
attribute [instance] und60
instance plc60 : Plc Try.prog 60 [(0, 1), (1, 1)] := ⟨_, Try.underlying60, fun _ => by kernel_rfl⟩
instance inf60 : Inf Try.prog 60 2 16 (Go.Value.agg #[Go.Value.int Go.IntKind.i64 0, Go.Value.int Go.IntKind.i64 0]) := ⟨_, (by kernel_rfl : Try.prog.info? 60 = some (Try.types.getD 60 default)), by kernel_rfl, by kernel_rfl, by kernel_rfl⟩
abbrev und61 := @Und.mk Try.prog 61 _ Try.underlying61
attribute [instance] und61
instance inf61 : Inf Try.prog 61 1 8 Go.Value.nilFunc := ⟨_, (by kernel_rfl : Try.prog.info? 61 = some (Try.types.getD 61 default)), by kernel_rfl, by kernel_rfl, by kernel_rfl⟩
abbrev und62 := @Und.mk Try.prog 62 _ Try.underlying62
attribute [instance] und62
instance inf62 : Inf Try.prog 62 1 8 Go.Value.nilFunc := ⟨_, (by kernel_rfl : Try.prog.info? 62 = some (Try.types.getD 62 default)), by kernel_rfl, by kernel_rfl, by kernel_rfl⟩
abbrev und63 := @Und.mk Try.prog 63 _ Try.underlying63
attribute [instance] und63
instance inf63 : Inf Try.prog 63 1 8 Go.Value.nilFunc := ⟨_, (by kernel_rfl : Try.prog.info? 63 = some (Try.types.getD 63 default)), by kernel_rfl, by kernel_rfl, by kernel_rfl⟩
abbrev und64 := @Und.mk Try.prog 64 _ Try.underlying64
attribute [instance] und64
instance inf64 : Inf Try.prog 64 1 8 Go.Value.nilFunc := ⟨_, (by kernel_rfl : Try.prog.info? 64 = some (Try.types.getD 64 default)), by kernel_rfl, by kernel_rfl, by kernel_rfl⟩
abbrev und65 := @Und.mk Try.prog 65 _ Try.underlying65
attribute [instance] und65
instance inf65 : Inf Try.prog 65 1 8 Go.Value.nilFunc := ⟨_, (by kernel_rfl : Try.prog.info? 65 = some (Try.types.getD 65 default)), by kernel_rfl, by kernel_rfl, by kernel_rfl⟩
abbrev und66 := @Und.mk Try.prog 66 _ Try.underlying66
attribute [instance] und66
instance inf66 : Inf Try.prog 66 1 8 Go.Value.nilFunc := ⟨_, (by kernel_rfl : Try.prog.info? 66 = some (Try.types.getD 66 default)), by kernel_rfl, by kernel_rfl, by kernel_rfl⟩
abbrev und67 := @Und.mk Try.prog 67 _ Try.underlying67
attribute [instance] und67
instance inf67 : Inf Try.prog 67 1 8 Go.Value.nilFunc := ⟨_, (by kernel_rfl : Try.prog.info? 67 = some (Try.types.getD 67 default)), by kernel_rfl, by kernel_rfl, by kernel_rfl⟩
abbrev und68 := @Und.mk Try.prog 68 _ Try.underlying68
attribute [instance] und68
instance inf68 : Inf Try.prog 68 1 8 Go.Value.nilFunc := ⟨_, (by kernel_rfl : Try.prog.info? 68 = some (Try.types.getD 68 default)), by kernel_rfl, by kernel_rfl, by kernel_rfl⟩
abbrev und69 := @Und.mk Try.prog 69 _ Try.underlying69
attribute [instance] und69
instance inf69 : Inf Try.prog 69 1 8 (Go.Value.int Go.IntKind.u64 0) := ⟨_, (by kernel_rfl : Try.prog.info? 69 = some (Try.types.getD 69 default)), by kernel_rfl, by kernel_rfl, by kernel_rfl⟩
abbrev und70 := @Und.mk Try.prog 70 _ Try.underlying70
attribute [instance] und70
instance inf70 : Inf Try.prog 70 1 8 Go.Value.nilFunc := ⟨_, (by kernel_rfl : Try.prog.info? 70 = some (Try.types.getD 70 default)), by kernel_rfl, by kernel_rfl, by kernel_rfl⟩
abbrev und71 := @Und.mk Try.prog 71 _ Try.underlying71
attribute [instance] und71
instance inf71 : Inf Try.prog 71 1 8 Go.Value.nilFunc := ⟨_, (by kernel_rfl : Try.prog.info? 71 = some (Try.types.getD 71 default)), by kernel_rfl, by kernel_rfl, by kernel_rfl⟩
abbrev und72 := @Und.mk Try.prog 72 _ Try.underlying72
attribute [instance] und72
instance inf72 : Inf Try.prog 72 1 8 Go.Value.nilFunc := ⟨_, (by kernel_rfl : Try.prog.info? 72 = some (Try.types.getD 72 default)), by kernel_rfl, by kernel_rfl, by kernel_rfl⟩
abbrev und73 := @Und.mk Try.prog 73 _ Try.underlying73
attribute [instance] und73
instance inf73 : Inf Try.prog 73 1 8 Go.Value.nilFunc := ⟨_, (by kernel_rfl : Try.prog.info? 73 = some (Try.types.getD 73 default)), by kernel_rfl, by kernel_rfl, by kernel_rfl⟩
abbrev und74 := @Und.mk Try.prog 74 _ Try.underlying74
attribute [instance] und74
instance inf74 : Inf Try.prog 74 1 8 (Go.Value.int Go.IntKind.i64 0) := ⟨_, (by kernel_rfl : Try.prog.info? 74 = some (Try.types.getD 74 default)), by kernel_rfl, by kernel_rfl, by kernel_rfl⟩
abbrev und75 := @Und.mk Try.prog 75 _ Try.underlying75
attribute [instance] und75
instance inf75 : Inf Try.prog 75 1 0 (Go.Value.tuple #[Go.Value.int Go.IntKind.i64 0, Go.Value.int Go.IntKind.i64 0]) := ⟨_, (by kernel_rfl : Try.prog.info? 75 = some (Try.types.getD 75 default)), by kernel_rfl, by kernel_rfl, by kernel_rfl⟩
abbrev und76 := @Und.mk Try.prog 76 _ Try.underlying76
attribute [instance] und76
instance inf76 : Inf Try.prog 76 1 8 Go.Value.nilFunc := ⟨_, (by kernel_rfl : Try.prog.info? 76 = some (Try.types.getD 76 default)), by kernel_rfl, by kernel_rfl, by kernel_rfl⟩
abbrev und77 := @Und.mk Try.prog 77 _ Try.underlying77
attribute [instance] und77
instance inf77 : Inf Try.prog 77 1 8 Go.Value.nilFunc := ⟨_, (by kernel_rfl : Try.prog.info? 77 = some (Try.types.getD 77 default)), by kernel_rfl, by kernel_rfl, by kernel_rfl⟩
abbrev und78 := @Und.mk Try.prog 78 _ Try.underlying78
attribute [instance] und78
instance inf78 : Inf Try.prog 78 1 8 Go.Value.nilFunc := ⟨_, (by kernel_rfl : Try.prog.info? 78 = some (Try.types.getD 78 default)), by kernel_rfl, by kernel_rfl, by kernel_rfl⟩
abbrev und79 := @Und.mk Try.prog 79 _ Try.underlying79
attribute [instance] und79
instance inf79 : Inf Try.prog 79 1 8 Go.Value.nilFunc := ⟨_, (by kernel_rfl : Try.prog.info? 79 = some (Try.types.getD 79 default)), by kernel_rfl, by kernel_rfl, by kernel_rfl⟩
abbrev und80 := @Und.mk Try.prog 80 _ Try.underlying80
attribute [instance] und80
instance inf80 : Inf Try.prog 80 1 0 (Go.Value.tuple #[Go.Value.int Go.IntKind.i64 0, Go.Value.bool false]) := ⟨_, (by kernel_rfl : Try.prog.info? 80 = some (Try.types.getD 80 default)), by kernel_rfl, by kernel_rfl, by kernel_rfl⟩
abbrev und81 := @Und.mk Try.prog 81 _ Try.underlying81
attribute [instance] und81
instance inf81 : Inf Try.prog 81 1 8 Go.Value.nilFunc := ⟨_, (by kernel_rfl : Try.prog.info? 81 = some (Try.types.getD 81 default)), by kernel_rfl, by kernel_rfl, by kernel_rfl⟩
abbrev und82 := @Und.mk Try.prog 82 _ Try.underlying82
attribute [instance] und82
instance inf82 : Inf Try.prog 82 1 8 Go.Value.nilFunc := ⟨_, (by kernel_rfl : Try.prog.info? 82 = some (Try.types.getD 82 default)), by kernel_rfl, by kernel_rfl, by kernel_rfl⟩
abbrev und83 := @Und.mk Try.prog 83 _ Try.underlying83
attribute [instance] und83
instance inf83 : Inf Try.prog 83 1 4 (Go.Value.int Go.IntKind.u32 0) := ⟨_, (by kernel_rfl : Try.prog.info? 83 = some (Try.types.getD 83 default)), by kernel_rfl, by kernel_rfl, by kernel_rfl⟩
abbrev und84 := @Und.mk Try.prog 84 _ Try.underlying84
attribute [instance] und84
instance inf84 : Inf Try.prog 84 1 8 Go.Value.nilFunc := ⟨_, (by kernel_rfl : Try.prog.info? 84 = some (Try.types.getD 84 default)), by kernel_rfl, by kernel_rfl, by kernel_rfl⟩
abbrev und85 := @Und.mk Try.prog 85 _ Try.underlying85
attribute [instance] und85
instance inf85 : Inf Try.prog 85 1 8 (Go.Value.int Go.IntKind.u64 0) := ⟨_, (by kernel_rfl : Try.prog.info? 85 = some (Try.types.getD 85 default)), by kernel_rfl, by kernel_rfl, by kernel_rfl⟩
abbrev und86 := @Und.mk Try.prog 86 _ Try.underlying86
attribute [instance] und86
instance inf86 : Inf Try.prog 86 1 8 Go.Value.nilFunc := ⟨_, (by kernel_rfl : Try.prog.info? 86 = some (Try.types.getD 86 default)), by kernel_rfl, by kernel_rfl, by kernel_rfl⟩
abbrev und87 := @Und.mk Try.prog 87 _ Try.underlying87
attribute [instance] und87
instance inf87 : Inf Try.prog 87 1 8 (Go.Value.int Go.IntKind.u64 0) := ⟨_, (by kernel_rfl : Try.prog.info? 87 = some (Try.types.getD 87 default)), by kernel_rfl, by kernel_rfl, by kernel_rfl⟩
abbrev und88 := @Und.mk Try.prog 88 _ Try.underlying88
attribute [instance] und88
instance inf88 : Inf Try.prog 88 1 8 Go.Value.nilFunc := ⟨_, (by kernel_rfl : Try.prog.info? 88 = some (Try.types.getD 88 default)), by kernel_rfl, by kernel_rfl, by kernel_rfl⟩
abbrev und89 := @Und.mk Try.prog 89 _ Try.underlying89
attribute [instance] und89
instance inf89 : Inf Try.prog 89 1 8 Go.Value.nilFunc := ⟨_, (by kernel_rfl : Try.prog.info? 89 = some (Try.types.getD 89 default)), by kernel_rfl, by kernel_rfl, by kernel_rfl⟩
abbrev und90 := @Und.mk Try.prog 90 _ Try.underlying90
attribute [instance] und90
instance inf90 : Inf Try.prog 90 1 8 Go.Value.nilFunc := ⟨_, (by kernel_rfl : Try.prog.info? 90 = some (Try.types.getD 90 default)), by kernel_rfl, by kernel_rfl, by kernel_rfl⟩
abbrev und91 := @Und.mk Try.prog 91 _ Try.underlying91
attribute [instance] und91
instance inf91 : Inf Try.prog 91 1 8 (Go.Value.pointer none) := ⟨_, (by kernel_rfl : Try.prog.info? 91 = some (Try.types.getD 91 default)), by kernel_rfl, by kernel_rfl, by kernel_rfl⟩
abbrev und92 := @Und.mk Try.prog 92 _ Try.underlying92
attribute [instance] und92
instance inf92 : Inf Try.prog 92 1 8 Go.Value.nilFunc := ⟨_, (by kernel_rfl : Try.prog.info? 92 = some (Try.types.getD 92 default)), by kernel_rfl, by kernel_rfl, by kernel_rfl⟩
abbrev und93 := @Und.mk Try.prog 93 _ Try.underlying93
attribute [instance] und93
instance inf93 : Inf Try.prog 93 1 8 (Go.Value.pointer none) := ⟨_, (by kernel_rfl : Try.prog.info? 93 = some (Try.types.getD 93 default)), by kernel_rfl, by kernel_rfl, by kernel_rfl⟩
abbrev und94 := @Und.mk Try.prog 94 _ Try.underlying94
attribute [instance] und94
instance inf94 : Inf Try.prog 94 1 0 (Go.Value.tuple #[Go.Value.int Go.IntKind.i64 0, Go.Value.int Go.IntKind.i64 0]) := ⟨_, (by kernel_rfl : Try.prog.info? 94 = some (Try.types.getD 94 default)), by kernel_rfl, by kernel_rfl, by kernel_rfl⟩
abbrev und95 := @Und.mk Try.prog 95 _ Try.underlying95
attribute [instance] und95
instance inf95 : Inf Try.prog 95 1 8 Go.Value.nilFunc := ⟨_, (by kernel_rfl : Try.prog.info? 95 = some (Try.types.getD 95 default)), by kernel_rfl, by kernel_rfl, by kernel_rfl⟩
abbrev und96 := @Und.mk Try.prog 96 _ Try.underlying96
attribute [instance] und96
instance inf96 : Inf Try.prog 96 1 8 Go.Value.nilFunc := ⟨_, (by kernel_rfl : Try.prog.info? 96 = some (Try.types.getD 96 default)), by kernel_rfl, by kernel_rfl, by kernel_rfl⟩
abbrev und97 := @Und.mk Try.prog 97 _ Try.underlying97
attribute [instance] und97
instance plc97 : Plc Try.prog 97 [(0, 1), (1, 1), (2, 1), (3, 1)] := ⟨_, Try.underlying97, fun _ => by kernel_rfl⟩
instance inf97 : Inf Try.prog 97 4 40 (Go.Value.agg #[Go.Value.pointer none, Go.Value.pointer none, Go.Value.pointer none, Go.Value.string { data := #[] }]) := ⟨_, (by kernel_rfl : Try.prog.info? 97 = some (Try.types.getD 97 default)), by kernel_rfl, by kernel_rfl, by kernel_rfl⟩
abbrev und98 := @Und.mk Try.prog 98 _ Try.underlying98
attribute [instance] und98
instance plc98 : Plc Try.prog 98 [(0, 1), (1, 1), (2, 1), (3, 1)] := ⟨_, Try.underlying98, fun _ => by kernel_rfl⟩
instance inf98 : Inf Try.prog 98 4 40 (Go.Value.agg #[Go.Value.pointer none, Go.Value.pointer none, Go.Value.pointer none, Go.Value.string { data := #[] }]) := ⟨_, (by kernel_rfl : Try.prog.info? 98 = some (Try.types.getD 98 default)), by kernel_rfl, by kernel_rfl, by kernel_rfl⟩
abbrev und99 := @Und.mk Try.prog 99 _ Try.underlying99
attribute [instance] und99
instance inf99 : Inf Try.prog 99 0 0 (Go.Value.agg #[]) := ⟨_, (by kernel_rfl : Try.prog.info? 99 = some (Try.types.getD 99 default)), by kernel_rfl, by kernel_rfl, by kernel_rfl⟩
abbrev und100 := @Und.mk Try.prog 100 _ Try.underlying100
attribute [instance] und100
instance plc100 : Plc Try.prog 100 [(0, 0)] := ⟨_, Try.underlying100, fun _ => by kernel_rfl⟩
instance inf100 : Inf Try.prog 100 0 0 (Go.Value.agg #[]) := ⟨_, (by kernel_rfl : Try.prog.info? 100 = some (Try.types.getD 100 default)), by kernel_rfl, by kernel_rfl, by kernel_rfl⟩
abbrev und101 := @Und.mk Try.prog 101 _ Try.underlying101
attribute [instance] und101
instance plc101 : Plc Try.prog 101 [(0, 0)] := ⟨_, Try.underlying101, fun _ => by kernel_rfl⟩
instance inf101 : Inf Try.prog 101 0 0 (Go.Value.agg #[]) := ⟨_, (by kernel_rfl : Try.prog.info? 101 = some (Try.types.getD 101 default)), by kernel_rfl, by kernel_rfl, by kernel_rfl⟩
abbrev und102 := @Und.mk Try.prog 102 _ Try.underlying102
attribute [instance] und102
instance inf102 : Inf Try.prog 102 1 8 Go.Value.nilFunc := ⟨_, (by kernel_rfl : Try.prog.info? 102 = some (Try.types.getD 102 default)), by kernel_rfl, by kernel_rfl, by kernel_rfl⟩
abbrev und103 := @Und.mk Try.prog 103 _ Try.underlying103
attribute [instance] und103
instance inf103 : Inf Try.prog 103 1 1 (Go.Value.int Go.IntKind.u8 0) := ⟨_, (by kernel_rfl : Try.prog.info? 103 = some (Try.types.getD 103 default)), by kernel_rfl, by kernel_rfl, by kernel_rfl⟩
abbrev und104 := @Und.mk Try.prog 104 _ Try.underlying104
attribute [instance] und104
instance inf104 : Inf Try.prog 104 1 1 (Go.Value.int Go.IntKind.u8 0) := ⟨_, (by kernel_rfl : Try.prog.info? 104 = some (Try.types.getD 104 default)), by kernel_rfl, by kernel_rfl, by kernel_rfl⟩
abbrev und105 := @Und.mk Try.prog 105 _ Try.underlying105
attribute [instance] und105
instance inf105 : Inf Try.prog 105 1 8 Go.Value.nilFunc := ⟨_, (by kernel_rfl : Try.prog.info? 105 = some (Try.types.getD 105 default)), by kernel_rfl, by kernel_rfl, by kernel_rfl⟩
abbrev und106 := @Und.mk Try.prog 106 _ Try.underlying106
attribute [instance] und106
instance inf106 : Inf Try.prog 106 1 8 (Go.Value.pointer none) := ⟨_, (by kernel_rfl : Try.prog.info? 106 = some (Try.types.getD 106 default)), by kernel_rfl, by kernel_rfl, by kernel_rfl⟩
abbrev und107 := @Und.mk Try.prog 107 _ Try.underlying107
attribute [instance] und107
instance inf107 : Inf Try.prog 107 1 4 (Go.Value.int Go.IntKind.i32 0) := ⟨_, (by kernel_rfl : Try.prog.info? 107 = some (Try.types.getD 107 default)), by kernel_rfl, by kernel_rfl, by kernel_rfl⟩
abbrev und108 := @Und.mk Try.prog 108 _ Try.underlying108
attribute [instance] und108
instance inf108 : Inf Try.prog 108 1 4 (Go.Value.int Go.IntKind.i32 0) := ⟨_, (by kernel_rfl : Try.prog.info? 108 = some (Try.types.getD 108 default)), by kernel_rfl, by kernel_rfl, by kernel_rfl⟩
abbrev und109 := @Und.mk Try.prog 109 _ Try.underlying109
attribute [instance] und109
instance plc109 : Plc Try.prog 109 [(0, 1), (1, 1), (2, 1), (3, 1), (4, 1), (5, 1), (6, 1), (7, 1), (8, 1), (9, 1), (10, 1)] := ⟨_, Try.underlying109, fun _ => by kernel_rfl⟩
instance inf109 : Inf Try.prog 109 11 48 (Go.Value.agg #[Go.Value.int Go.IntKind.u64 0, Go.Value.int Go.IntKind.u64 0, Go.Value.int Go.IntKind.u32 0, Go.Value.int Go.IntKind.u8 0, Go.Value.int Go.IntKind.u8 0, Go.Value.int Go.IntKind.u8 0, Go.Value.int Go.IntKind.u8 0, Go.Value.nilFunc, Go.Value.pointer none, Go.Value.int Go.IntKind.i32 0, Go.Value.int Go.IntKind.i32 0]) := ⟨_, (by kernel_rfl : Try.prog.info? 109 = some (Try.types.getD 109 default)), by kernel_rfl, by kernel_rfl, by kernel_rfl⟩
abbrev und110 := @Und.mk Try.prog 110 _ Try.underlying110
attribute [instance] und110
instance plc110 : Plc Try.prog 110 [(0, 1), (1, 1), (2, 1), (3, 1), (4, 1), (5, 1), (6, 1), (7, 1), (8, 1), (9, 1), (10, 1)] := ⟨_, Try.underlying110, fun _ => by kernel_rfl⟩
instance inf110 : Inf Try.prog 110 11 48 (Go.Value.agg #[Go.Value.int Go.IntKind.u64 0, Go.Value.int Go.IntKind.u64 0, Go.Value.int Go.IntKind.u32 0, Go.Value.int Go.IntKind.u8 0, Go.Value.int Go.IntKind.u8 0, Go.Value.int Go.IntKind.u8 0, Go.Value.int Go.IntKind.u8 0, Go.Value.nilFunc, Go.Value.pointer none, Go.Value.int Go.IntKind.i32 0, Go.Value.int Go.IntKind.i32 0]) := ⟨_, (by kernel_rfl : Try.prog.info? 110 = some (Try.types.getD 110 default)), by kernel_rfl, by kernel_rfl, by kernel_rfl⟩
abbrev und111 := @Und.mk Try.prog 111 _ Try.underlying111
attribute [instance] und111
instance inf111 : Inf Try.prog 111 1 8 (Go.Value.pointer none) := ⟨_, (by kernel_rfl : Try.prog.info? 111 = some (Try.types.getD 111 default)), by kernel_rfl, by kernel_rfl, by kernel_rfl⟩
instance fun3 : Fun Try.prog 3 := ⟨_, Try.func3, by kernel_rfl, by kernel_rfl⟩
instance fun4 : Fun Try.prog 4 := ⟨_, Try.func4, by kernel_rfl, by kernel_rfl⟩
instance fun5 : Fun Try.prog 5 := ⟨_, Try.func5, by kernel_rfl, by kernel_rfl⟩
instance fun6 : Fun Try.prog 6 := ⟨_, Try.func6, by kernel_rfl, by kernel_rfl⟩
instance fun7 : Fun Try.prog 7 := ⟨_, Try.func7, by kernel_rfl, by kernel_rfl⟩
instance fun8 : Fun Try.prog 8 := ⟨_, Try.func8, by kernel_rfl, by kernel_rfl⟩
instance fun9 : Fun Try.prog 9 := ⟨_, Try.func9, by kernel_rfl, by kernel_rfl⟩
instance fun10 : Fun Try.prog 10 := ⟨_, Try.func10, by kernel_rfl, by kernel_rfl⟩
instance fun11 : Fun Try.prog 11 := ⟨_, Try.func11, by kernel_rfl, by kernel_rfl⟩
instance fun12 : Fun Try.prog 12 := ⟨_, Try.func12, by kernel_rfl, by kernel_rfl⟩
instance fun13 : Fun Try.prog 13 := ⟨_, Try.func13, by kernel_rfl, by kernel_rfl⟩
instance fun14 : Fun Try.prog 14 := ⟨_, Try.func14, by kernel_rfl, by kernel_rfl⟩
instance fun15 : Fun Try.prog 15 := ⟨_, Try.func15, by kernel_rfl, by kernel_rfl⟩
instance fun16 : Fun Try.prog 16 := ⟨_, Try.func16, by kernel_rfl, by kernel_rfl⟩
instance fun17 : Fun Try.prog 17 := ⟨_, Try.func17, by kernel_rfl, by kernel_rfl⟩
instance fun18 : Fun Try.prog 18 := ⟨_, Try.func18, by kernel_rfl, by kernel_rfl⟩
instance fun19 : Fun Try.prog 19 := ⟨_, Try.func19, by kernel_rfl, by kernel_rfl⟩
instance fun20 : Fun Try.prog 20 := ⟨_, Try.func20, by kernel_rfl, by kernel_rfl⟩
instance fun21 : Fun Try.prog 21 := ⟨_, Try.func21, by kernel_rfl, by kernel_rfl⟩
instance fun22 : Fun Try.prog 22 := ⟨_, Try.func22, by kernel_rfl, by kernel_rfl⟩
instance fun23 : Fun Try.prog 23 := ⟨_, Try.func23, by kernel_rfl, by kernel_rfl⟩
instance fun24 : Fun Try.prog 24 := ⟨_, Try.func24, by kernel_rfl, by kernel_rfl⟩
instance fun25 : Fun Try.prog 25 := ⟨_, Try.func25, by kernel_rfl, by kernel_rfl⟩
instance fun26 : Fun Try.prog 26 := ⟨_, Try.func26, by kernel_rfl, by kernel_rfl⟩
instance fun27 : Fun Try.prog 27 := ⟨_, Try.func27, by kernel_rfl, by kernel_rfl⟩
instance fun28 : Fun Try.prog 28 := ⟨_, Try.func28, by kernel_rfl, by kernel_rfl⟩
instance fun29 : Fun Try.prog 29 := ⟨_, Try.func29, by kernel_rfl, by kernel_rfl⟩
instance fun30 : Fun Try.prog 30 := ⟨_, Try.func30, by kernel_rfl, by kernel_rfl⟩
instance fun31 : Fun Try.prog 31 := ⟨_, Try.func31, by kernel_rfl, by kernel_rfl⟩
instance fun32 : Fun Try.prog 32 := ⟨_, Try.func32, by kernel_rfl, by kernel_rfl⟩
instance fun33 : Fun Try.prog 33 := ⟨_, Try.func33, by kernel_rfl, by kernel_rfl⟩
instance fun34 : Fun Try.prog 34 := ⟨_, Try.func34, by kernel_rfl, by kernel_rfl⟩
instance fun35 : Fun Try.prog 35 := ⟨_, Try.func35, by kernel_rfl, by kernel_rfl⟩
instance fun36 : Fun Try.prog 36 := ⟨_, Try.func36, by kernel_rfl, by kernel_rfl⟩
instance fun37 : Fun Try.prog 37 := ⟨_, Try.func37, by kernel_rfl, by kernel_rfl⟩
instance fun38 : Fun Try.prog 38 := ⟨_, Try.func38, by kernel_rfl, by kernel_rfl⟩
instance fun39 : Fun Try.prog 39 := ⟨_, Try.func39, by kernel_rfl, by kernel_rfl⟩
instance fun40 : Fun Try.prog 40 := ⟨_, Try.func40, by kernel_rfl, by kernel_rfl⟩
instance fun41 : Fun Try.prog 41 := ⟨_, Try.func41, by kernel_rfl, by kernel_rfl⟩
instance fun42 : Fun Try.prog 42 := ⟨_, Try.func42, by kernel_rfl, by kernel_rfl⟩
instance fun43 : Fun Try.prog 43 := ⟨_, Try.func43, by kernel_rfl, by kernel_rfl⟩
instance fun44 : Fun Try.prog 44 := ⟨_, Try.func44, by kernel_rfl, by kernel_rfl⟩
instance fun45 : Fun Try.prog 45 := ⟨_, Try.func45, by kernel_rfl, by kernel_rfl⟩
instance fun46 : Fun Try.prog 46 := ⟨_, Try.func46, by kernel_rfl, by kernel_rfl⟩
instance fun47 : Fun Try.prog 47 := ⟨_, Try.func47, by kernel_rfl, by kernel_rfl⟩
instance fun48 : Fun Try.prog 48 := ⟨_, Try.func48, by kernel_rfl, by kernel_rfl⟩
instance fun49 : Fun Try.prog 49 := ⟨_, Try.func49, by kernel_rfl, by kernel_rfl⟩
instance fun50 : Fun Try.prog 50 := ⟨_, Try.func50, by kernel_rfl, by kernel_rfl⟩
instance fun51 : Fun Try.prog 51 := ⟨_, Try.func51, by kernel_rfl, by kernel_rfl⟩
instance fun52 : Fun Try.prog 52 := ⟨_, Try.func52, by kernel_rfl, by kernel_rfl⟩
instance fun53 : Fun Try.prog 53 := ⟨_, Try.func53, by kernel_rfl, by kernel_rfl⟩
instance fun54 : Fun Try.prog 54 := ⟨_, Try.func54, by kernel_rfl, by kernel_rfl⟩
instance fun55 : Fun Try.prog 55 := ⟨_, Try.func55, by kernel_rfl, by kernel_rfl⟩
instance fun56 : Fun Try.prog 56 := ⟨_, Try.func56, by kernel_rfl, by kernel_rfl⟩
instance fun57 : Fun Try.prog 57 := ⟨_, Try.func57, by kernel_rfl, by kernel_rfl⟩
instance fun58 : Fun Try.prog 58 := ⟨_, Try.func58, by kernel_rfl, by kernel_rfl⟩
instance fun59 : Fun Try.prog 59 := ⟨_, Try.func59, by kernel_rfl, by kernel_rfl⟩
instance fun60 : Fun Try.prog 60 := ⟨_, Try.func60, by kernel_rfl, by kernel_rfl⟩
instance fun61 : Fun Try.prog 61 := ⟨_, Try.func61, by kernel_rfl, by kernel_rfl⟩
instance fun62 : Fun Try.prog 62 := ⟨_, Try.func62, by kernel_rfl, by kernel_rfl⟩
instance fun63 : Fun Try.prog 63 := ⟨_, Try.func63, by kernel_rfl, by kernel_rfl⟩
instance fun64 : Fun Try.prog 64 := ⟨_, Try.func64, by kernel_rfl, by kernel_rfl⟩
instance fun65 : Fun Try.prog 65 := ⟨_, Try.func65, by kernel_rfl, by kernel_rfl⟩
instance fun66 : Fun Try.prog 66 := ⟨_, Try.func66, by kernel_rfl, by kernel_rfl⟩
instance fun67 : Fun Try.prog 67 := ⟨_, Try.func67, by kernel_rfl, by kernel_rfl⟩
instance fun68 : Fun Try.prog 68 := ⟨_, Try.func68, by kernel_rfl, by kernel_rfl⟩
instance fun69 : Fun Try.prog 69 := ⟨_, Try.func69, by kernel_rfl, by kernel_rfl⟩
instance fun70 : Fun Try.prog 70 := ⟨_, Try.func70, by kernel_rfl, by kernel_rfl⟩
instance fun71 : Fun Try.prog 71 := ⟨_, Try.func71, by kernel_rfl, by kernel_rfl⟩
instance fun72 : Fun Try.prog 72 := ⟨_, Try.func72, by kernel_rfl, by kernel_rfl⟩
instance fun73 : Fun Try.prog 73 := ⟨_, Try.func73, by kernel_rfl, by kernel_rfl⟩
instance fun75 : Fun Try.prog 75 := ⟨_, Try.func75, by kernel_rfl, by kernel_rfl⟩
instance fun76 : Fun Try.prog 76 := ⟨_, Try.func76, by kernel_rfl, by kernel_rfl⟩
instance fun77 : Fun Try.prog 77 := ⟨_, Try.func77, by kernel_rfl, by kernel_rfl⟩
instance fun78 : Fun Try.prog 78 := ⟨_, Try.func78, by kernel_rfl, by kernel_rfl⟩
instance fun79 : Fun Try.prog 79 := ⟨_, Try.func79, by kernel_rfl, by kernel_rfl⟩
instance fun80 : Fun Try.prog 80 := ⟨_, Try.func80, by kernel_rfl, by kernel_rfl⟩
instance fun81 : Fun Try.prog 81 := ⟨_, Try.func81, by kernel_rfl, by kernel_rfl⟩
instance fun82 : Fun Try.prog 82 := ⟨_, Try.func82, by kernel_rfl, by kernel_rfl⟩
instance fun83 : Fun Try.prog 83 := ⟨_, Try.func83, by kernel_rfl, by kernel_rfl⟩
end Sl
end Go.Proofs.Ytdbmmnpnhpiecaa

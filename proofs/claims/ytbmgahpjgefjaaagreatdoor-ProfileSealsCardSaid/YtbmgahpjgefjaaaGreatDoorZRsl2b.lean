/-
  The reference's Seal in profile 1: its runs, one for each order in which its operations may come (no text).
-/
import Derived.Test.YtbmgahpjgefjaaaGreatDoorPk19
namespace Go.Proofs.YtbmgahpjgefjaaaGreatDoor.Aes
open Go.Sim
open Go.Proofs
set_option maxRecDepth 1000000
section
variable (F:HashF) (E D:CtsF) (v u:Int) (k c t:Sl) (m m2 m3:Nat) (z:Nat→Nat→Nat)
theorem q29:mapN (fun i=>outZ [18] (rlT F E D 1 16 v u (k.pl m) (c.pl m2) ((t.pl m3).valN 7 0) [(t.pl m3).row]) (rlD i) z) (qka 84 0)=mapN (fun i=>(rlQ 1 16 v u k [] (app (rlDC (z 0 0) i) (rl1Z F E u k c [t.o+0≤t.N])),rlR0 F 1 16 18 v u k (rlC (rlC0 F E k u c) 16))) (qka 84 0):=by kernel_rfl
theorem q39:mapN (fun i=>outZ [18] (rlT F E D 1 16 v u (k.pl m) (c.pl m2) ((t.pl m3).valN 7 0) [(t.pl m3).row]) (rlD i) z) (qka 84 84)=mapN (fun i=>(rlQ 1 16 v u k [] (app (rlDC (z 0 0) i) (rl1Z F E u k c [t.o+0≤t.N])),rlR0 F 1 16 18 v u k (rlC (rlC0 F E k u c) 16))) (qka 84 84):=by kernel_rfl
theorem q49:mapN (fun i=>outZ [18] (rlT F E D 1 16 v u (k.pl m) (c.pl m2) ((t.pl m3).valN 7 0) [(t.pl m3).row]) (rlD i) z) (qka 84 168)=mapN (fun i=>(rlQ 1 16 v u k [] (app (rlDC (z 0 0) i) (rl1Z F E u k c [t.o+0≤t.N])),rlR0 F 1 16 18 v u k (rlC (rlC0 F E k u c) 16))) (qka 84 168):=by kernel_rfl
theorem q59:mapN (fun i=>outZ [18] (rlT F E D 1 16 v u (k.pl m) (c.pl m2) ((t.pl m3).valN 7 0) [(t.pl m3).row]) (rlD i) z) (qka 84 252)=mapN (fun i=>(rlQ 1 16 v u k [] (app (rlDC (z 0 0) i) (rl1Z F E u k c [t.o+0≤t.N])),rlR0 F 1 16 18 v u k (rlC (rlC0 F E k u c) 16))) (qka 84 252):=by kernel_rfl
theorem jge:mapN (fun i=>outZ [17] (rlT F E D 1 16 v u (k.pl m) (c.pl m2) .nilSlice []) (rlD i) z) (qka 84 0)=mapN (fun i=>(rlQ 1 16 v u k [] (app (rlDC (z 0 0) i) (rl1Z F E u k c [])),rlR0 F 1 16 17 v u k (rlC (rlC0 F E k u c) 16))) (qka 84 0):=by kernel_rfl
theorem jhe:mapN (fun i=>outZ [17] (rlT F E D 1 16 v u (k.pl m) (c.pl m2) .nilSlice []) (rlD i) z) (qka 84 84)=mapN (fun i=>(rlQ 1 16 v u k [] (app (rlDC (z 0 0) i) (rl1Z F E u k c [])),rlR0 F 1 16 17 v u k (rlC (rlC0 F E k u c) 16))) (qka 84 84):=by kernel_rfl
theorem jie:mapN (fun i=>outZ [17] (rlT F E D 1 16 v u (k.pl m) (c.pl m2) .nilSlice []) (rlD i) z) (qka 84 168)=mapN (fun i=>(rlQ 1 16 v u k [] (app (rlDC (z 0 0) i) (rl1Z F E u k c [])),rlR0 F 1 16 17 v u k (rlC (rlC0 F E k u c) 16))) (qka 84 168):=by kernel_rfl
theorem jje:mapN (fun i=>outZ [17] (rlT F E D 1 16 v u (k.pl m) (c.pl m2) .nilSlice []) (rlD i) z) (qka 84 252)=mapN (fun i=>(rlQ 1 16 v u k [] (app (rlDC (z 0 0) i) (rl1Z F E u k c [])),rlR0 F 1 16 17 v u k (rlC (rlC0 F E k u c) 16))) (qka 84 252):=by kernel_rfl
end
end Go.Proofs.YtbmgahpjgefjaaaGreatDoor.Aes

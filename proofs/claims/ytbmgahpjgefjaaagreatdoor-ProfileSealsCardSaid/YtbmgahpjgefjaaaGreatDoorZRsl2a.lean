/-
  The reference's Seal in profile 1: its runs, one for each order in which its operations may come (a text).
-/
import Derived.Test.YtbmgahpjgefjaaaGreatDoorPk19
namespace Go.Proofs.YtbmgahpjgefjaaaGreatDoor.Aes
open Go.Sim
open Go.Proofs
set_option maxRecDepth 1000000
section
variable (F:HashF) (E D:CtsF) (v u:Int) (k c t:Sl) (m m2 m3:Nat) (z:Nat→Nat→Nat)
theorem jce:mapN (fun i=>outZ [19] (rlT F E D 1 16 v u (k.pl m) (c.pl m2) ((t.pl m3).val 7) [(t.pl m3).row]) (app [false] (app (rlD i) [false])) z) (qka 84 0)=mapN (fun i=>(rlQ 1 16 v u k (qkq t) (app (rlDC (z 0 0) i) (rl1C F E u k c t)),rl1R F E v u k c t)) (qka 84 0):=by kernel_rfl
theorem jde:mapN (fun i=>outZ [19] (rlT F E D 1 16 v u (k.pl m) (c.pl m2) ((t.pl m3).val 7) [(t.pl m3).row]) (app [false] (app (rlD i) [false])) z) (qka 84 84)=mapN (fun i=>(rlQ 1 16 v u k (qkq t) (app (rlDC (z 0 0) i) (rl1C F E u k c t)),rl1R F E v u k c t)) (qka 84 84):=by kernel_rfl
theorem jee:mapN (fun i=>outZ [19] (rlT F E D 1 16 v u (k.pl m) (c.pl m2) ((t.pl m3).val 7) [(t.pl m3).row]) (app [false] (app (rlD i) [false])) z) (qka 84 168)=mapN (fun i=>(rlQ 1 16 v u k (qkq t) (app (rlDC (z 0 0) i) (rl1C F E u k c t)),rl1R F E v u k c t)) (qka 84 168):=by kernel_rfl
theorem jfe:mapN (fun i=>outZ [19] (rlT F E D 1 16 v u (k.pl m) (c.pl m2) ((t.pl m3).val 7) [(t.pl m3).row]) (app [false] (app (rlD i) [false])) z) (qka 84 252)=mapN (fun i=>(rlQ 1 16 v u k (qkq t) (app (rlDC (z 0 0) i) (rl1C F E u k c t)),rl1R F E v u k c t)) (qka 84 252):=by kernel_rfl
end
end Go.Proofs.YtbmgahpjgefjaaaGreatDoor.Aes
